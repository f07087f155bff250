/- AmV: functions whose results may share, and that may change the cells of one pointer: what is said of them, and the caller's side of a call. No condition. -/
import Derived.Test.YtbgmbplglejidaaAmU
set_option linter.unusedVariables false
namespace Go.Am
structure Mz (w:World) (ds:List Dv) (vals:List Value) (pas:List PA):Prop where
 l1:vals.length=ds.length
 l2:pas.length=ds.length
 at_:∀(i:Nat) (d:Dv) (v:Value) (p:PA),ds[i]? =some d->vals[i]? =some v->pas[i]? =some p->zZ w d v p
 iu:∀p∈pas,p.k=.ptr->dH w p.b/\∀q∈pas,∀pc∈q.ps,¬aT p.b pc
 one:∀(i j:Nat) (p q:PA),pas[i]? =some p->pas[j]? =some q->p.k=.ptr->q.k=.ptr->i=j
def Az (w:World) (pas:List PA) (b:Nat):Prop:=w.heap.size<=b\/∃q∈pas,∃pc∈q.ps,aT b pc
def Yh (pas:List PA):Ex:=⟨fun b=>∃p∈pas,p.k=.ptr/\b=p.b,fun _=>none,fun _ _ h=>(by cases h),fun _=>True⟩
def zB (p:PA):Value:=
 match p.k with
 |.one=>match p.ps with
  |[pc]=>pc.val
  |_=>.agg (p.ps.map PC.val).toArray
 |.agg=>.agg (p.ps.map PC.val).toArray
 |.ptr=>.pointer (some (ad p.b p.o))
def zC:List PA->Value
 |[p]=>zB p
 |l=>.tuple (l.map zB).toArray
def GR (w:World) (b o:Nat) (ps:List PC):Prop:=∀(j:Nat) (c:PC),ps[j]? =some c->w.cell? (ad b (o+j))=some c.val
structure My (w w':World) (pas aW:List PA) (qs:List PC):Prop where
 one:∀p∈aW,p.k=.one->p.ps.length=1
 ptr:∀p∈aW,p.k=.ptr->aW.length=1/\w.heap.size<=p.b/\dH w' p.b/\GR w' p.b p.o p.ps/\(∀pc∈p.ps,¬aT p.b pc)/\∀pc∈qs,¬aT p.b pc
 eA:∀p∈aW,∀pc∈p.ps,Good w' pc/\∀b,aT b pc->Az w pas b
 fr:Fr w.heap.size (Yh pas) w w'
 out:∀pc∈qs,Good w' pc/\∀b,aT b pc->Az w pas b
 at_:∀p∈pas,p.k=.ptr->GR w' p.b p.o qs
def kT (P:Program) (f:FuncId) (M:List Dv->Option (List Dv×List C)):Prop:=
 ∀ds rs out,M ds=some (rs,out)->∀(w:World) (vals:List Value) (pas:List PA),Mz w ds vals pas->Calls P f vals.toArray w fun e w'=>
  ∃(aW:List PA) (qs:List PC),aW.map (fun p=>(p.k,p.ps.map PC.er))=rs/\e=.returned (zC aW)/\qs.map PC.er=out/\My w w' pas aW qs
def Ay (P:Program) (T:aO):Prop:=∀f M,aO.kw T.vs f=some M->kT P f M
section
variable {B:Nat} {E:Ex} {w0 w w':World} {G G':Gh} {N:Nat} {h h':Nat->Option ao} {used used':Nat->Bool} {tk:List PC}
variable {P:Program} {o:Oper} {a:Act} {σ σ':St} {Q:Exit->Act->World->Prop}
theorem HR.oJ {c:ah} {x:C} {v:Value} (hx:Am.oJ c=some x) (hc:RC w G h c v):∃pc:PC,pc.er=x/\pc.val=v/\Good w pc/\∀b,aT b pc->G.Im b:=by
 cases c with
 |c y=>
  simp only[Am.oJ] at hx
  injection hx with hx
  subst hx
  exact hc
 |nil sz=>
  simp only[Am.oJ] at hx
  split at hx
  ·rename_i dR
   injection hx with hx
   subst hx
   have cC:v=.slice none 0 0:=hc
   subst cC
   refine⟨.list sz none 0 [],by simp[PC.dO],rfl,.nil _ _ _ dR,fun b hb=>?_⟩
   rw[aT.kI] at hb
   rcases hb with⟨hb,_⟩|⟨k,j,c,⟨e,he,_⟩,_⟩
   ·exact absurd rfl hb
   ·simp at he
  ·cases hx
 |_=>simp[Am.oJ] at hx
theorem HR.jJ:∀{cs:List ah} {xs:List C} {vs:List Value},Am.jJ cs=some xs->cT w G h cs vs->∃ps:List PC,ps.map PC.er=xs/\ps.map PC.val=vs/\∀pc∈ps,Good w pc/\∀b,aT b pc->G.Im b
 |[],xs,vs,hx,hc=>by
  simp only[Am.jJ] at hx
  injection hx with hx
  subst hx
  have:vs=[]:=List.eq_nil_of_length_eq_zero (by simpa using hc.1)
  subst this
  exact⟨[],rfl,rfl,by simp⟩
 |c::cs,xs,vs,hx,hc=>by
  simp only[Am.jJ] at hx
  split at hx
  ·rename_i x aq e1 e2
   injection hx with hx
   subst hx
   match vs,hc.1 with
   |v::vs,hl=>
    obtain⟨pc,a1,a2,a3,a4⟩:=HR.oJ e1 (hc.2 0 c v rfl rfl).2
    obtain⟨ps,b1,b2,b3⟩:=HR.jJ (vs:=vs) e2 ⟨by simpa using hl,fun j c u h1 h2=>hc.2 (j+1) c u h1 h2⟩
    refine⟨pc::ps,by simp[a1,b1],by simp[a2,b2],fun q hq=>?_⟩
    cases hq with
    |head=>exact⟨a3,a4⟩
    |tail _ hq=>exact b3 q hq
  ·cases hx
theorem HR.Ij (H:HR B E w G h used tk) {n:Nat} {cs:List ah} (hn:h n=some (.box cs)):∃vs:List Value,cT w G h cs vs/\∀(j:Nat) (v:Value),vs[j]? =some v->w.cell? (ad (G.g n).b ((G.g n).o+j))=some v:=by
 obtain⟨_,_,a3⟩:=H.box n cs hn
 have hj:∀j:Fin cs.length,∃v,w.cell? (ad (G.g n).b ((G.g n).o+j.1))=some v/\v.oneCell'=true/\RC w G h cs[j.1] v:=fun j=>a3 j.1 _ (List.getElem?_eq_getElem j.2)
 refine⟨List.ofFn fun j=>Classical.choose (hj j),⟨by simp,fun j c u hc hu=>?_⟩,fun j v hv=>?_⟩
 ·obtain⟨hl,e⟩:=List.getElem?_eq_some_iff.1 hc
  rw[List.getElem?_ofFn,dif_pos hl] at hu
  injection hu with hu
  subst hu e
  exact(Classical.choose_spec (hj ⟨j,hl⟩)).2
 ·by_cases hl:j<cs.length
  ·rw[List.getElem?_ofFn,dif_pos hl] at hv
   injection hv with hv
   subst hv
   exact(Classical.choose_spec (hj ⟨j,hl⟩)).1
  ·rw[List.getElem?_eq_none (by simp;omega)] at hv;cases hv
theorem apG {σ1:St} {c:ah} {x:C} {o:Bool} (hx:σ.fQ c=some (x,o,σ1)) {n:Nat} {cs:List ah} (hn:σ.h n=some (.box cs)):σ1.h n=some (.box cs):=by
 cases c with
 |c y=>simp only[St.fQ] at hx;injection hx with hx;injection hx with _ hx;injection hx with _ hx;subst hx;exact hn
 |nil sz=>
  simp only[St.fQ] at hx
  split at hx
  ·injection hx with hx;injection hx with _ hx;injection hx with _ hx;subst hx;exact hn
  ·cases hx
 |sl q sz lo len=>
  simp only[St.fQ] at hx
  split at hx
  ·rename_i gr m rs xs hq
   split at hx
   ·injection hx with hx;injection hx with _ hx;injection hx with _ hx;subst hx
    have aC:n≠q:=by rintro rfl;rw[hq] at hn;cases hn
    show av σ.h q none n=_
    rw[cz _ _ _ _ aC];exact hn
   ·cases hx
  ·cases hx
 |_=>simp[St.fQ] at hx
theorem VW:∀{l:List ah} {σ σ1:St} {xs:List C} {o:Bool},σ.fv l=some (xs,o,σ1)->∀{n:Nat} {cs:List ah},σ.h n=some (.box cs)->σ1.h n=some (.box cs)
 |[],σ,σ1,xs,o,hx,n,cs,hn=>by simp only[St.fv] at hx;injection hx with hx;injection hx with _ hx;injection hx with _ hx;subst hx;exact hn
 |c::l,σ,σ2,xs,o,hx,n,cs,hn=>by
  simp only[St.fv] at hx
  split at hx
  ·rename_i x o1 σ1 e1
   split at hx
   ·rename_i aq o2 Wh e2
    injection hx with hx;injection hx with _ hx;injection hx with _ hx;subst hx
    exact VW e2 (apG e1 hn)
   ·cases hx
  ·cases hx
theorem MI:∀{as:List aj} {σ σ1:St} {ds:List Dv} {ns:List Nat},σ.g0 as=some (ds,ns,σ1)->∀{n:Nat} {cs:List ah},σ.h n=some (.box cs)->σ1.h n=some (.box cs)
 |[],σ,σ1,ds,ns,hx,n,cs,hn=>by simp only[St.g0] at hx;injection hx with hx;injection hx with _ hx;injection hx with _ hx;subst hx;exact hn
 |v::as,σ,σ2,ds,ns,hx,n,cs,hn=>by
  simp only[St.g0] at hx
  split at hx
  ·split at hx
   ·rename_i e
    injection hx with hx;injection hx with _ hx;injection hx with _ hx;subst hx
    exact MI e hn
   ·cases hx
  ·split at hx
   ·split at hx
    ·rename_i e1
     split at hx
     ·rename_i e2
      injection hx with hx;injection hx with _ hx;injection hx with _ hx;subst hx
      exact MI e2 (VW e1 hn)
     ·cases hx
    ·cases hx
   ·cases hx
def mb (pas:List PA):List PA:=pas.filter fun p=>decide (p.k=.ptr)
def Wj (G:Gh) (h:Nat->Option ao) (p:PA) (n:Nat):Prop:=∃cs,h n=some (.box cs)/\p.b=(G.g n).b/\p.o=(G.g n).o/\p.ps.length=cs.length
theorem ML {v:aj} {n:Nat} {xs:List C} (hx:lY h v=some (n,xs)):∃sz cs,v=.one (.ptr n 0 sz 0)/\h n=some (.box cs)/\jJ cs=some xs:=by
 unfold lY at hx
 split at hx
 ·rename_i q k sz off
  split at hx
  ·rename_i hc
   obtain⟨rfl,rfl⟩:=hc
   split at hx
   ·rename_i cs hq
    split at hx
    ·rename_i ys e
     injection hx with hx
     injection hx with h1 h2
     subst h1 h2
     exact⟨sz,cs,rfl,hq,e⟩
    ·cases hx
   ·cases hx
  ·cases hx
 ·cases hx
theorem HR.g0:∀{as:List aj} {vals:List Value} {σ σ1:St} {G:Gh} {ds:List Dv} {ns:List Nat},HR B E w G σ.h σ.used []->σ.g0 as=some (ds,ns,σ1)->vals.length=as.length->
  (∀(j:Nat) (x:aj) (v:Value),as[j]? =some x->vals[j]? =some v->RA w G σ.h x v)->(∀x∈as,∀m,x.ref m->σ.used m=true)->
  ∃(Im':Nat->Prop) (pas:List PA),pas.length=ds.length/\vals.length=ds.length/\(∀(i:Nat) (d:Dv) (v:Value) (p:PA),ds[i]? =some d->vals[i]? =some v->pas[i]? =some p->zZ w d v p)/\
   (∀p∈pas,∀pc∈p.ps,∀b,aT b pc->Im' b)/\(mb pas).length=ns.length/\(∀(i:Nat) (p:PA) (n:Nat),(mb pas)[i]? =some p->ns[i]? =some n->Wj G σ1.h p n)/\
   HR B E w ⟨Im',G.g⟩ σ1.h σ1.used []/\bf w G σ.h (fun n=>σ.used n=true) w ⟨Im',G.g⟩ σ1.h/\σ1.env=σ.env/\σ1.used=σ.used
 |[],vals,σ,σ1,G,ds,ns,H,hx,hl,hc,hr=>by
  simp only[St.g0] at hx
  injection hx with hx
  injection hx with h1 h2
  injection h2 with h2 h3
  subst h1 h2 h3
  exact⟨G.Im,[],rfl,by simpa using hl,by simp,by simp,rfl,by simp[mb],H,bf.refl _ _ _ _,rfl,rfl⟩
 |x::as,vals,σ,σ2,G,ds,ns,H,hx,hl,hc,hr=>by
  match vals,hl with
  |v::vals,hl=>
   simp only[St.g0] at hx
   split at hx
   ·rename_i n xs hp
    split at hx
    ·rename_i ue ki σ1 e
     injection hx with hx
     injection hx with h1 h2
     injection h2 with h2 h3
     subst h1 h2 h3
     obtain⟨sz,cs,rfl,hn,qO⟩:=ML hp
     obtain⟨nl,un,_⟩:=H.box n cs hn
     obtain⟨vs,v1,v2⟩:=H.Ij hn
     obtain⟨ps,p1,p2,p3⟩:=HR.jJ qO v1
     have hv:v=.pointer (some (ad (G.g n).b (G.g n).o)):=by
      have h0:=hc 0 _ v rfl rfl
      rcases h0 with h0|h0
      ·cases h0
      ·have h1:RC w G σ.h (.ptr n 0 sz 0) v:=(h0.2 0 _ v rfl rfl).2
       simpa using(h1 (by rw[hn];simp)).2
     obtain⟨Im',pas,b1,b2,b3,b4,b5,b6,b7,b8,b9,vS⟩:=HR.g0 (as:=as) (vals:=vals) H e (by simpa using hl) (fun j x v h1 h2=>hc (j+1) x v h1 h2) (fun x hx=>hr x (by simp[hx]))
     have hk:(Am.K.ptr=Am.K.ptr)=True:=by simp
     refine⟨Im',⟨.ptr,ps,(G.g n).b,(G.g n).o⟩::pas,by simp[b1],by simp[b2],fun i d u p hd hu gi=>?_,fun p gi pc aU b hb=>?_,by simp[mb];exact b5,fun i p m hi hm=>?_,b7,b8,b9,vS⟩
     ·cases i with
      |zero=>
       simp at hd hu gi
       subst hd hu gi
       refine⟨by rw[p1],fun pc aU=>(p3 pc aU).1,hv,un.lt,fun j c hj=>v2 j _ ?_⟩
       rw[<-p2,List.getElem?_map,hj];rfl
      |succ i=>exact b3 i d u p (by simpa using hd) (by simpa using hu) (by simpa using gi)
     ·cases gi with
      |head=>exact b8.im b ((p3 pc aU).2 b hb)
      |tail _ gi=>exact b4 p gi pc aU b hb
     ·cases i with
      |zero=>
       simp[mb] at hi hm
       subst hi hm
       refine⟨cs,MI e hn,rfl,rfl,?_⟩
       have h1:ps.length=vs.length:=by rw[<-p2];simp
       exact h1.trans v1.1
      |succ i=>exact b6 i p m (by simpa[mb] using hi) (by simpa using hm)
    ·cases hx
   ·split at hx
    ·rename_i ag cs eB
     split at hx
     ·rename_i xs o σ1 e1
      split at hx
      ·rename_i ue ki Wh e2
       injection hx with hx
       injection hx with h1 h2
       injection h2 with h2 h3
       subst h1 h2 h3
       have h0:=hc 0 x v rfl rfl
       have dJ:∃vs:List Value,(if ag=true then v=.agg vs.toArray else vs=[v])/\cT w G σ.h cs vs:=by
        cases x with
        |one c=>
         have Jp:ag=false/\cs=[c]:=by cases c<;>simp[aj.cells?] at eB<;>exact⟨eB.1,eB.2.symm⟩
         obtain⟨rfl,rfl⟩:=Jp
         rcases h0 with h0|h0
         ·subst h0;simp[aj.cells?] at eB
         ·exact⟨[v],rfl,h0⟩
        |agg cs'=>
         simp[aj.cells?] at eB
         obtain⟨rfl,rfl⟩:=eB
         obtain⟨vs,e,h1⟩:∃vs:List Value,v=.agg vs.toArray/\cT w G σ.h cs' vs:=h0
         exact⟨vs,e,h1⟩
        |bq xs=>simp[aj.cells?] at eB
       obtain⟨vs,iP,bO⟩:=dJ
       obtain⟨xM,bw,a1,a2,a3,a5,a6,a7,a8,a9⟩:=H.fv e1 bO (fun c' cC m hm=>hr x (by simp) m (aj.xY eB cC hm))
       have vM:HR B E w ⟨xM,G.g⟩ σ1.h σ.used []:=by
        cases o with
        |true=>exact HR.xu (tk:=[]) (l:=bw) (by simpa using a5)
        |false=>simpa using a5
       rw[<-a8] at vM
       obtain⟨De,pas,b1,b2,b3,b4,b5,b6,b7,b8,b9,vS⟩:=HR.g0 (as:=as) (vals:=vals) (G:=⟨xM,G.g⟩) vM e2 (by simpa using hl)
        (fun j x v h1 h2=>(hc (j+1) x v h1 h2).ff a6 (fun m hm=>hr x (by simp[List.mem_of_getElem? h1]) m hm)) (fun x' fM m hm=>by rw[a8];exact hr x' (by simp[fM]) m hm)
       refine⟨De,⟨if ag=true then .agg else .one,bw,0,0⟩::pas,by simp[b1],by simp[b2],fun i d u p hd hu gi=>?_,fun p gi pc aU b hb=>?_,?_,fun i p m hi hm=>?_,b7,
        bf.trans (fun n hn=>by rw[a8];exact hn) a6 b8,b9.trans a7,vS.trans a8⟩
       ·cases i with
        |zero=>
         simp at hd hu gi
         subst hd hu gi
         cases ag with
         |true=>exact⟨by simp[a1],fun pc aU=>(a3 pc aU).1,by simp only[if_true] at iP⊢;rw[a2];exact iP⟩
         |false=>exact⟨by simp[a1],fun pc aU=>(a3 pc aU).1,by simp only[Bool.false_eq_true,if_false] at iP⊢;rw[a2];exact iP⟩
        |succ i=>exact b3 i d u p (by simpa using hd) (by simpa using hu) (by simpa using gi)
       ·cases gi with
        |head=>exact b8.im b ((a3 pc aU).2 b hb)
        |tail _ gi=>exact b4 p gi pc aU b hb
       ·cases ag<;>simp[mb]<;>exact b5
       ·refine b6 i p m ?_ hm
        cases ag<;>simpa[mb] using hi
      ·cases hx
     ·cases hx
    ·cases hx
theorem HR.Xa (H:HR B E w G h used []) {n:Nat} {cs cs':List ah} (hn:h n=some (.box cs)) (bI:w.heap.size<=w'.heap.size) (hw:∀b,b<w.heap.size->b≠(G.g n).b->w'.heap[b]? =w.heap[b]?)
  (mq:∀b,b<w.heap.size->Cz w w' b) {S:Nat->Prop} (hS:∀b,S b->w.heap.size<=b/\b<w'.heap.size/\B<=b) {ps:List PC} (fV:cs'=ps.map fun pc=>ah.c pc.er)
  (bU:∀(j:Nat) (c:PC),ps[j]? =some c->w'.cell? (ad (G.g n).b ((G.g n).o+j))=some c.val) (hJ:∀pc∈ps,Good w' pc/\∀b,aT b pc->G.Im b\/S b):
  HR B E w' ⟨fun b=>G.Im b\/S b,G.g⟩ (av h n (some (.box cs'))) used []/\bf w G h (fun n=>used n=true) w' ⟨fun b=>G.Im b\/S b,G.g⟩ (av h n (some (.box cs'))):=by
 subst fV
 have bP:h n≠none:=by rw[hn];simp
 obtain⟨aL,tn,ii⟩:=H.box n cs hn
 obtain⟨sa,qP,sb⟩:=H.own n bP aL
 have wF:=H.iK n bP
 have kp:∀IE:List ah,bf w G h (fun n=>used n=true) w' G (av h n (some (.box IE))):=by
  intro IE
  refine⟨fun _ h=>h,fun b hb x=>iJ (hw b (H.fW b hb) (fun he=>sa (he▸hb))) x,fun m hm h0=>?_,fun m gr sz xs hm h0=>?_⟩
  ·by_cases bE:m=n
   ·subst bE;exact⟨bP,rfl,rfl,rfl,rfl,rfl⟩
   ·rw[cz _ _ _ _ bE] at h0;exact⟨h0,rfl,rfl,rfl,rfl,rfl⟩
  ·by_cases bE:m=n
   ·subst bE;rw[bG] at h0;cases h0
   ·rw[cz _ _ _ _ bE] at h0;exact⟨⟨gr,xs,h0⟩,fun k j pc h1 h2=>⟨pc,h1,rfl,h2⟩⟩
 have hG:(⟨G.Im,av G.g n (G.g n)⟩:Gh)=G:=by rw[Gc]
 have H1:HR B E w' ⟨G.Im,av G.g n (G.g n)⟩ (av h n (some (.box []))) used []:=by
  refine H.put (fun b hb aC=>hw b hb (aC aL)) bI (fun b hb hU=>(mq b hb).iu hU) (fun _ h=>h) wF (fun _=>⟨sa,qP,Nat.lt_of_lt_of_le sb bI⟩)
   (fun _ m hm h0 lm=>(H.inj m n h0 bP hm lm aL)) (fun _ m gr sz xs hm h0 b hb=>H.live m gr sz xs h0 b hb n bP aL) ?_ (by rw[hG];exact kp []) ?_
   (fun gr m sz xs hb=>by cases hb) (fun gr sz xs hb=>by cases hb) (fun gr m sz xs hb=>by cases hb) ?_
  ·intro IE c m hb hc hm
   injection hb with hb
   subst hb
   cases hc
  ·exact⟨aL,(mq _ sb).iu tn,fun j c hj=>by simp at hj⟩
  ·intro _ _ b hb
   obtain⟨m,gr,mo,sz,xs,hm,h0,cH⟩:=hb
   exact H.s9 bP aL h0 cH
 rw[hG] at H1
 have PJ:∀m,av h n (some (ao.box [])) m≠none->h m≠none:=fun m hm=>by
  by_cases bE:m=n
  ·subst bE;exact bP
  ·rwa[cz _ _ _ _ bE] at hm
 have H2:HR B E w' ⟨fun b=>G.Im b\/S b,G.g⟩ (av h n (some (.box []))) used []:=H1.qV S (fun b hb=>(hS b hb).2.1) (fun b hb q hq hl he=>by have:=(hS b hb).1;have:=(H.own q (PJ q hq) hl).2.2;omega)
  (fun b hb q gr sz xs hq hF=>by
   by_cases fE:q=n
   ·subst fE;rw[bG] at hq;cases hq
   ·rw[cz _ _ _ _ fE] at hq
    have:=(hS b hb).1;have:=H.rq hq hF;omega) (fun b hb=>.inl (hS b hb).2.2)
 have hn2:av h n (some (ao.box [])) n=some (.box []):=bG _ _ _
 have EA:av h n (some (ao.box [])) n≠none:=by rw[hn2];simp
 have Z3:av (av h n (some (ao.box []))) n (some (.box (ps.map fun pc=>ah.c pc.er)))=av h n (some (.box (ps.map fun pc=>ah.c pc.er))):=by
  funext m;simp only[iY];split<;>rfl
 have Za:(⟨fun b=>G.Im b\/S b,av G.g n (G.g n)⟩:Gh)=⟨fun b=>G.Im b\/S b,G.g⟩:=by rw[Gc]
 have K2:bf w' ⟨fun b=>G.Im b\/S b,G.g⟩ (av h n (some (ao.box []))) (fun n=>used n=true) w' ⟨fun b=>G.Im b\/S b,G.g⟩ (av h n (some (.box (ps.map fun pc=>ah.c pc.er)))):=by
  refine⟨fun _ h=>h,fun _ _ _=>rfl,fun m hm h0=>?_,fun m gr sz xs hm h0=>?_⟩
  ·refine⟨?_,rfl,rfl,rfl,rfl,rfl⟩
   by_cases bE:m=n
   ·subst bE;exact EA
   ·rw[cz _ _ _ _ bE] at h0⊢;exact h0
  ·by_cases bE:m=n
   ·subst bE;rw[bG] at h0;cases h0
   ·rw[cz _ _ _ _ bE] at h0;exact⟨⟨gr,xs,by rw[cz _ _ _ _ bE];exact h0⟩,fun k j pc h1 h2=>⟨pc,h1,rfl,h2⟩⟩
 have H3:HR B E w' ⟨fun b=>G.Im b\/S b,av G.g n (G.g n)⟩ (av (av h n (some (ao.box []))) n (some (.box (ps.map fun pc=>ah.c pc.er)))) used []:=by
  refine H2.put (w':=w') (fun _ _ _=>rfl) (Nat.le_refl _) (fun _ _ hU=>hU) (fun _ h=>h) wF (fun _=>⟨fun hi=>(H2.own n EA aL).1 hi,qP,Nat.lt_of_lt_of_le sb bI⟩)
   (fun _ m hm h0 lm=>H2.inj m n h0 EA hm lm aL) (fun _ m gr sz xs hm h0 b hb=>H2.live m gr sz xs h0 b hb n EA aL) ?_ (by rw[Za,Z3];exact K2) ?_
   (fun gr m sz xs hb=>by cases hb) (fun gr sz xs hb=>by cases hb) (fun gr m sz xs hb=>by cases hb) ?_
  ·intro IE c m hb hc hm
   injection hb with hb
   subst hb
   obtain⟨pc,_,rfl⟩:=List.mem_map.1 hc
   exact absurd hm id
  ·refine⟨aL,(mq _ sb).iu tn,fun j c hj=>?_⟩
   rw[List.getElem?_map] at hj
   cases hp:ps[j]? with
   |none=>rw[hp] at hj;cases hj
   |some pc=>
    rw[hp] at hj
    simp at hj
    subst hj
    obtain⟨g1,g2⟩:=hJ pc (List.mem_of_getElem? hp)
    exact⟨pc.val,bU j pc hp,PC.kN pc,pc,rfl,rfl,g1,g2⟩
  ·intro _ _ b hb
   obtain⟨m,gr,mo,sz,xs,hm,h0,cH⟩:=hb
   exact H2.s9 EA aL h0 cH
 rw[Za,Z3] at H3
 have K1:bf w G h (fun n=>used n=true) w' ⟨fun b=>G.Im b\/S b,G.g⟩ (av h n (some (ao.box []))):=bf.trans (fun _ h=>h) (kp []) (bf.qV S _)
 exact⟨H3,bf.trans (fun _ h=>h) K1 K2⟩
theorem Sn {σ1:St} {ns:List Nat} {out:List C} (hx:σ.rf ns out=some σ1):(ns=[]/\out=[]/\σ1=σ)\/∃n cs,ns=[n]/\σ.h n=some (.box cs)/\cs.length=out.length/\σ1=σ.dB n (.box (out.map .c)):=by
 unfold St.rf at hx
 split at hx
 ·injection hx with hx;exact .inl ⟨rfl,rfl,hx.symm⟩
 ·rename_i n
  split at hx
  ·rename_i cs hn
   split at hx
   ·rename_i hl
    injection hx with hx
    exact .inr ⟨n,cs,rfl,hn,hl,hx.symm⟩
   ·cases hx
  ·cases hx
 ·cases hx
theorem XM {pas:List PA} {p:PA} (hp:p∈pas) (hk:p.k=.ptr):p∈mb pas:=List.mem_filter.2 ⟨hp,by simp[hk]⟩
theorem XN:∀{pas:List PA},(mb pas).length<=1->∀{i j:Nat} {p q:PA},pas[i]? =some p->pas[j]? =some q->p.k=.ptr->q.k=.ptr->i=j
 |[],_,i,_,_,_,hi,_,_,_=>by simp at hi
 |x::pas,hl,i,j,p,q,hi,hj,hp,hq=>by
  by_cases hx:x.k=.ptr
  ·have hz:(mb pas).length=0:=by
    simp[mb,hx] at hl⊢
    exact hl
   have cf:∀y∈pas,y.k≠ .ptr:=fun y hy hk=>by
    have:=XM hy hk
    rw[List.length_eq_zero_iff.1 hz] at this
    cases this
   cases i with
   |zero=>
    cases j with
    |zero=>rfl
    |succ j=>exact absurd hq (cf q (List.mem_of_getElem? (by simpa using hj)))
   |succ i=>exact absurd hp (cf p (List.mem_of_getElem? (by simpa using hi)))
  ·have dE:(mb pas).length<=1:=by simpa[mb,hx] using hl
   cases i with
   |zero=>simp at hi;subst hi;exact absurd hp hx
   |succ i=>
    cases j with
    |zero=>simp at hj;subst hj;exact absurd hq hx
    |succ j=>exact congrArg (·+1) (XN dE (by simpa using hi) (by simpa using hj) hp hq)
theorem Nl:∀{aW:List PA} {ls:List (Bool×List ah)},gH (aW.map fun p=>(p.k,p.ps.map PC.er))=some ls->ls=aW.map (fun p=>(decide (p.k=.agg),p.ps.map fun pc=>ah.c pc.er))/\∀p∈aW,p.k≠ .ptr
 |[],ls,h=>by simp only[List.map_nil,gH] at h;injection h with h;exact⟨h.symm,by simp⟩
 |⟨k,ps,b,o⟩::aW,ls,h=>by
  cases k with
  |ptr=>simp[gH] at h
  |one=>
   simp only[List.map_cons,gH] at h
   split at h
   ·rename_i zi e
    injection h with h
    obtain⟨e1,e2⟩:=Nl e
    refine⟨by rw[<-h,e1,List.map_map];rfl,fun p hp=>?_⟩
    cases hp with
    |head=>simp
    |tail _ hp=>exact e2 p hp
   ·cases h
  |agg=>
   simp only[List.map_cons,gH] at h
   split at h
   ·rename_i zi e
    injection h with h
    obtain⟨e1,e2⟩:=Nl e
    refine⟨by rw[<-h,e1,List.map_map];rfl,fun p hp=>?_⟩
    cases hp with
    |head=>simp
    |tail _ hp=>exact e2 p hp
   ·cases h
theorem anK {ls:List (Bool×List ah)} {aW:List PA} (hlen:ls.length=aW.length)
  (hv:∀(j:Nat) (x:Bool×List ah) (p:PA),ls[j]? =some x->aW[j]? =some p->RV w G h x.1 x.2 (zB p)):RA w G h (lH ls) (zC aW):=by
 match ls,aW,hlen with
 |[],[],_=>exact⟨[],rfl,rfl,by simp⟩
 |[(ag,cs)],[p],_=>
  have h0:=hv 0 (ag,cs) p rfl rfl
  cases ag with
  |true=>exact h0
  |false=>
   have bO:cT w G h cs [zB p]:=h0
   match cs,bO.1 with
   |[c],_=>exact .inr h0
 |x::y::ls,p::q::aW,hl=>
  refine⟨(p::q::aW).map zB,rfl,by simpa using hl.symm,fun j x' u hj hu=>?_⟩
  rw[List.getElem?_map] at hu
  cases hp:(p::q::aW)[j]? with
  |none=>rw[hp] at hu;cases hu
  |some p'=>rw[hp] at hu;simp at hu;subst hu;exact hv j x' p' hj hp
theorem afT (r:R B E w0 N σ a w G) {T:aO} (hT:Ay P T) {f:FuncId} {as:List aj} {vals:List Value} {σ1:St} (hN:∀n,o.dst=some n->n<N)
  (bX:(execOp a.eval o).run P w=.ok (.enter f vals.toArray) w) (hl:vals.length=as.length)
  (uu:∀(j:Nat) (x:aj) (v:Value),as[j]? =some x->vals[j]? =some v->RA w G σ.h x v) (PK:∀x∈as,∀m,x.ref m->σ.used m=true)
  (hx:qC T o.dst f as σ=some σ1):o.wp P a w (Nx B E w0 N σ1) Q:=by
 unfold qC at hx
 split at hx
 ·rename_i ds ns o8 M hba hM
  split at hx
  ·rename_i rs out pB
   split at hx
   ·rename_i nB qQ
    obtain⟨Im',pas,b1,b2,b3,b4,b5,b6,b7,b8,b9,vS⟩:=r.hr.g0 hba hl uu PK
    have hns:ns.length<=1:=by
     rcases Sn qQ with⟨h1,_⟩|⟨n,cs,h1,_⟩<;>rw[h1]<;>simp
    have mn:∀p∈pas,p.k=.ptr->∃n,ns=[n]/\Wj G o8.h p n:=by
     intro p hp hk
     obtain⟨i,hi⟩:=List.getElem?_of_mem (XM hp hk)
     have bH:i<ns.length:=by rw[<-b5];exact(List.getElem?_eq_some_iff.1 hi).1
     have hn:ns[i]? =some ns[i]:=List.getElem?_eq_getElem bH
     have h0:i=0:=by omega
     subst h0
     refine⟨_,?_,b6 0 p _ hi hn⟩
     match ns,bH,hns with
     |[n],_,_=>rfl
    have va:Mz w ds vals pas:=by
     refine⟨b2,b1,b3,fun p hp hk=>?_,fun i j p q hi hj hp hq=>XN (by omega) hi hj hp hq⟩
     obtain⟨n,_,cs,hn,e1,e2,e3⟩:=mn p hp hk
     obtain⟨nl,un,_⟩:=b7.box n cs hn
     have ho:=b7.own n (by rw[hn];simp) nl
     rw[e1]
     exact⟨un,fun q hq pc aU hb=>ho.1 (b4 q hq pc aU _ hb)⟩
    unfold Oper.wp
    rw[bX]
    refine(hT f M hM ds rs out pB w vals pas va).mono fun e w' ⟨aW,qs,p1,p2,p3,p4⟩=>?_
    subst p2
    have Z5:∀b,Az w pas b->Im' b\/w.heap.size<=b:=fun b hb=>by
     rcases hb with hb|⟨q,hq,pc,aU,hb⟩
     ·exact .inr hb
     ·exact .inl (b4 q hq pc aU b hb)
    let S:Nat->Prop:=fun b=>w.heap.size<=b/\((∃p∈aW,∃pc∈p.ps,aT b pc)\/∃pc∈qs,aT b pc)
    have hB:=r.fr.size
    have hS:∀b,S b->w.heap.size<=b/\b<w'.heap.size/\B<=b:=fun b ⟨h1,h2⟩=>by
     refine⟨h1,?_,Nat.le_trans hB h1⟩
     rcases h2 with⟨p,hp,pc,aU,hb⟩|⟨pc,aU,hb⟩
     ·exact(p4.eA p hp pc aU).1.lt hb
     ·exact(p4.out pc aU).1.lt hb
    have Y8:∀p∈aW,∀pc∈p.ps,Good w' pc/\∀b,aT b pc->Im' b\/S b:=fun p hp pc aU=>by
     obtain⟨g1,g2⟩:=p4.eA p hp pc aU
     exact⟨g1,fun b hb=>(Z5 b (g2 b hb)).imp id fun h1=>⟨h1,.inl ⟨p,hp,pc,aU,hb⟩⟩⟩
    have ahE:∀pc∈qs,Good w' pc/\∀b,aT b pc->Im' b\/S b:=fun pc aU=>by
     obtain⟨g1,g2⟩:=p4.out pc aU
     exact⟨g1,fun b hb=>(Z5 b (g2 b hb)).imp id fun h1=>⟨h1,.inr ⟨pc,aU,hb⟩⟩⟩
    have apo:HR B E w' ⟨fun b=>Im' b\/S b,G.g⟩ nB.h nB.used []/\bf w ⟨Im',G.g⟩ o8.h (fun n=>o8.used n=true) w' ⟨fun b=>Im' b\/S b,G.g⟩ nB.h/\nB.env=o8.env/\nB.used=o8.used/\Fr B E w0 w':=by
     rcases Sn qQ with⟨h1,h2,h3⟩|⟨n,cs,h1,h2,h3,h4⟩
     ·subst h3
      have cf:∀p∈pas,p.k≠ .ptr:=fun p hp hk=>by
       obtain⟨n,e,_⟩:=mn p hp hk
       rw[h1] at e;cases e
      have ig:∀b,b<w.heap.size->w'.heap[b]? =w.heap[b]? :=fun b hb=>p4.fr.block b hb (fun⟨p,hp,hk,_⟩=>cf p hp hk)
      have Hg:=b7.grow ig p4.fr.size
      refine⟨Hg.qV S (fun b hb=>(hS b hb).2.1) (fun b hb q hq hl he=>by have:=(hS b hb).1;have:=(b7.own q hq hl).2.2;omega)
       (fun b hb q gr sz xs hq hF=>by have:=(hS b hb).1;have:=b7.rq hq hF;omega) (fun b hb=>.inl (hS b hb).2.2),
       bf.trans (fun _ h=>h) (bf.world (fun b hb=>ig b (b7.fW b hb)) _) (bf.qV S _),rfl,rfl,r.fr.grow ig p4.fr.size p4.fr.os p4.fr.tape p4.fr.output⟩
     ·subst h4
      obtain⟨p,hp,hk⟩:∃p∈pas,p.k=.ptr:=by
       have hlen:(mb pas).length=1:=by rw[b5,h1];rfl
       match hc:mb pas,hlen with
       |[p],_=>
        have hm:p∈mb pas:=by rw[hc];simp
        have:=List.mem_filter.1 hm
        exact⟨p,this.1,by simpa using this.2⟩
      obtain⟨n',e0,cs',bk,e1,e2,e3⟩:=mn p hp hk
      rw[h1] at e0
      injection e0 with e0
      subst e0
      have JG:∀q∈pas,q.k=.ptr->q=p:=fun q hq Pm=>by
       obtain⟨i,hi⟩:=List.getElem?_of_mem hq
       obtain⟨j,hj⟩:=List.getElem?_of_mem hp
       have:=va.one i j q p hi hj Pm hk
       subst this
       rw[hi] at hj
       injection hj
      have ho:=b7.own n (by rw[h2];simp) (b7.box n cs h2).1
      have ig:∀b,b<w.heap.size->b≠(G.g n).b->w'.heap[b]? =w.heap[b]? :=fun b hb aC=>p4.fr.block b hb (fun⟨q,hq,Pm,Zk⟩=>by
       rw[JG q hq Pm,e1] at Zk
       exact aC Zk)
      have mq:∀b,b<w.heap.size->Cz w w' b:=fun b hb=>p4.fr.iu b hb
      obtain⟨Hb,Kb⟩:=b7.Xa (cs':=out.map .c) h2 p4.fr.size ig mq hS (ps:=qs) (by rw[<-p3,List.map_map];rfl) (fun j c hj=>by
       have:=p4.at_ p hp hk j c hj
       rw[e1,e2] at this
       exact this) ahE
      exact⟨Hb,Kb,rfl,rfl,r.fr.one ho.2.1 ig p4.fr.size (mq _ ho.2.2) p4.fr.os p4.fr.tape p4.fr.output⟩
    obtain⟨H2,K2,v1,v2,uE⟩:=apo
    have K0:bf w G σ.h (fun n=>σ.used n=true) w' ⟨fun b=>Im' b\/S b,G.g⟩ nB.h:=bf.trans (fun n hn=>by rw[vS];exact hn) b8 K2
    have r2:R B E w0 N nB a w' ⟨fun b=>Im' b\/S b,G.g⟩:=r.step (v1.trans b9) (fun m hm=>by rw[v2,vS];exact hm) K0 H2 uE
    have IG:∀{ls:List (Bool×List ah)},gH rs=some ls->σ1=nB.put o.dst (lH ls)->(match(Ending.returned (zC aW)) with|.returned v=>Nx B E w0 N σ1 (a.put o.dst v) w'|_=>True):=by
     intro ls Bx hs
     subst hs
     rw[<-p1] at Bx
     obtain⟨rfl,EB⟩:=Nl Bx
     refine⟨_,r2.put (anK (by simp) (fun j x p hj hp=>?_)) (fun q hq=>?_) hN⟩
     ·rw[List.getElem?_map,hp] at hj
      simp at hj
      subst hj
      have hm:=List.mem_of_getElem? hp
      have bO:cT w' ⟨fun b=>Im' b\/S b,G.g⟩ nB.h (p.ps.map fun pc=>ah.c pc.er) (p.ps.map PC.val):=by
       refine⟨by simp,fun j c u hj hu=>?_⟩
       rw[List.getElem?_map] at hj hu
       cases m5:p.ps[j]? with
       |none=>rw[m5] at hj;cases hj
       |some pc=>
        rw[m5] at hj hu
        simp at hj hu
        subst hj hu
        obtain⟨g1,g2⟩:=Y8 p hm pc (List.mem_of_getElem? m5)
        exact⟨PC.kN pc,pc,rfl,rfl,g1,g2⟩
      have Jy:=p4.one p hm
      have ZC:=EB p hm
      obtain⟨k,ps,b,o'⟩:=p
      cases k with
      |ptr=>exact absurd rfl ZC
      |agg=>exact⟨ps.map PC.val,rfl,bO⟩
      |one=>
       have h2:=Jy rfl
       match ps,h2 with
       |[p],_=>exact bO
     ·exfalso
      refine ab7 (fun x hx c hc hq=>?_) hq
      obtain⟨p,_,rfl⟩:=List.mem_map.1 hx
      obtain⟨pc,_,rfl⟩:=List.mem_map.1 hc
      exact hq
    unfold qv at hx
    split at hx
    ·rename_i cs
     split at hx
     ·rename_i q hq
      split at hx
      ·rename_i τ3 ahV
       injection hx with hx
       subst hx
       obtain⟨u1,rfl⟩:=mE ahV
       obtain⟨p,rfl⟩:∃p,aW=[p]:=by
        have h1:aW.length=1:=by have:=congrArg List.length p1;simpa using this
        exact List.length_eq_one_iff.1 h1
       simp at p1
       obtain⟨hk,eB⟩:=p1
       obtain⟨_,q1,q2,q3,q4,q5⟩:=p4.ptr p (by simp) hk
       subst eB
       have ZK:pf ⟨fun b=>Im' b\/S b,G.g⟩ nB.h p.b:=by
        refine⟨fun hi=>?_,fun m hm hl he=>?_,fun m gr mo sz xs hm hF=>?_⟩
        ·rcases hi with hi|⟨_,hi⟩
         ·have:=b7.fW _ hi;omega
         ·rcases hi with⟨p',bj,pc,aU,hb⟩|⟨pc,aU,hb⟩
          ·simp at bj;subst bj;exact q4 pc aU hb
          ·exact q5 pc aU hb
        ·have hd:=H2.iK m hm
         obtain⟨k0,k1,k2,_⟩:=K2.name m (by rw[<-v2];exact hd) hm
         have dE:(G.g m).nl=false:=hl
         have:=(b7.own m k0 dE).2.2
         have Jt:(G.g m).b=p.b:=he
         have h7:(⟨Im',G.g⟩:Gh).g m=G.g m:=rfl
         rw[h7] at this
         omega
        ·have hd:=H2.iK m (by rw[hm];simp)
         have eW:∃bm np aJ aq,o8.h m=some (.row bm np aJ aq):=by
          rcases Sn qQ with⟨h1,h2,h3⟩|⟨n,cs,h1,h2,h3,h4⟩
          ·subst h3;exact⟨_,_,_,_,hm⟩
          ·subst h4
           by_cases bE:m=n
           ·subst bE;have:av o8.h m (some (ao.box (out.map ah.c))) m=_:=hm;rw[bG] at this;cases this
           ·have:av o8.h n (some (ao.box (out.map ah.c))) m=_:=hm
            rw[cz _ _ _ _ bE] at this
            exact⟨_,_,_,_,this⟩
         obtain⟨bm,np,aJ,aq,bM⟩:=eW
         have wg:aX p.b (G.g m).px:=hF
         have:=b7.rq bM wg
         omega
       have Hn:HR B E w' ⟨fun b=>Im' b\/S b,av G.g q ⟨false,p.b,p.o,0,[],none⟩⟩ (av nB.h q (some (.box ((p.ps.map PC.er).map .c)))) (av nB.used q true) []:=by
        refine H2.insert (w':=w') u1 (fun _ _=>rfl) (Nat.le_refl _) (fun _=>⟨ZK,.inl (Nat.le_trans hB q1),q2.lt⟩) (fun cs' c m hb cC hm=>?_) ⟨rfl,q2,fun j c hj=>?_⟩ (fun gr m sz xs hb=>by cases hb) (fun gr sz xs hb=>by cases hb) (fun gr m sz xs hb=>by cases hb)
        ·injection hb with hb
         subst hb
         obtain⟨x,_,rfl⟩:=List.mem_map.1 cC
         exact absurd hm id
        ·rw[List.getElem?_map,List.getElem?_map] at hj
         cases hp:p.ps[j]? with
         |none=>rw[hp] at hj;cases hj
         |some pc=>
          rw[hp] at hj
          simp at hj
          subst hj
          obtain⟨g1,g2⟩:=Y8 p (by simp) pc (List.mem_of_getElem? hp)
          exact⟨pc.val,q3 j pc hp,PC.kN pc,pc,rfl,rfl,g1,g2⟩
       have r3:=r2.step (σ':={nB with h:=av nB.h q (some (.box ((p.ps.map PC.er).map .c))),used:=av nB.used q true}) rfl (fun m hm=>rE q m hm) (bf.insert H2 u1 (fun _ _=>rfl)) Hn uE
       have hv:zC [p]=.pointer (some (ad p.b p.o)):=by
        obtain⟨k,ps,b,o'⟩:=p
        simp only at hk
        subst hk
        rfl
       rw[hv]
       exact⟨_,r3.put (RA.gu (c:=.ptr q 0 0 0) rfl (show av nB.h q _ q≠none->(av G.g q _ q).nl=false/\_=_ from fun _=>by simp[bG])) (fun m hm=>by have bM:m=q:=hm;subst bM;exact bG _ _ _) hN⟩
      ·cases hx
     ·cases hx
    ·split at hx
     ·rename_i ls Bx
      injection hx with hx
      exact IG Bx hx.symm
     ·cases hx
   ·cases hx
  ·cases hx
 ·cases hx
theorem Yi (r:R B E w0 N σ a w G) {T:aO} (hT:Ay P T) {f:FuncId} {xs:Array Operand} {ms:List MO} {ts:Array TypeId} {σ1:St} (hN:∀n,o.dst=some n->n<N)
  (ho:o.op=.call {callee:=.value (.func f),args:=xs,argTypes:=ts}) (hf:bD P f=true) (hm:gG xs.toList ms=true)
  (hx:qC T o.dst f (ms.map σ.ev) σ=some σ1):o.wp P a w (Nx B E w0 N σ1) Q:=by
 obtain⟨e1,e2⟩:=r.yg hm
 have PK:∀x∈ms.map σ.ev,∀m,x.ref m->σ.used m=true:=by
  have ca:∀{xs:List Operand} {ms:List MO},gG xs ms=true->∀x∈ms.map σ.ev,∀m,x.ref m->σ.used m=true:=by
   intro xs ms
   induction ms generalizing xs with
   |nil=>intro _ x hx;simp at hx
   |cons m0 ms ih=>
    intro hc x hx m hm
    cases xs with
    |nil=>simp[gG] at hc
    |cons y ys=>
     simp only[gG,Bool.and_eq_true] at hc
     simp only[List.map_cons,List.mem_cons] at hx
     rcases hx with rfl|hx
     ·exact(r.ev hc.1).2 m hm
     ·exact ih hc.2 x hx m hm
  exact ca hm
 refine afT r hT (vals:=xs.toList.map a.eval) hN ?_ (by simpa using e1) e2 PK hx
 have he:(xs.toList.map a.eval).toArray=xs.map a.eval:=by apply Array.ext';simp
 rw[he]
 simp[execOp,ho,resolve,Deferred.ofValue,invoke,Act.eval,zD hf]
theorem R.qI (r:R B E w0 N σ a w G) {p:ah} (hx:σ.qI p=some σ'):∃G',R B E w0 N σ' a w G'/\σ'.env=σ.env:=by
 unfold St.qI at hx
 split at hx
 ·rename_i n k sz off
  split at hx
  ·rename_i cs hn
   split at hx
   ·rename_i xs ow σ1 ht
    injection hx with hx
    subst hx
    obtain⟨vs,v1,v2⟩:=r.hr.Ij hn
    obtain⟨xM,bw,a1,a2,a3,a5,a6,a7,a8,a9⟩:=r.hr.fv ht v1 (fun c hc m hm=>r.hr.gV n cs c m hn hc hm)
    have vM:HR B E w ⟨xM,G.g⟩ σ1.h σ.used []:=by
     cases ow with
     |true=>exact HR.xu (tk:=[]) (l:=bw) (by simpa using a5)
     |false=>simpa using a5
    have mZ:=VW ht hn
    obtain⟨b1,b2⟩:=vM.Xa (w':=w) (cs':=xs.map .c) mZ (Nat.le_refl _) (fun _ _ _=>rfl) (fun b _=>Cz.refl w b) (S:=fun _=>False) (fun b hb=>hb.elim) (ps:=bw)
     (by rw[<-a1,List.map_map];rfl) (fun j c hj=>by
      have:=v2 j c.val (by rw[<-a2,List.getElem?_map,hj];rfl)
      exact this) (fun pc aU=>⟨(a3 pc aU).1,fun b hb=>.inl ((a3 pc aU).2 b hb)⟩)
    have hk:=bf.trans (fun _ h=>h) a6 b2
    refine⟨_,r.step a7 (fun q hq=>by rw[show(σ1.dB n (.box (xs.map .c))).used=σ1.used from rfl,a8];exact hq) hk ?_ r.fr,a7⟩
    show HR B E w _ _ σ1.used []
    rw[a8]
    exact b1
   ·cases hx
  ·cases hx
 ·cases hx
theorem af0 (r:R B E w0 N σ a w G) {t:TypeId} {x:Operand} {m:MO} {ag:Bool} {sz:Nat} {p:ah} {cs:List ah} (ho:o.op=.load t x) (hN:∀n,o.dst=some n->n<N)
  (hm:bz x m=true) (dr:qw P t ag sz=true) (hp:σ.ev m=.one p) (hf:σ.qI p=some σ') (hx:Am.loadAt σ'.h p sz=some cs):
  o.wp P a w (Nx B E w0 N (σ'.put o.dst (lO ag cs))) Q:=by
 obtain⟨G',r',e⟩:=r.qI hf
 refine Ym r' ho hN hm dr (p:=p) ?_ hx
 cases m with
 |t n=>simp only[St.ev] at hp⊢;rw[e];exact hp
 |k v=>exact hp
end
end Go.Am
