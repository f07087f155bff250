/- AmV: functions whose results may share, and that may change the cells of one pointer: what is said of them, and the caller's side of a call. No condition. -/
import Derived.Test.YtbgmbplglejidaaAmU
set_option linter.unusedVariables false
namespace Go.Am
structure Mc (w:World) (ds:List Dv) (vals:List Value) (pas:List PA):Prop where
 l1:vals.length=ds.length
 l2:pas.length=ds.length
 at_:∀(i:Nat) (d:Dv) (v:Value) (p:PA),ds[i]? =some d->vals[i]? =some v->pas[i]? =some p->zB w d v p
 jc:∀p∈pas,p.k=.ptr->dD w p.b/\∀q∈pas,∀pc∈q.ps,¬aT p.b pc
 one:∀(i j:Nat) (p q:PA),pas[i]? =some p->pas[j]? =some q->p.k=.ptr->q.k=.ptr->i=j
def Ae (w:World) (pas:List PA) (b:Nat):Prop:=w.heap.size<=b\/∃q∈pas,∃pc∈q.ps,aT b pc
def Yv (pas:List PA):Ex:=⟨fun b=>∃p∈pas,p.k=.ptr/\b=p.b,fun _=>none,fun _ _ h=>(by cases h),fun _=>True⟩
def zi (p:PA):Value:=
 match p.k with
 |.one=>match p.ps with
  |[pc]=>pc.val
  |_=>.agg (p.ps.map PC.val).toArray
 |.agg=>.agg (p.ps.map PC.val).toArray
 |.ptr=>.pointer (some (ad p.b p.o))
def zj:List PA->Value
 |[p]=>zi p
 |l=>.tuple (l.map zi).toArray
def F5 (w:World) (b o:Nat) (ps:List PC):Prop:=∀(j:Nat) (c:PC),ps[j]? =some c->w.cell? (ad b (o+j))=some c.val
structure Mb (w w':World) (pas aV:List PA) (qs:List PC):Prop where
 one:∀p∈aV,p.k=.one->p.ps.length=1
 ptr:∀p∈aV,p.k=.ptr->aV.length=1/\w.heap.size<=p.b/\dD w' p.b/\F5 w' p.b p.o p.ps/\(∀pc∈p.ps,¬aT p.b pc)/\∀pc∈qs,¬aT p.b pc
 dH:∀p∈aV,∀pc∈p.ps,Good w' pc/\∀b,aT b pc->Ae w pas b
 fr:Fr w.heap.size (Yv pas) w w'
 out:∀pc∈qs,Good w' pc/\∀b,aT b pc->Ae w pas b
 at_:∀p∈pas,p.k=.ptr->F5 w' p.b p.o qs
def Af (P:Program) (f:FuncId) (M:List Dv->Option (List Dv×List C)):Prop:=
 ∀ds rs out,M ds=some (rs,out)->∀(w:World) (vals:List Value) (pas:List PA),Mc w ds vals pas->Calls P f vals.toArray w fun e w'=>
  ∃(aV:List PA) (qs:List PC),aV.map (fun p=>(p.k,p.ps.map PC.er))=rs/\e=.returned (zj aV)/\qs.map PC.er=out/\Mb w w' pas aV qs
def Ad (P:Program) (T:aS):Prop:=∀f M,aS.j9 T.vs f=some M->Af P f M
section
variable {B:Nat} {E:Ex} {w0 w w':World} {G G':Gh} {N:Nat} {h h':Nat->Option aq} {used used':Nat->Bool} {tk:List PC}
variable {P:Program} {o:Oper} {a:Act} {σ σ':St} {Q:Exit->Act->World->Prop}
theorem HR.nW {c:ah} {x:C} {v:Value} (hx:Am.nW c=some x) (hc:RC w G h c v):∃pc:PC,pc.er=x/\pc.val=v/\Good w pc/\∀b,aT b pc->G.Im b:=by
 cases c with
 |c y=>
  simp only[Am.nW] at hx
  injection hx with hx
  subst hx
  exact hc
 |nil sz=>
  simp only[Am.nW] at hx
  split at hx
  ·rename_i ed
   injection hx with hx
   subst hx
   have cO:v=.slice none 0 0:=hc
   subst cO
   refine⟨.list sz none 0 [],by simp[PC.dG],rfl,.nil _ _ _ ed,fun b hb=>?_⟩
   rw[aT.ko] at hb
   rcases hb with⟨hb,_⟩|⟨k,j,c,⟨e,he,_⟩,_⟩
   ·exact absurd rfl hb
   ·simp at he
  ·cases hx
 |_=>simp[Am.nW] at hx
theorem HR.jr:∀{cs:List ah} {xs:List C} {vs:List Value},Am.jr cs=some xs->cJ w G h cs vs->∃ps:List PC,ps.map PC.er=xs/\ps.map PC.val=vs/\∀pc∈ps,Good w pc/\∀b,aT b pc->G.Im b
 |[],xs,vs,hx,hc=>by
  simp only[Am.jr] at hx
  injection hx with hx
  subst hx
  have:vs=[]:=List.eq_nil_of_length_eq_zero (by simpa using hc.1)
  subst this
  exact⟨[],rfl,rfl,by simp⟩
 |c::cs,xs,vs,hx,hc=>by
  simp only[Am.jr] at hx
  split at hx
  ·rename_i x ar e1 e2
   injection hx with hx
   subst hx
   match vs,hc.1 with
   |v::vs,hl=>
    obtain⟨pc,a1,a2,a3,a4⟩:=HR.nW e1 (hc.2 0 c v rfl rfl).2
    obtain⟨ps,b1,b2,b3⟩:=HR.jr (vs:=vs) e2 ⟨by simpa using hl,fun j c u h1 h2=>hc.2 (j+1) c u h1 h2⟩
    refine⟨pc::ps,by simp[a1,b1],by simp[a2,b2],fun q hq=>?_⟩
    cases hq with
    |head=>exact⟨a3,a4⟩
    |tail _ hq=>exact b3 q hq
  ·cases hx
theorem HR.HL (H:HR B E w G h used tk) {n:Nat} {cs:List ah} (hn:h n=some (.box cs)):∃vs:List Value,cJ w G h cs vs/\∀(j:Nat) (v:Value),vs[j]? =some v->w.cell? (ad (G.g n).b ((G.g n).o+j))=some v:=by
 obtain⟨_,_,a3⟩:=H.box n cs hn
 have hj:∀j:Fin cs.length,∃v,w.cell? (ad (G.g n).b ((G.g n).o+j.1))=some v/\v.oneCell'=true/\RC w G h cs[j.1] v:=fun j=>a3 j.1 _ (List.getElem?_eq_getElem j.2)
 refine⟨List.ofFn fun j=>Classical.choose (hj j),⟨by simp,fun j c u hc hu=>?_⟩,fun j v hv=>?_⟩
 ·obtain⟨hl,e⟩:=List.getElem?_eq_some_iff.1 hc
  rw[List.getElem?_ofFn,dif_pos hl] at hu
  injection hu with hu
  subst hu e
  exact(Classical.choose_spec (hj ⟨j,hl⟩)).2
 ·by_cases hl:j<cs.length
  ·rw[List.getElem?_ofFn,dif_pos hl] at hv
   injection hv with hv
   subst hv
   exact(Classical.choose_spec (hj ⟨j,hl⟩)).1
  ·rw[List.getElem?_eq_none (by simp;omega)] at hv;cases hv
theorem aqm {σ1:St} {c:ah} {x:C} {o:Bool} (hx:σ.fG c=some (x,o,σ1)) {n:Nat} {cs:List ah} (hn:σ.h n=some (.box cs)):σ1.h n=some (.box cs):=by
 cases c with
 |c y=>simp only[St.fG] at hx;injection hx with hx;injection hx with _ hx;injection hx with _ hx;subst hx;exact hn
 |nil sz=>
  simp only[St.fG] at hx
  split at hx
  ·injection hx with hx;injection hx with _ hx;injection hx with _ hx;subst hx;exact hn
  ·cases hx
 |sl q sz lo len=>
  simp only[St.fG] at hx
  split at hx
  ·rename_i gr m rs xs hq
   split at hx
   ·injection hx with hx;injection hx with _ hx;injection hx with _ hx;subst hx
    have aE:n≠q:=by rintro rfl;rw[hq] at hn;cases hn
    show ax σ.h q none n=_
    rw[cb _ _ _ _ aE];exact hn
   ·cases hx
  ·cases hx
 |_=>simp[St.fG] at hx
theorem Wp:∀{l:List ah} {σ σ1:St} {xs:List C} {o:Bool},σ.fg l=some (xs,o,σ1)->∀{n:Nat} {cs:List ah},σ.h n=some (.box cs)->σ1.h n=some (.box cs)
 |[],σ,σ1,xs,o,hx,n,cs,hn=>by simp only[St.fg] at hx;injection hx with hx;injection hx with _ hx;injection hx with _ hx;subst hx;exact hn
 |c::l,σ,σ2,xs,o,hx,n,cs,hn=>by
  simp only[St.fg] at hx
  split at hx
  ·rename_i x o1 σ1 e1
   split at hx
   ·rename_i ar o2 WG e2
    injection hx with hx;injection hx with _ hx;injection hx with _ hx;subst hx
    exact Wp e2 (aqm e1 hn)
   ·cases hx
  ·cases hx
theorem Mj:∀{as:List aj} {σ σ1:St} {ds:List Dv} {ns:List Nat},σ.gF as=some (ds,ns,σ1)->∀{n:Nat} {cs:List ah},σ.h n=some (.box cs)->σ1.h n=some (.box cs)
 |[],σ,σ1,ds,ns,hx,n,cs,hn=>by simp only[St.gF] at hx;injection hx with hx;injection hx with _ hx;injection hx with _ hx;subst hx;exact hn
 |v::as,σ,σ2,ds,ns,hx,n,cs,hn=>by
  simp only[St.gF] at hx
  split at hx
  ·split at hx
   ·rename_i e
    injection hx with hx;injection hx with _ hx;injection hx with _ hx;subst hx
    exact Mj e hn
   ·cases hx
  ·split at hx
   ·split at hx
    ·rename_i e1
     split at hx
     ·rename_i e2
      injection hx with hx;injection hx with _ hx;injection hx with _ hx;subst hx
      exact Mj e2 (Wp e1 hn)
     ·cases hx
    ·cases hx
   ·cases hx
def lB (pas:List PA):List PA:=pas.filter fun p=>decide (p.k=.ptr)
def WI (G:Gh) (h:Nat->Option aq) (p:PA) (n:Nat):Prop:=∃cs,h n=some (.box cs)/\p.b=(G.g n).b/\p.o=(G.g n).o/\p.ps.length=cs.length
theorem Mm {v:aj} {n:Nat} {xs:List C} (hx:lr h v=some (n,xs)):∃sz cs,v=.one (.ptr n 0 sz 0)/\h n=some (.box cs)/\jr cs=some xs:=by
 unfold lr at hx
 split at hx
 ·rename_i q k sz off
  split at hx
  ·rename_i hc
   obtain⟨rfl,rfl⟩:=hc
   split at hx
   ·rename_i cs hq
    split at hx
    ·rename_i ys e
     injection hx with hx
     injection hx with h1 h2
     subst h1 h2
     exact⟨sz,cs,rfl,hq,e⟩
    ·cases hx
   ·cases hx
  ·cases hx
 ·cases hx
theorem HR.gF:∀{as:List aj} {vals:List Value} {σ σ1:St} {G:Gh} {ds:List Dv} {ns:List Nat},HR B E w G σ.h σ.used []->σ.gF as=some (ds,ns,σ1)->vals.length=as.length->
  (∀(j:Nat) (x:aj) (v:Value),as[j]? =some x->vals[j]? =some v->RA w G σ.h x v)->(∀x∈as,∀m,x.ref m->σ.used m=true)->
  ∃(Im':Nat->Prop) (pas:List PA),pas.length=ds.length/\vals.length=ds.length/\(∀(i:Nat) (d:Dv) (v:Value) (p:PA),ds[i]? =some d->vals[i]? =some v->pas[i]? =some p->zB w d v p)/\
   (∀p∈pas,∀pc∈p.ps,∀b,aT b pc->Im' b)/\(lB pas).length=ns.length/\(∀(i:Nat) (p:PA) (n:Nat),(lB pas)[i]? =some p->ns[i]? =some n->WI G σ1.h p n)/\
   HR B E w ⟨Im',G.g⟩ σ1.h σ1.used []/\aZ w G σ.h (fun n=>σ.used n=true) w ⟨Im',G.g⟩ σ1.h/\σ1.env=σ.env/\σ1.used=σ.used
 |[],vals,σ,σ1,G,ds,ns,H,hx,hl,hc,hr=>by
  simp only[St.gF] at hx
  injection hx with hx
  injection hx with h1 h2
  injection h2 with h2 h3
  subst h1 h2 h3
  exact⟨G.Im,[],rfl,by simpa using hl,by simp,by simp,rfl,by simp[lB],H,aZ.refl _ _ _ _,rfl,rfl⟩
 |x::as,vals,σ,σ2,G,ds,ns,H,hx,hl,hc,hr=>by
  match vals,hl with
  |v::vals,hl=>
   simp only[St.gF] at hx
   split at hx
   ·rename_i n xs hp
    split at hx
    ·rename_i tW jX σ1 e
     injection hx with hx
     injection hx with h1 h2
     injection h2 with h2 h3
     subst h1 h2 h3
     obtain⟨sz,cs,rfl,hn,qc⟩:=Mm hp
     obtain⟨nl,un,_⟩:=H.box n cs hn
     obtain⟨vs,v1,v2⟩:=H.HL hn
     obtain⟨ps,p1,p2,p3⟩:=HR.jr qc v1
     have hv:v=.pointer (some (ad (G.g n).b (G.g n).o)):=by
      have h0:=hc 0 _ v rfl rfl
      rcases h0 with h0|h0
      ·cases h0
      ·have h1:RC w G σ.h (.ptr n 0 sz 0) v:=(h0.2 0 _ v rfl rfl).2
       simpa using(h1 (by rw[hn];simp)).2
     obtain⟨Im',pas,b1,b2,b3,b4,b5,b6,b7,b8,b9,pJ⟩:=HR.gF (as:=as) (vals:=vals) H e (by simpa using hl) (fun j x v h1 h2=>hc (j+1) x v h1 h2) (fun x hx=>hr x (by simp[hx]))
     have hk:(Am.K.ptr=Am.K.ptr)=True:=by simp
     refine⟨Im',⟨.ptr,ps,(G.g n).b,(G.g n).o⟩::pas,by simp[b1],by simp[b2],fun i d u p hd hu fU=>?_,fun p fU pc aY b hb=>?_,by simp[lB];exact b5,fun i p m hi hm=>?_,b7,b8,b9,pJ⟩
     ·cases i with
      |zero=>
       simp at hd hu fU
       subst hd hu fU
       refine⟨by rw[p1],fun pc aY=>(p3 pc aY).1,hv,un.lt,fun j c hj=>v2 j _ ?_⟩
       rw[<-p2,List.getElem?_map,hj];rfl
      |succ i=>exact b3 i d u p (by simpa using hd) (by simpa using hu) (by simpa using fU)
     ·cases fU with
      |head=>exact b8.im b ((p3 pc aY).2 b hb)
      |tail _ fU=>exact b4 p fU pc aY b hb
     ·cases i with
      |zero=>
       simp[lB] at hi hm
       subst hi hm
       refine⟨cs,Mj e hn,rfl,rfl,?_⟩
       have h1:ps.length=vs.length:=by rw[<-p2];simp
       exact h1.trans v1.1
      |succ i=>exact b6 i p m (by simpa[lB] using hi) (by simpa using hm)
    ·cases hx
   ·split at hx
    ·rename_i ag cs ew
     split at hx
     ·rename_i xs o σ1 e1
      split at hx
      ·rename_i tW jX WG e2
       injection hx with hx
       injection hx with h1 h2
       injection h2 with h2 h3
       subst h1 h2 h3
       have h0:=hc 0 x v rfl rfl
       have db:∃vs:List Value,(if ag=true then v=.agg vs.toArray else vs=[v])/\cJ w G σ.h cs vs:=by
        cases x with
        |one c=>
         have OQ:ag=false/\cs=[c]:=by cases c<;>simp[aj.cells?] at ew<;>exact⟨ew.1,ew.2.symm⟩
         obtain⟨rfl,rfl⟩:=OQ
         rcases h0 with h0|h0
         ·subst h0;simp[aj.cells?] at ew
         ·exact⟨[v],rfl,h0⟩
        |agg cs'=>
         simp[aj.cells?] at ew
         obtain⟨rfl,rfl⟩:=ew
         obtain⟨vs,e,h1⟩:∃vs:List Value,v=.agg vs.toArray/\cJ w G σ.h cs' vs:=h0
         exact⟨vs,e,h1⟩
        |bo xs=>simp[aj.cells?] at ew
       obtain⟨vs,iE,bG⟩:=db
       obtain⟨xN,bt,a1,a2,a3,a5,a6,a7,a8,a9⟩:=H.fg e1 bG (fun c' cO m hm=>hr x (by simp) m (aj.xX ew cO hm))
       have vC:HR B E w ⟨xN,G.g⟩ σ1.h σ.used []:=by
        cases o with
        |true=>exact HR.xv (tk:=[]) (l:=bt) (by simpa using a5)
        |false=>simpa using a5
       rw[<-a8] at vC
       obtain⟨CJ,pas,b1,b2,b3,b4,b5,b6,b7,b8,b9,pJ⟩:=HR.gF (as:=as) (vals:=vals) (G:=⟨xN,G.g⟩) vC e2 (by simpa using hl)
        (fun j x v h1 h2=>(hc (j+1) x v h1 h2).eV a6 (fun m hm=>hr x (by simp[List.mem_of_getElem? h1]) m hm)) (fun x' fm m hm=>by rw[a8];exact hr x' (by simp[fm]) m hm)
       refine⟨CJ,⟨if ag=true then .agg else .one,bt,0,0⟩::pas,by simp[b1],by simp[b2],fun i d u p hd hu fU=>?_,fun p fU pc aY b hb=>?_,?_,fun i p m hi hm=>?_,b7,
        aZ.trans (fun n hn=>by rw[a8];exact hn) a6 b8,b9.trans a7,pJ.trans a8⟩
       ·cases i with
        |zero=>
         simp at hd hu fU
         subst hd hu fU
         cases ag with
         |true=>exact⟨by simp[a1],fun pc aY=>(a3 pc aY).1,by simp only[if_true] at iE⊢;rw[a2];exact iE⟩
         |false=>exact⟨by simp[a1],fun pc aY=>(a3 pc aY).1,by simp only[Bool.false_eq_true,if_false] at iE⊢;rw[a2];exact iE⟩
        |succ i=>exact b3 i d u p (by simpa using hd) (by simpa using hu) (by simpa using fU)
       ·cases fU with
        |head=>exact b8.im b ((a3 pc aY).2 b hb)
        |tail _ fU=>exact b4 p fU pc aY b hb
       ·cases ag<;>simp[lB]<;>exact b5
       ·refine b6 i p m ?_ hm
        cases ag<;>simpa[lB] using hi
      ·cases hx
     ·cases hx
    ·cases hx
theorem HR.Xn (H:HR B E w G h used []) {n:Nat} {cs cs':List ah} (hn:h n=some (.box cs)) (bF:w.heap.size<=w'.heap.size) (hw:∀b,b<w.heap.size->b≠(G.g n).b->w'.heap[b]? =w.heap[b]?)
  (lI:∀b,b<w.heap.size->Cz w w' b) {S:Nat->Prop} (hS:∀b,S b->w.heap.size<=b/\b<w'.heap.size/\B<=b) {ps:List PC} (fJ:cs'=ps.map fun pc=>ah.c pc.er)
  (cg:∀(j:Nat) (c:PC),ps[j]? =some c->w'.cell? (ad (G.g n).b ((G.g n).o+j))=some c.val) (gH:∀pc∈ps,Good w' pc/\∀b,aT b pc->G.Im b\/S b):
  HR B E w' ⟨fun b=>G.Im b\/S b,G.g⟩ (ax h n (some (.box cs'))) used []/\aZ w G h (fun n=>used n=true) w' ⟨fun b=>G.Im b\/S b,G.g⟩ (ax h n (some (.box cs'))):=by
 subst fJ
 have bJ:h n≠none:=by rw[hn];simp
 obtain⟨aR,sY,gZ⟩:=H.box n cs hn
 obtain⟨rz,qe,rA⟩:=H.own n bJ aR
 have wv:=H.iA n bJ
 have kp:∀Ia:List ah,aZ w G h (fun n=>used n=true) w' G (ax h n (some (.box Ia))):=by
  intro Ia
  refine⟨fun _ h=>h,fun b hb x=>iz (hw b (H.fL b hb) (fun he=>rz (he▸hb))) x,fun m hm h0=>?_,fun m gr sz xs hm h0=>?_⟩
  ·by_cases bC:m=n
   ·subst bC;exact⟨bJ,rfl,rfl,rfl,rfl,rfl⟩
   ·rw[cb _ _ _ _ bC] at h0;exact⟨h0,rfl,rfl,rfl,rfl,rfl⟩
  ·by_cases bC:m=n
   ·subst bC;rw[bE] at h0;cases h0
   ·rw[cb _ _ _ _ bC] at h0;exact⟨⟨gr,xs,h0⟩,fun k j pc h1 h2=>⟨pc,h1,rfl,h2⟩⟩
 have hG:(⟨G.Im,ax G.g n (G.g n)⟩:Gh)=G:=by rw[FG]
 have H1:HR B E w' ⟨G.Im,ax G.g n (G.g n)⟩ (ax h n (some (.box []))) used []:=by
  refine H.put (fun b hb aE=>hw b hb (aE aR)) bF (fun b hb hU=>(lI b hb).jc hU) (fun _ h=>h) wv (fun _=>⟨rz,qe,Nat.lt_of_lt_of_le rA bF⟩)
   (fun _ m hm h0 kF=>(H.inj m n h0 bJ hm kF aR)) (fun _ m gr sz xs hm h0 b hb=>H.live m gr sz xs h0 b hb n bJ aR) ?_ (by rw[hG];exact kp []) ?_
   (fun gr m sz xs hb=>by cases hb) (fun gr sz xs hb=>by cases hb) (fun gr m sz xs hb=>by cases hb) ?_
  ·intro Ia c m hb hc hm
   injection hb with hb
   subst hb
   cases hc
  ·exact⟨aR,(lI _ rA).jc sY,fun j c hj=>by simp at hj⟩
  ·intro _ _ b hb
   obtain⟨m,gr,mo,sz,xs,hm,h0,cB⟩:=hb
   exact H.sL bJ aR h0 cB
 rw[hG] at H1
 have Pt:∀m,ax h n (some (aq.box [])) m≠none->h m≠none:=fun m hm=>by
  by_cases bC:m=n
  ·subst bC;exact bJ
  ·rwa[cb _ _ _ _ bC] at hm
 have H2:HR B E w' ⟨fun b=>G.Im b\/S b,G.g⟩ (ax h n (some (.box []))) used []:=H1.qq S (fun b hb=>(hS b hb).2.1) (fun b hb q hq hl he=>by have:=(hS b hb).1;have:=(H.own q (Pt q hq) hl).2.2;omega)
  (fun b hb q gr sz xs hq hF=>by
   by_cases fw:q=n
   ·subst fw;rw[bE] at hq;cases hq
   ·rw[cb _ _ _ _ fw] at hq
    have:=(hS b hb).1;have:=H.qL hq hF;omega) (fun b hb=>.inl (hS b hb).2.2)
 have hn2:ax h n (some (aq.box [])) n=some (.box []):=bE _ _ _
 have DX:ax h n (some (aq.box [])) n≠none:=by rw[hn2];simp
 have Z7:ax (ax h n (some (aq.box []))) n (some (.box (ps.map fun pc=>ah.c pc.er)))=ax h n (some (.box (ps.map fun pc=>ah.c pc.er))):=by
  funext m;simp only[iO];split<;>rfl
 have Zl:(⟨fun b=>G.Im b\/S b,ax G.g n (G.g n)⟩:Gh)=⟨fun b=>G.Im b\/S b,G.g⟩:=by rw[FG]
 have K2:aZ w' ⟨fun b=>G.Im b\/S b,G.g⟩ (ax h n (some (aq.box []))) (fun n=>used n=true) w' ⟨fun b=>G.Im b\/S b,G.g⟩ (ax h n (some (.box (ps.map fun pc=>ah.c pc.er)))):=by
  refine⟨fun _ h=>h,fun _ _ _=>rfl,fun m hm h0=>?_,fun m gr sz xs hm h0=>?_⟩
  ·refine⟨?_,rfl,rfl,rfl,rfl,rfl⟩
   by_cases bC:m=n
   ·subst bC;exact DX
   ·rw[cb _ _ _ _ bC] at h0⊢;exact h0
  ·by_cases bC:m=n
   ·subst bC;rw[bE] at h0;cases h0
   ·rw[cb _ _ _ _ bC] at h0;exact⟨⟨gr,xs,by rw[cb _ _ _ _ bC];exact h0⟩,fun k j pc h1 h2=>⟨pc,h1,rfl,h2⟩⟩
 have H3:HR B E w' ⟨fun b=>G.Im b\/S b,ax G.g n (G.g n)⟩ (ax (ax h n (some (aq.box []))) n (some (.box (ps.map fun pc=>ah.c pc.er)))) used []:=by
  refine H2.put (w':=w') (fun _ _ _=>rfl) (Nat.le_refl _) (fun _ _ hU=>hU) (fun _ h=>h) wv (fun _=>⟨fun hi=>(H2.own n DX aR).1 hi,qe,Nat.lt_of_lt_of_le rA bF⟩)
   (fun _ m hm h0 kF=>H2.inj m n h0 DX hm kF aR) (fun _ m gr sz xs hm h0 b hb=>H2.live m gr sz xs h0 b hb n DX aR) ?_ (by rw[Zl,Z7];exact K2) ?_
   (fun gr m sz xs hb=>by cases hb) (fun gr sz xs hb=>by cases hb) (fun gr m sz xs hb=>by cases hb) ?_
  ·intro Ia c m hb hc hm
   injection hb with hb
   subst hb
   obtain⟨pc,_,rfl⟩:=List.mem_map.1 hc
   exact absurd hm id
  ·refine⟨aR,(lI _ rA).jc sY,fun j c hj=>?_⟩
   rw[List.getElem?_map] at hj
   cases hp:ps[j]? with
   |none=>rw[hp] at hj;cases hj
   |some pc=>
    rw[hp] at hj
    simp at hj
    subst hj
    obtain⟨g1,g2⟩:=gH pc (List.mem_of_getElem? hp)
    exact⟨pc.val,cg j pc hp,PC.kv pc,pc,rfl,rfl,g1,g2⟩
  ·intro _ _ b hb
   obtain⟨m,gr,mo,sz,xs,hm,h0,cB⟩:=hb
   exact H2.sL DX aR h0 cB
 rw[Zl,Z7] at H3
 have K1:aZ w G h (fun n=>used n=true) w' ⟨fun b=>G.Im b\/S b,G.g⟩ (ax h n (some (aq.box []))):=aZ.trans (fun _ h=>h) (kp []) (aZ.qq S _)
 exact⟨H3,aZ.trans (fun _ h=>h) K1 K2⟩
theorem Sm {σ1:St} {ns:List Nat} {out:List C} (hx:σ.qF ns out=some σ1):(ns=[]/\out=[]/\σ1=σ)\/∃n cs,ns=[n]/\σ.h n=some (.box cs)/\cs.length=out.length/\σ1=σ.du n (.box (out.map .c)):=by
 unfold St.qF at hx
 split at hx
 ·injection hx with hx;exact .inl ⟨rfl,rfl,hx.symm⟩
 ·rename_i n
  split at hx
  ·rename_i cs hn
   split at hx
   ·rename_i hl
    injection hx with hx
    exact .inr ⟨n,cs,rfl,hn,hl,hx.symm⟩
   ·cases hx
  ·cases hx
 ·cases hx
theorem X0 {pas:List PA} {p:PA} (hp:p∈pas) (hk:p.k=.ptr):p∈lB pas:=List.mem_filter.2 ⟨hp,by simp[hk]⟩
theorem X3:∀{pas:List PA},(lB pas).length<=1->∀{i j:Nat} {p q:PA},pas[i]? =some p->pas[j]? =some q->p.k=.ptr->q.k=.ptr->i=j
 |[],_,i,_,_,_,hi,_,_,_=>by simp at hi
 |x::pas,hl,i,j,p,q,hi,hj,hp,hq=>by
  by_cases hx:x.k=.ptr
  ·have hz:(lB pas).length=0:=by
    simp[lB,hx] at hl⊢
    exact hl
   have bS:∀y∈pas,y.k≠ .ptr:=fun y hy hk=>by
    have:=X0 hy hk
    rw[List.length_eq_zero_iff.1 hz] at this
    cases this
   cases i with
   |zero=>
    cases j with
    |zero=>rfl
    |succ j=>exact absurd hq (bS q (List.mem_of_getElem? (by simpa using hj)))
   |succ i=>exact absurd hp (bS p (List.mem_of_getElem? (by simpa using hi)))
  ·have dR:(lB pas).length<=1:=by simpa[lB,hx] using hl
   cases i with
   |zero=>simp at hi;subst hi;exact absurd hp hx
   |succ i=>
    cases j with
    |zero=>simp at hj;subst hj;exact absurd hq hx
    |succ j=>exact congrArg (·+1) (X3 dR (by simpa using hi) (by simpa using hj) hp hq)
theorem MU:∀{aV:List PA} {ls:List (Bool×List ah)},gj (aV.map fun p=>(p.k,p.ps.map PC.er))=some ls->ls=aV.map (fun p=>(decide (p.k=.agg),p.ps.map fun pc=>ah.c pc.er))/\∀p∈aV,p.k≠ .ptr
 |[],ls,h=>by simp only[List.map_nil,gj] at h;injection h with h;exact⟨h.symm,by simp⟩
 |⟨k,ps,b,o⟩::aV,ls,h=>by
  cases k with
  |ptr=>simp[gj] at h
  |one=>
   simp only[List.map_cons,gj] at h
   split at h
   ·rename_i y4 e
    injection h with h
    obtain⟨e1,e2⟩:=MU e
    refine⟨by rw[<-h,e1,List.map_map];rfl,fun p hp=>?_⟩
    cases hp with
    |head=>simp
    |tail _ hp=>exact e2 p hp
   ·cases h
  |agg=>
   simp only[List.map_cons,gj] at h
   split at h
   ·rename_i y4 e
    injection h with h
    obtain⟨e1,e2⟩:=MU e
    refine⟨by rw[<-h,e1,List.map_map];rfl,fun p hp=>?_⟩
    cases hp with
    |head=>simp
    |tail _ hp=>exact e2 p hp
   ·cases h
theorem aoQ {ls:List (Bool×List ah)} {aV:List PA} (hlen:ls.length=aV.length)
  (hv:∀(j:Nat) (x:Bool×List ah) (p:PA),ls[j]? =some x->aV[j]? =some p->RV w G h x.1 x.2 (zi p)):RA w G h (kQ ls) (zj aV):=by
 match ls,aV,hlen with
 |[],[],_=>exact⟨[],rfl,rfl,by simp⟩
 |[(ag,cs)],[p],_=>
  have h0:=hv 0 (ag,cs) p rfl rfl
  cases ag with
  |true=>exact h0
  |false=>
   have bG:cJ w G h cs [zi p]:=h0
   match cs,bG.1 with
   |[c],_=>exact .inr h0
 |x::y::ls,p::q::aV,hl=>
  refine⟨(p::q::aV).map zi,rfl,by simpa using hl.symm,fun j x' u hj hu=>?_⟩
  rw[List.getElem?_map] at hu
  cases hp:(p::q::aV)[j]? with
  |none=>rw[hp] at hu;cases hu
  |some p'=>rw[hp] at hu;simp at hu;subst hu;exact hv j x' p' hj hp
theorem afM (r:R B E w0 N σ a w G) {T:aS} (hT:Ad P T) {f:FuncId} {as:List aj} {vals:List Value} {σ1:St} (hN:∀n,o.dst=some n->n<N)
  (bO:(execOp a.eval o).run P w=.ok (.enter f vals.toArray) w) (hl:vals.length=as.length)
  (uj:∀(j:Nat) (x:aj) (v:Value),as[j]? =some x->vals[j]? =some v->RA w G σ.h x v) (Pu:∀x∈as,∀m,x.ref m->σ.used m=true)
  (hx:pQ T o.dst f as σ=some σ1):o.wp P a w (Nx B E w0 N σ1) Q:=by
 unfold pQ at hx
 split at hx
 ·rename_i ds ns oz M hba hM
  split at hx
  ·rename_i rs out oP
   split at hx
   ·rename_i mV qf
    obtain⟨Im',pas,b1,b2,b3,b4,b5,b6,b7,b8,b9,pJ⟩:=r.hr.gF hba hl uj Pu
    have hns:ns.length<=1:=by
     rcases Sm qf with⟨h1,_⟩|⟨n,cs,h1,_⟩<;>rw[h1]<;>simp
    have lH:∀p∈pas,p.k=.ptr->∃n,ns=[n]/\WI G oz.h p n:=by
     intro p hp hk
     obtain⟨i,hi⟩:=List.getElem?_of_mem (X0 hp hk)
     have bB:i<ns.length:=by rw[<-b5];exact(List.getElem?_eq_some_iff.1 hi).1
     have hn:ns[i]? =some ns[i]:=List.getElem?_eq_getElem bB
     have h0:i=0:=by omega
     subst h0
     refine⟨_,?_,b6 0 p _ hi hn⟩
     match ns,bB,hns with
     |[n],_,_=>rfl
    have va:Mc w ds vals pas:=by
     refine⟨b2,b1,b3,fun p hp hk=>?_,fun i j p q hi hj hp hq=>X3 (by omega) hi hj hp hq⟩
     obtain⟨n,_,cs,hn,e1,e2,e3⟩:=lH p hp hk
     obtain⟨nl,un,_⟩:=b7.box n cs hn
     have ho:=b7.own n (by rw[hn];simp) nl
     rw[e1]
     exact⟨un,fun q hq pc aY hb=>ho.1 (b4 q hq pc aY _ hb)⟩
    unfold Oper.wp
    rw[bO]
    refine(hT f M hM ds rs out oP w vals pas va).mono fun e w' ⟨aV,qs,p1,p2,p3,p4⟩=>?_
    subst p2
    have Z9:∀b,Ae w pas b->Im' b\/w.heap.size<=b:=fun b hb=>by
     rcases hb with hb|⟨q,hq,pc,aY,hb⟩
     ·exact .inr hb
     ·exact .inl (b4 q hq pc aY b hb)
    let S:Nat->Prop:=fun b=>w.heap.size<=b/\((∃p∈aV,∃pc∈p.ps,aT b pc)\/∃pc∈qs,aT b pc)
    have hB:=r.fr.size
    have hS:∀b,S b->w.heap.size<=b/\b<w'.heap.size/\B<=b:=fun b ⟨h1,h2⟩=>by
     refine⟨h1,?_,Nat.le_trans hB h1⟩
     rcases h2 with⟨p,hp,pc,aY,hb⟩|⟨pc,aY,hb⟩
     ·exact(p4.dH p hp pc aY).1.lt hb
     ·exact(p4.out pc aY).1.lt hb
    have Zj:∀p∈aV,∀pc∈p.ps,Good w' pc/\∀b,aT b pc->Im' b\/S b:=fun p hp pc aY=>by
     obtain⟨g1,g2⟩:=p4.dH p hp pc aY
     exact⟨g1,fun b hb=>(Z9 b (g2 b hb)).imp id fun h1=>⟨h1,.inl ⟨p,hp,pc,aY,hb⟩⟩⟩
    have ahH:∀pc∈qs,Good w' pc/\∀b,aT b pc->Im' b\/S b:=fun pc aY=>by
     obtain⟨g1,g2⟩:=p4.out pc aY
     exact⟨g1,fun b hb=>(Z9 b (g2 b hb)).imp id fun h1=>⟨h1,.inr ⟨pc,aY,hb⟩⟩⟩
    have ap4:HR B E w' ⟨fun b=>Im' b\/S b,G.g⟩ mV.h mV.used []/\aZ w ⟨Im',G.g⟩ oz.h (fun n=>oz.used n=true) w' ⟨fun b=>Im' b\/S b,G.g⟩ mV.h/\mV.env=oz.env/\mV.used=oz.used/\Fr B E w0 w':=by
     rcases Sm qf with⟨h1,h2,h3⟩|⟨n,cs,h1,h2,h3,h4⟩
     ·subst h3
      have bS:∀p∈pas,p.k≠ .ptr:=fun p hp hk=>by
       obtain⟨n,e,_⟩:=lH p hp hk
       rw[h1] at e;cases e
      have gY:∀b,b<w.heap.size->w'.heap[b]? =w.heap[b]? :=fun b hb=>p4.fr.block b hb (fun⟨p,hp,hk,_⟩=>bS p hp hk)
      have Hg:=b7.grow gY p4.fr.size
      refine⟨Hg.qq S (fun b hb=>(hS b hb).2.1) (fun b hb q hq hl he=>by have:=(hS b hb).1;have:=(b7.own q hq hl).2.2;omega)
       (fun b hb q gr sz xs hq hF=>by have:=(hS b hb).1;have:=b7.qL hq hF;omega) (fun b hb=>.inl (hS b hb).2.2),
       aZ.trans (fun _ h=>h) (aZ.world (fun b hb=>gY b (b7.fL b hb)) _) (aZ.qq S _),rfl,rfl,r.fr.grow gY p4.fr.size p4.fr.os p4.fr.tape p4.fr.output⟩
     ·subst h4
      obtain⟨p,hp,hk⟩:∃p∈pas,p.k=.ptr:=by
       have hlen:(lB pas).length=1:=by rw[b5,h1];rfl
       match hc:lB pas,hlen with
       |[p],_=>
        have hm:p∈lB pas:=by rw[hc];simp
        have:=List.mem_filter.1 hm
        exact⟨p,this.1,by simpa using this.2⟩
      obtain⟨n',e0,cs',bk,e1,e2,e3⟩:=lH p hp hk
      rw[h1] at e0
      injection e0 with e0
      subst e0
      have Jb:∀q∈pas,q.k=.ptr->q=p:=fun q hq O9=>by
       obtain⟨i,hi⟩:=List.getElem?_of_mem hq
       obtain⟨j,hj⟩:=List.getElem?_of_mem hp
       have:=va.one i j q p hi hj O9 hk
       subst this
       rw[hi] at hj
       injection hj
      have ho:=b7.own n (by rw[h2];simp) (b7.box n cs h2).1
      have gY:∀b,b<w.heap.size->b≠(G.g n).b->w'.heap[b]? =w.heap[b]? :=fun b hb aE=>p4.fr.block b hb (fun⟨q,hq,O9,Zs⟩=>by
       rw[Jb q hq O9,e1] at Zs
       exact aE Zs)
      have lI:∀b,b<w.heap.size->Cz w w' b:=fun b hb=>p4.fr.jc b hb
      obtain⟨Hb,Kb⟩:=b7.Xn (cs':=out.map .c) h2 p4.fr.size gY lI hS (ps:=qs) (by rw[<-p3,List.map_map];rfl) (fun j c hj=>by
       have:=p4.at_ p hp hk j c hj
       rw[e1,e2] at this
       exact this) ahH
      exact⟨Hb,Kb,rfl,rfl,r.fr.one ho.2.1 gY p4.fr.size (lI _ ho.2.2) p4.fr.os p4.fr.tape p4.fr.output⟩
    obtain⟨H2,K2,v1,v2,uv⟩:=ap4
    have K0:aZ w G σ.h (fun n=>σ.used n=true) w' ⟨fun b=>Im' b\/S b,G.g⟩ mV.h:=aZ.trans (fun n hn=>by rw[pJ];exact hn) b8 K2
    have r2:R B E w0 N mV a w' ⟨fun b=>Im' b\/S b,G.g⟩:=r.step (v1.trans b9) (fun m hm=>by rw[v2,pJ];exact hm) K0 H2 uv
    have Ic:∀{ls:List (Bool×List ah)},gj rs=some ls->σ1=mV.put o.dst (kQ ls)->(match(Ending.returned (zj aV)) with|.returned v=>Nx B E w0 N σ1 (a.put o.dst v) w'|_=>True):=by
     intro ls A6 hs
     subst hs
     rw[<-p1] at A6
     obtain⟨rfl,DY⟩:=MU A6
     refine⟨_,r2.put (aoQ (by simp) (fun j x p hj hp=>?_)) (fun q hq=>?_) hN⟩
     ·rw[List.getElem?_map,hp] at hj
      simp at hj
      subst hj
      have hm:=List.mem_of_getElem? hp
      have bG:cJ w' ⟨fun b=>Im' b\/S b,G.g⟩ mV.h (p.ps.map fun pc=>ah.c pc.er) (p.ps.map PC.val):=by
       refine⟨by simp,fun j c u hj hu=>?_⟩
       rw[List.getElem?_map] at hj hu
       cases mC:p.ps[j]? with
       |none=>rw[mC] at hj;cases hj
       |some pc=>
        rw[mC] at hj hu
        simp at hj hu
        subst hj hu
        obtain⟨g1,g2⟩:=Zj p hm pc (List.mem_of_getElem? mC)
        exact⟨PC.kv pc,pc,rfl,rfl,g1,g2⟩
      have IX:=p4.one p hm
      have ZL:=DY p hm
      obtain⟨k,ps,b,o'⟩:=p
      cases k with
      |ptr=>exact absurd rfl ZL
      |agg=>exact⟨ps.map PC.val,rfl,bG⟩
      |one=>
       have h2:=IX rfl
       match ps,h2 with
       |[p],_=>exact bG
     ·exfalso
      refine ab7 (fun x hx c hc hq=>?_) hq
      obtain⟨p,_,rfl⟩:=List.mem_map.1 hx
      obtain⟨pc,_,rfl⟩:=List.mem_map.1 hc
      exact hq
    unfold pK at hx
    split at hx
    ·rename_i cs
     split at hx
     ·rename_i q hq
      split at hx
      ·rename_i τ3 ah1
       injection hx with hx
       subst hx
       obtain⟨u1,rfl⟩:=lP ah1
       obtain⟨p,rfl⟩:∃p,aV=[p]:=by
        have h1:aV.length=1:=by have:=congrArg List.length p1;simpa using this
        exact List.length_eq_one_iff.1 h1
       simp at p1
       obtain⟨hk,ew⟩:=p1
       obtain⟨_,q1,q2,q3,q4,q5⟩:=p4.ptr p (by simp) hk
       subst ew
       have ZQ:oC ⟨fun b=>Im' b\/S b,G.g⟩ mV.h p.b:=by
        refine⟨fun hi=>?_,fun m hm hl he=>?_,fun m gr mo sz xs hm hF=>?_⟩
        ·rcases hi with hi|⟨_,hi⟩
         ·have:=b7.fL _ hi;omega
         ·rcases hi with⟨p',be,pc,aY,hb⟩|⟨pc,aY,hb⟩
          ·simp at be;subst be;exact q4 pc aY hb
          ·exact q5 pc aY hb
        ·have hd:=H2.iA m hm
         obtain⟨k0,k1,k2,_⟩:=K2.name m (by rw[<-v2];exact hd) hm
         have dR:(G.g m).nl=false:=hl
         have:=(b7.own m k0 dR).2.2
         have IQ:(G.g m).b=p.b:=he
         have h7:(⟨Im',G.g⟩:Gh).g m=G.g m:=rfl
         rw[h7] at this
         omega
        ·have hd:=H2.iA m (by rw[hm];simp)
         have eS:∃bj mR aL ar,oz.h m=some (.row bj mR aL ar):=by
          rcases Sm qf with⟨h1,h2,h3⟩|⟨n,cs,h1,h2,h3,h4⟩
          ·subst h3;exact⟨_,_,_,_,hm⟩
          ·subst h4
           by_cases bC:m=n
           ·subst bC;have:ax oz.h m (some (aq.box (out.map ah.c))) m=_:=hm;rw[bE] at this;cases this
           ·have:ax oz.h n (some (aq.box (out.map ah.c))) m=_:=hm
            rw[cb _ _ _ _ bC] at this
            exact⟨_,_,_,_,this⟩
         obtain⟨bj,mR,aL,ar,bI⟩:=eS
         have vW:aX p.b (G.g m).px:=hF
         have:=b7.qL bI vW
         omega
       have Hn:HR B E w' ⟨fun b=>Im' b\/S b,ax G.g q ⟨false,p.b,p.o,0,[],none⟩⟩ (ax mV.h q (some (.box ((p.ps.map PC.er).map .c)))) (ax mV.used q true) []:=by
        refine H2.insert (w':=w') u1 (fun _ _=>rfl) (Nat.le_refl _) (fun _=>⟨ZQ,.inl (Nat.le_trans hB q1),q2.lt⟩) (fun cs' c m hb cO hm=>?_) ⟨rfl,q2,fun j c hj=>?_⟩ (fun gr m sz xs hb=>by cases hb) (fun gr sz xs hb=>by cases hb) (fun gr m sz xs hb=>by cases hb)
        ·injection hb with hb
         subst hb
         obtain⟨x,_,rfl⟩:=List.mem_map.1 cO
         exact absurd hm id
        ·rw[List.getElem?_map,List.getElem?_map] at hj
         cases hp:p.ps[j]? with
         |none=>rw[hp] at hj;cases hj
         |some pc=>
          rw[hp] at hj
          simp at hj
          subst hj
          obtain⟨g1,g2⟩:=Zj p (by simp) pc (List.mem_of_getElem? hp)
          exact⟨pc.val,q3 j pc hp,PC.kv pc,pc,rfl,rfl,g1,g2⟩
       have r3:=r2.step (σ':={mV with h:=ax mV.h q (some (.box ((p.ps.map PC.er).map .c))),used:=ax mV.used q true}) rfl (fun m hm=>qT q m hm) (aZ.insert H2 u1 (fun _ _=>rfl)) Hn uv
       have hv:zj [p]=.pointer (some (ad p.b p.o)):=by
        obtain⟨k,ps,b,o'⟩:=p
        simp only at hk
        subst hk
        rfl
       rw[hv]
       exact⟨_,r3.put (RA.fZ (c:=.ptr q 0 0 0) rfl (show ax mV.h q _ q≠none->(ax G.g q _ q).nl=false/\_=_ from fun _=>by simp[bE])) (fun m hm=>by have bI:m=q:=hm;subst bI;exact bE _ _ _) hN⟩
      ·cases hx
     ·cases hx
    ·split at hx
     ·rename_i ls A6
      injection hx with hx
      exact Ic A6 hx.symm
     ·cases hx
   ·cases hx
  ·cases hx
 ·cases hx
theorem Yw (r:R B E w0 N σ a w G) {T:aS} (hT:Ad P T) {f:FuncId} {xs:Array Operand} {ms:List MO} {ts:Array TypeId} {σ1:St} (hN:∀n,o.dst=some n->n<N)
  (ho:o.op=.call {callee:=.value (.func f),args:=xs,argTypes:=ts}) (hf:bi P f=true) (hm:gi xs.toList ms=true)
  (hx:pQ T o.dst f (ms.map σ.ev) σ=some σ1):o.wp P a w (Nx B E w0 N σ1) Q:=by
 obtain⟨e1,e2⟩:=r.yb hm
 have Pu:∀x∈ms.map σ.ev,∀m,x.ref m->σ.used m=true:=by
  have cV:∀{xs:List Operand} {ms:List MO},gi xs ms=true->∀x∈ms.map σ.ev,∀m,x.ref m->σ.used m=true:=by
   intro xs ms
   induction ms generalizing xs with
   |nil=>intro _ x hx;simp at hx
   |cons m0 ms ih=>
    intro hc x hx m hm
    cases xs with
    |nil=>simp[gi] at hc
    |cons y ys=>
     simp only[gi,Bool.and_eq_true] at hc
     simp only[List.map_cons,List.mem_cons] at hx
     rcases hx with rfl|hx
     ·exact(r.ev hc.1).2 m hm
     ·exact ih hc.2 x hx m hm
  exact cV hm
 refine afM r hT (vals:=xs.toList.map a.eval) hN ?_ (by simpa using e1) e2 Pu hx
 have he:(xs.toList.map a.eval).toArray=xs.map a.eval:=by apply Array.ext';simp
 rw[he]
 simp[execOp,ho,resolve,Deferred.ofValue,invoke,Act.eval,zl hf]
theorem R.pW (r:R B E w0 N σ a w G) {p:ah} (hx:σ.pW p=some σ'):∃G',R B E w0 N σ' a w G'/\σ'.env=σ.env:=by
 unfold St.pW at hx
 split at hx
 ·rename_i n k sz off
  split at hx
  ·rename_i cs hn
   split at hx
   ·rename_i xs ow σ1 ht
    injection hx with hx
    subst hx
    obtain⟨vs,v1,v2⟩:=r.hr.HL hn
    obtain⟨xN,bt,a1,a2,a3,a5,a6,a7,a8,a9⟩:=r.hr.fg ht v1 (fun c hc m hm=>r.hr.gC n cs c m hn hc hm)
    have vC:HR B E w ⟨xN,G.g⟩ σ1.h σ.used []:=by
     cases ow with
     |true=>exact HR.xv (tk:=[]) (l:=bt) (by simpa using a5)
     |false=>simpa using a5
    have kG:=Wp ht hn
    obtain⟨b1,b2⟩:=vC.Xn (w':=w) (cs':=xs.map .c) kG (Nat.le_refl _) (fun _ _ _=>rfl) (fun b _=>Cz.refl w b) (S:=fun _=>False) (fun b hb=>hb.elim) (ps:=bt)
     (by rw[<-a1,List.map_map];rfl) (fun j c hj=>by
      have:=v2 j c.val (by rw[<-a2,List.getElem?_map,hj];rfl)
      exact this) (fun pc aY=>⟨(a3 pc aY).1,fun b hb=>.inl ((a3 pc aY).2 b hb)⟩)
    have hk:=aZ.trans (fun _ h=>h) a6 b2
    refine⟨_,r.step a7 (fun q hq=>by rw[show(σ1.du n (.box (xs.map .c))).used=σ1.used from rfl,a8];exact hq) hk ?_ r.fr,a7⟩
    show HR B E w _ _ σ1.used []
    rw[a8]
    exact b1
   ·cases hx
  ·cases hx
 ·cases hx
theorem afT (r:R B E w0 N σ a w G) {t:TypeId} {x:Operand} {m:MO} {ag:Bool} {sz:Nat} {p:ah} {cs:List ah} (ho:o.op=.load t x) (hN:∀n,o.dst=some n->n<N)
  (hm:bz x m=true) (dF:pM P t ag sz=true) (hp:σ.ev m=.one p) (hf:σ.pW p=some σ') (hx:Am.loadAt σ'.h p sz=some cs):
  o.wp P a w (Nx B E w0 N (σ'.put o.dst (kZ ag cs))) Q:=by
 obtain⟨G',r',e⟩:=r.pW hf
 refine YA r' ho hN hm dF (p:=p) ?_ hx
 cases m with
 |t n=>simp only[St.ev] at hp⊢;rw[e];exact hp
 |k v=>exact hp
end
end Go.Am
