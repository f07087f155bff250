/- AmV: functions whose results may share, and that may change the cells of one pointer: what is said of them, and the caller's side of a call. No condition. -/
import Derived.Test.YtfkfmbhknekkdaaAmU
set_option linter.unusedVariables false
namespace Go.Am
structure QR (w:World) (ds:List Dv) (vals:List Value) (aD:List PA):Prop where
 l1:vals.length=ds.length
 l2:aD.length=ds.length
 at_:∀(i:Nat) (d:Dv) (v:Value) (p:PA),ds[i]? =some d->vals[i]? =some v->aD[i]? =some p->rH w d v p
 iU:∀p∈aD,p.k=.ptr->dm w p.b/\∀q∈aD,∀pc∈q.ps,¬aM p.b pc
 one:∀(i j:Nat) (p q:PA),aD[i]? =some p->aD[j]? =some q->p.k=.ptr->q.k=.ptr->i=j
def IB (w:World) (aD:List PA) (b:Nat):Prop:=w.heap.size<=b\/∃q∈aD,∃pc∈q.ps,aM b pc
def exV (aD:List PA):Ex:=⟨fun b=>∃p∈aD,p.k=.ptr/\b=p.b,fun _=>none,fun _ _ h=>(by cases h),fun _=>True⟩
def CK (p:PA):Value:=
 match p.k with
 |.one=>match p.ps with
  |[pc]=>pc.val
  |_=>.agg (p.ps.map PC.val).toArray
 |.agg=>.agg (p.ps.map PC.val).toArray
 |.ptr=>.pointer (some (ad p.b p.o))
def GI:List PA->Value
 |[p]=>CK p
 |l=>.tuple (l.map CK).toArray
def QK (w:World) (b o:Nat) (ps:List PC):Prop:=∀(j:Nat) (c:PC),ps[j]? =some c->w.cell? (ad b (o+j))=some c.val
structure ZY (w w':World) (aD aT:List PA) (qs:List PC):Prop where
 one:∀p∈aT,p.k=.one->p.ps.length=1
 ptr:∀p∈aT,p.k=.ptr->aT.length=1/\w.heap.size<=p.b/\dm w' p.b/\QK w' p.b p.o p.ps/\(∀pc∈p.ps,¬aM p.b pc)/\∀pc∈qs,¬aM p.b pc
 dA:∀p∈aT,∀pc∈p.ps,Good w' pc/\∀b,aM b pc->IB w aD b
 fr:Fr w.heap.size (exV aD) w w'
 out:∀pc∈qs,Good w' pc/\∀b,aM b pc->IB w aD b
 at_:∀p∈aD,p.k=.ptr->QK w' p.b p.o qs
def QS (P:Program) (f:FuncId) (M:List Dv->Option (List Dv×List C)):Prop:=
 ∀ds rs out,M ds=some (rs,out)->∀(w:World) (vals:List Value) (aD:List PA),QR w ds vals aD->Calls P f vals.toArray w fun e w'=>
  ∃(aT:List PA) (qs:List PC),aT.map (fun p=>(p.k,p.ps.map PC.er))=rs/\e=.returned (GI aT)/\qs.map PC.er=out/\ZY w w' aD aT qs
def xV (P:Program) (T:aA):Prop:=∀f M,aA.jb T.vs f=some M->QS P f M
section
variable {B:Nat} {E:Ex} {w0 w w':World} {G G':Gh} {N:Nat} {h h':Nat->Option ak} {used used':Nat->Bool} {tk:List PC}
variable {P:Program} {o:Oper} {a:Act} {σ σ':St} {Q:Exit->Act->World->Prop}
theorem HR.mz {c:ae} {x:C} {v:Value} (hx:Am.mz c=some x) (hc:RC w G h c v):∃pc:PC,pc.er=x/\pc.val=v/\Good w pc/\∀b,aM b pc->G.Im b:=by
 cases c with
 |c y=>
  simp only[Am.mz] at hx
  injection hx with hx
  subst hx
  exact hc
 |nil sz=>
  simp only[Am.mz] at hx
  split at hx
  ·rename_i dU
   injection hx with hx
   subst hx
   have cN:v=.slice none 0 0:=hc
   subst cN
   refine⟨.list sz none 0 [],by simp[PC.du],rfl,.nil _ _ _ dU,fun b hb=>?_⟩
   rw[aM.jk] at hb
   rcases hb with⟨hb,_⟩|⟨k,j,c,⟨e,he,_⟩,_⟩
   ·exact absurd rfl hb
   ·simp at he
  ·cases hx
 |_=>simp[Am.mz] at hx
theorem HR.j5:∀{cs:List ae} {xs:List C} {vs:List Value},Am.j5 cs=some xs->cL w G h cs vs->∃ps:List PC,ps.map PC.er=xs/\ps.map PC.val=vs/\∀pc∈ps,Good w pc/\∀b,aM b pc->G.Im b
 |[],xs,vs,hx,hc=>by
  simp only[Am.j5] at hx
  injection hx with hx
  subst hx
  have:vs=[]:=List.eq_nil_of_length_eq_zero (by simpa using hc.1)
  subst this
  exact⟨[],rfl,rfl,by simp⟩
 |c::cs,xs,vs,hx,hc=>by
  simp only[Am.j5] at hx
  split at hx
  ·rename_i x ao e1 e2
   injection hx with hx
   subst hx
   match vs,hc.1 with
   |v::vs,hl=>
    obtain⟨pc,a1,a2,a3,a4⟩:=HR.mz e1 (hc.2 0 c v rfl rfl).2
    obtain⟨ps,b1,b2,b3⟩:=HR.j5 (vs:=vs) e2 ⟨by simpa using hl,fun j c u h1 h2=>hc.2 (j+1) c u h1 h2⟩
    refine⟨pc::ps,by simp[a1,b1],by simp[a2,b2],fun q hq=>?_⟩
    cases hq with
    |head=>exact⟨a3,a4⟩
    |tail _ hq=>exact b3 q hq
  ·cases hx
theorem HR.Rt (H:HR B E w G h used tk) {n:Nat} {cs:List ae} (hn:h n=some (.box cs)):∃vs:List Value,cL w G h cs vs/\∀(j:Nat) (v:Value),vs[j]? =some v->w.cell? (ad (G.g n).b ((G.g n).o+j))=some v:=by
 obtain⟨_,_,a3⟩:=H.box n cs hn
 have hj:∀j:Fin cs.length,∃v,w.cell? (ad (G.g n).b ((G.g n).o+j.1))=some v/\v.oneCell'=true/\RC w G h cs[j.1] v:=fun j=>a3 j.1 _ (List.getElem?_eq_getElem j.2)
 refine⟨List.ofFn fun j=>Classical.choose (hj j),⟨by simp,fun j c u hc hu=>?_⟩,fun j v hv=>?_⟩
 ·obtain⟨hl,e⟩:=List.getElem?_eq_some_iff.1 hc
  rw[List.getElem?_ofFn,dif_pos hl] at hu
  injection hu with hu
  subst hu e
  exact(Classical.choose_spec (hj ⟨j,hl⟩)).2
 ·by_cases hl:j<cs.length
  ·rw[List.getElem?_ofFn,dif_pos hl] at hv
   injection hv with hv
   subst hv
   exact(Classical.choose_spec (hj ⟨j,hl⟩)).1
  ·rw[List.getElem?_eq_none (by simp;omega)] at hv;cases hv
theorem ak9 {σ1:St} {c:ae} {x:C} {o:Bool} (hx:σ.fe c=some (x,o,σ1)) {n:Nat} {cs:List ae} (hn:σ.h n=some (.box cs)):σ1.h n=some (.box cs):=by
 cases c with
 |c y=>simp only[St.fe] at hx;injection hx with hx;injection hx with _ hx;injection hx with _ hx;subst hx;exact hn
 |nil sz=>
  simp only[St.fe] at hx
  split at hx
  ·injection hx with hx;injection hx with _ hx;injection hx with _ hx;subst hx;exact hn
  ·cases hx
 |sl q sz lo len=>
  simp only[St.fe] at hx
  split at hx
  ·rename_i gr m rs xs hq
   split at hx
   ·injection hx with hx;injection hx with _ hx;injection hx with _ hx;subst hx
    have av:n≠q:=by rintro rfl;rw[hq] at hn;cases hn
    show aq σ.h q none n=_
    rw[cd _ _ _ _ av];exact hn
   ·cases hx
  ·cases hx
 |_=>simp[St.fe] at hx
theorem Ql:∀{l:List ae} {σ σ1:St} {xs:List C} {o:Bool},σ.eS l=some (xs,o,σ1)->∀{n:Nat} {cs:List ae},σ.h n=some (.box cs)->σ1.h n=some (.box cs)
 |[],σ,σ1,xs,o,hx,n,cs,hn=>by simp only[St.eS] at hx;injection hx with hx;injection hx with _ hx;injection hx with _ hx;subst hx;exact hn
 |c::l,σ,σ2,xs,o,hx,n,cs,hn=>by
  simp only[St.eS] at hx
  split at hx
  ·rename_i x o1 σ1 e1
   split at hx
   ·rename_i ao o2 QA e2
    injection hx with hx;injection hx with _ hx;injection hx with _ hx;subst hx
    exact Ql e2 (ak9 e1 hn)
   ·cases hx
  ·cases hx
theorem II:∀{as:List ai} {σ σ1:St} {ds:List Dv} {ns:List Nat},σ.fY as=some (ds,ns,σ1)->∀{n:Nat} {cs:List ae},σ.h n=some (.box cs)->σ1.h n=some (.box cs)
 |[],σ,σ1,ds,ns,hx,n,cs,hn=>by simp only[St.fY] at hx;injection hx with hx;injection hx with _ hx;injection hx with _ hx;subst hx;exact hn
 |v::as,σ,σ2,ds,ns,hx,n,cs,hn=>by
  simp only[St.fY] at hx
  split at hx
  ·split at hx
   ·rename_i e
    injection hx with hx;injection hx with _ hx;injection hx with _ hx;subst hx
    exact II e hn
   ·cases hx
  ·split at hx
   ·split at hx
    ·rename_i e1
     split at hx
     ·rename_i e2
      injection hx with hx;injection hx with _ hx;injection hx with _ hx;subst hx
      exact II e2 (Ql e1 hn)
     ·cases hx
    ·cases hx
   ·cases hx
def jV (aD:List PA):List PA:=aD.filter fun p=>decide (p.k=.ptr)
def QD (G:Gh) (h:Nat->Option ak) (p:PA) (n:Nat):Prop:=∃cs,h n=some (.box cs)/\p.b=(G.g n).b/\p.o=(G.g n).o/\p.ps.length=cs.length
theorem Rk {v:ai} {n:Nat} {xs:List C} (hx:ku h v=some (n,xs)):∃sz cs,v=.one (.ptr n 0 sz 0)/\h n=some (.box cs)/\j5 cs=some xs:=by
 unfold ku at hx
 split at hx
 ·rename_i q k sz off
  split at hx
  ·rename_i hc
   obtain⟨rfl,rfl⟩:=hc
   split at hx
   ·rename_i cs hq
    split at hx
    ·rename_i ys e
     injection hx with hx
     injection hx with h1 h2
     subst h1 h2
     exact⟨sz,cs,rfl,hq,e⟩
    ·cases hx
   ·cases hx
  ·cases hx
 ·cases hx
theorem HR.fY:∀{as:List ai} {vals:List Value} {σ σ1:St} {G:Gh} {ds:List Dv} {ns:List Nat},HR B E w G σ.h σ.used []->σ.fY as=some (ds,ns,σ1)->vals.length=as.length->
  (∀(j:Nat) (x:ai) (v:Value),as[j]? =some x->vals[j]? =some v->RA w G σ.h x v)->(∀x∈as,∀m,x.ref m->σ.used m=true)->
  ∃(Im':Nat->Prop) (aD:List PA),aD.length=ds.length/\vals.length=ds.length/\(∀(i:Nat) (d:Dv) (v:Value) (p:PA),ds[i]? =some d->vals[i]? =some v->aD[i]? =some p->rH w d v p)/\
   (∀p∈aD,∀pc∈p.ps,∀b,aM b pc->Im' b)/\(jV aD).length=ns.length/\(∀(i:Nat) (p:PA) (n:Nat),(jV aD)[i]? =some p->ns[i]? =some n->QD G σ1.h p n)/\
   HR B E w ⟨Im',G.g⟩ σ1.h σ1.used []/\aQ w G σ.h (fun n=>σ.used n=true) w ⟨Im',G.g⟩ σ1.h/\σ1.env=σ.env/\σ1.used=σ.used
 |[],vals,σ,σ1,G,ds,ns,H,hx,hl,hc,hr=>by
  simp only[St.fY] at hx
  injection hx with hx
  injection hx with h1 h2
  injection h2 with h2 h3
  subst h1 h2 h3
  exact⟨G.Im,[],rfl,by simpa using hl,by simp,by simp,rfl,by simp[jV],H,aQ.refl _ _ _ _,rfl,rfl⟩
 |x::as,vals,σ,σ2,G,ds,ns,H,hx,hl,hc,hr=>by
  match vals,hl with
  |v::vals,hl=>
   simp only[St.fY] at hx
   split at hx
   ·rename_i n xs hp
    split at hx
    ·rename_i r9 iQ σ1 e
     injection hx with hx
     injection hx with h1 h2
     injection h2 with h2 h3
     subst h1 h2 h3
     obtain⟨sz,cs,rfl,hn,BJ⟩:=Rk hp
     obtain⟨nl,un,_⟩:=H.box n cs hn
     obtain⟨vs,v1,v2⟩:=H.Rt hn
     obtain⟨ps,p1,p2,p3⟩:=HR.j5 BJ v1
     have hv:v=.pointer (some (ad (G.g n).b (G.g n).o)):=by
      have h0:=hc 0 _ v rfl rfl
      rcases h0 with h0|h0
      ·cases h0
      ·have h1:RC w G σ.h (.ptr n 0 sz 0) v:=(h0.2 0 _ v rfl rfl).2
       simpa using(h1 (by rw[hn];simp)).2
     obtain⟨Im',aD,b1,b2,b3,b4,b5,b6,b7,b8,b9,mV⟩:=HR.fY (as:=as) (vals:=vals) H e (by simpa using hl) (fun j x v h1 h2=>hc (j+1) x v h1 h2) (fun x hx=>hr x (by simp[hx]))
     have hk:(Am.K.ptr=Am.K.ptr)=True:=by simp
     refine⟨Im',⟨.ptr,ps,(G.g n).b,(G.g n).o⟩::aD,by simp[b1],by simp[b2],fun i d u p hd hu fD=>?_,fun p fD pc bc b hb=>?_,by simp[jV];exact b5,fun i p m hi hm=>?_,b7,b8,b9,mV⟩
     ·cases i with
      |zero=>
       simp at hd hu fD
       subst hd hu fD
       refine⟨by rw[p1],fun pc bc=>(p3 pc bc).1,hv,un.lt,fun j c hj=>v2 j _ ?_⟩
       rw[<-p2,List.getElem?_map,hj];rfl
      |succ i=>exact b3 i d u p (by simpa using hd) (by simpa using hu) (by simpa using fD)
     ·cases fD with
      |head=>exact b8.im b ((p3 pc bc).2 b hb)
      |tail _ fD=>exact b4 p fD pc bc b hb
     ·cases i with
      |zero=>
       simp[jV] at hi hm
       subst hi hm
       refine⟨cs,II e hn,rfl,rfl,?_⟩
       have h1:ps.length=vs.length:=by rw[<-p2];simp
       exact h1.trans v1.1
      |succ i=>exact b6 i p m (by simpa[jV] using hi) (by simpa using hm)
    ·cases hx
   ·split at hx
    ·rename_i ag cs eF
     split at hx
     ·rename_i xs o σ1 e1
      split at hx
      ·rename_i r9 iQ QA e2
       injection hx with hx
       injection hx with h1 h2
       injection h2 with h2 h3
       subst h1 h2 h3
       have h0:=hc 0 x v rfl rfl
       have pL:∃vs:List Value,(if ag=true then v=.agg vs.toArray else vs=[v])/\cL w G σ.h cs vs:=by
        cases x with
        |one c=>
         have hcc:ag=false/\cs=[c]:=by cases c<;>simp[ai.cells?] at eF<;>exact⟨eF.1,eF.2.symm⟩
         obtain⟨rfl,rfl⟩:=hcc
         rcases h0 with h0|h0
         ·subst h0;simp[ai.cells?] at eF
         ·exact⟨[v],rfl,h0⟩
        |agg cs'=>
         simp[ai.cells?] at eF
         obtain⟨rfl,rfl⟩:=eF
         obtain⟨vs,e,h1⟩:∃vs:List Value,v=.agg vs.toArray/\cL w G σ.h cs' vs:=h0
         exact⟨vs,e,h1⟩
        |aY xs=>simp[ai.cells?] at eF
       obtain⟨vs,od,bq⟩:=pL
       obtain⟨vq,bk,a1,a2,a3,a5,a6,a7,a8,a9⟩:=H.eS e1 bq (fun c' cN m hm=>hr x (by simp) m (ai.vG eF cN hm))
       have tz:HR B E w ⟨vq,G.g⟩ σ1.h σ.used []:=by
        cases o with
        |true=>exact HR.vg (tk:=[]) (l:=bk) (by simpa using a5)
        |false=>simpa using a5
       rw[<-a8] at tz
       obtain⟨Ay,aD,b1,b2,b3,b4,b5,b6,b7,b8,b9,mV⟩:=HR.fY (as:=as) (vals:=vals) (G:=⟨vq,G.g⟩) tz e2 (by simpa using hl)
        (fun j x v h1 h2=>(hc (j+1) x v h1 h2).eI a6 (fun m hm=>hr x (by simp[List.mem_of_getElem? h1]) m hm)) (fun x' gk m hm=>by rw[a8];exact hr x' (by simp[gk]) m hm)
       refine⟨Ay,⟨if ag=true then .agg else .one,bk,0,0⟩::aD,by simp[b1],by simp[b2],fun i d u p hd hu fD=>?_,fun p fD pc bc b hb=>?_,?_,fun i p m hi hm=>?_,b7,
        aQ.trans (fun n hn=>by rw[a8];exact hn) a6 b8,b9.trans a7,mV.trans a8⟩
       ·cases i with
        |zero=>
         simp at hd hu fD
         subst hd hu fD
         cases ag with
         |true=>exact⟨by simp[a1],fun pc bc=>(a3 pc bc).1,by simp only[if_true] at od⊢;rw[a2];exact od⟩
         |false=>exact⟨by simp[a1],fun pc bc=>(a3 pc bc).1,by simp only[Bool.false_eq_true,if_false] at od⊢;rw[a2];exact od⟩
        |succ i=>exact b3 i d u p (by simpa using hd) (by simpa using hu) (by simpa using fD)
       ·cases fD with
        |head=>exact b8.im b ((a3 pc bc).2 b hb)
        |tail _ fD=>exact b4 p fD pc bc b hb
       ·cases ag<;>simp[jV]<;>exact b5
       ·refine b6 i p m ?_ hm
        cases ag<;>simpa[jV] using hi
      ·cases hx
     ·cases hx
    ·cases hx
theorem HR.Rs (H:HR B E w G h used []) {n:Nat} {cs cs':List ae} (hn:h n=some (.box cs)) (bo:w.heap.size<=w'.heap.size) (hw:∀b,b<w.heap.size->b≠(G.g n).b->w'.heap[b]? =w.heap[b]?)
  (jY:∀b,b<w.heap.size->Cz w w' b) {S:Nat->Prop} (hS:∀b,S b->w.heap.size<=b/\b<w'.heap.size/\B<=b) {ps:List PC} (eK:cs'=ps.map fun pc=>ae.c pc.er)
  (bK:∀(j:Nat) (c:PC),ps[j]? =some c->w'.cell? (ad (G.g n).b ((G.g n).o+j))=some c.val) (gO:∀pc∈ps,Good w' pc/\∀b,aM b pc->G.Im b\/S b):
  HR B E w' ⟨fun b=>G.Im b\/S b,G.g⟩ (aq h n (some (.box cs'))) used []/\aQ w G h (fun n=>used n=true) w' ⟨fun b=>G.Im b\/S b,G.g⟩ (aq h n (some (.box cs'))):=by
 subst eK
 have bJ:h n≠none:=by rw[hn];simp
 obtain⟨aE,qW,fI⟩:=H.box n cs hn
 obtain⟨pH,n9,pI⟩:=H.own n bJ aE
 have ub:=H.gN n bJ
 have kp:∀EI:List ae,aQ w G h (fun n=>used n=true) w' G (aq h n (some (.box EI))):=by
  intro EI
  refine⟨fun _ h=>h,fun b hb x=>gL (hw b (H.fv b hb) (fun he=>pH (he▸hb))) x,fun m hm h0=>?_,fun m gr sz xs hm h0=>?_⟩
  ·by_cases br:m=n
   ·subst br;exact⟨bJ,rfl,rfl,rfl,rfl,rfl⟩
   ·rw[cd _ _ _ _ br] at h0;exact⟨h0,rfl,rfl,rfl,rfl,rfl⟩
  ·by_cases br:m=n
   ·subst br;rw[bu] at h0;cases h0
   ·rw[cd _ _ _ _ br] at h0;exact⟨⟨gr,xs,h0⟩,fun k j pc h1 h2=>⟨pc,h1,rfl,h2⟩⟩
 have hG:(⟨G.Im,aq G.g n (G.g n)⟩:Gh)=G:=by rw[Dd]
 have H1:HR B E w' ⟨G.Im,aq G.g n (G.g n)⟩ (aq h n (some (.box []))) used []:=by
  refine H.put (fun b hb av=>hw b hb (av aE)) bo (fun b hb hU=>(jY b hb).iU hU) (fun _ h=>h) ub (fun _=>⟨pH,n9,Nat.lt_of_lt_of_le pI bo⟩)
   (fun _ m hm h0 lA=>(H.inj m n h0 bJ hm lA aE)) (fun _ m gr sz xs hm h0 b hb=>H.live m gr sz xs h0 b hb n bJ aE) ?_ (by rw[hG];exact kp []) ?_
   (fun gr m sz xs hb=>by cases hb) (fun gr sz xs hb=>by cases hb) (fun gr m sz xs hb=>by cases hb) ?_
  ·intro EI c m hb hc hm
   injection hb with hb
   subst hb
   cases hc
  ·exact⟨aE,(jY _ pI).iU qW,fun j c hj=>by simp at hj⟩
  ·intro _ _ b hb
   obtain⟨m,gr,mo,sz,xs,hm,h0,cz⟩:=hb
   exact H.qI bJ aE h0 cz
 rw[hG] at H1
 have K8:∀m,aq h n (some (ak.box [])) m≠none->h m≠none:=fun m hm=>by
  by_cases br:m=n
  ·subst br;exact bJ
  ·rwa[cd _ _ _ _ br] at hm
 have H2:HR B E w' ⟨fun b=>G.Im b\/S b,G.g⟩ (aq h n (some (.box []))) used []:=H1.ot S (fun b hb=>(hS b hb).2.1) (fun b hb q hq hl he=>by have:=(hS b hb).1;have:=(H.own q (K8 q hq) hl).2.2;omega)
  (fun b hb q gr sz xs hq hF=>by
   by_cases e7:q=n
   ·subst e7;rw[bu] at hq;cases hq
   ·rw[cd _ _ _ _ e7] at hq
    have:=(hS b hb).1;have:=H.oK hq hF;omega) (fun b hb=>.inl (hS b hb).2.2)
 have hn2:aq h n (some (ak.box [])) n=some (.box []):=bu _ _ _
 have BP:aq h n (some (ak.box [])) n≠none:=by rw[hn2];simp
 have Uv:aq (aq h n (some (ak.box []))) n (some (.box (ps.map fun pc=>ae.c pc.er)))=aq h n (some (.box (ps.map fun pc=>ae.c pc.er))):=by
  funext m;simp only[ik];split<;>rfl
 have TH:(⟨fun b=>G.Im b\/S b,aq G.g n (G.g n)⟩:Gh)=⟨fun b=>G.Im b\/S b,G.g⟩:=by rw[Dd]
 have K2:aQ w' ⟨fun b=>G.Im b\/S b,G.g⟩ (aq h n (some (ak.box []))) (fun n=>used n=true) w' ⟨fun b=>G.Im b\/S b,G.g⟩ (aq h n (some (.box (ps.map fun pc=>ae.c pc.er)))):=by
  refine⟨fun _ h=>h,fun _ _ _=>rfl,fun m hm h0=>?_,fun m gr sz xs hm h0=>?_⟩
  ·refine⟨?_,rfl,rfl,rfl,rfl,rfl⟩
   by_cases br:m=n
   ·subst br;exact BP
   ·rw[cd _ _ _ _ br] at h0⊢;exact h0
  ·by_cases br:m=n
   ·subst br;rw[bu] at h0;cases h0
   ·rw[cd _ _ _ _ br] at h0;exact⟨⟨gr,xs,by rw[cd _ _ _ _ br];exact h0⟩,fun k j pc h1 h2=>⟨pc,h1,rfl,h2⟩⟩
 have H3:HR B E w' ⟨fun b=>G.Im b\/S b,aq G.g n (G.g n)⟩ (aq (aq h n (some (ak.box []))) n (some (.box (ps.map fun pc=>ae.c pc.er)))) used []:=by
  refine H2.put (w':=w') (fun _ _ _=>rfl) (Nat.le_refl _) (fun _ _ hU=>hU) (fun _ h=>h) ub (fun _=>⟨fun hi=>(H2.own n BP aE).1 hi,n9,Nat.lt_of_lt_of_le pI bo⟩)
   (fun _ m hm h0 lA=>H2.inj m n h0 BP hm lA aE) (fun _ m gr sz xs hm h0 b hb=>H2.live m gr sz xs h0 b hb n BP aE) ?_ (by rw[TH,Uv];exact K2) ?_
   (fun gr m sz xs hb=>by cases hb) (fun gr sz xs hb=>by cases hb) (fun gr m sz xs hb=>by cases hb) ?_
  ·intro EI c m hb hc hm
   injection hb with hb
   subst hb
   obtain⟨pc,_,rfl⟩:=List.mem_map.1 hc
   exact absurd hm id
  ·refine⟨aE,(jY _ pI).iU qW,fun j c hj=>?_⟩
   rw[List.getElem?_map] at hj
   cases hp:ps[j]? with
   |none=>rw[hp] at hj;cases hj
   |some pc=>
    rw[hp] at hj
    simp at hj
    subst hj
    obtain⟨g1,g2⟩:=gO pc (List.mem_of_getElem? hp)
    exact⟨pc.val,bK j pc hp,PC.jN pc,pc,rfl,rfl,g1,g2⟩
  ·intro _ _ b hb
   obtain⟨m,gr,mo,sz,xs,hm,h0,cz⟩:=hb
   exact H2.qI BP aE h0 cz
 rw[TH,Uv] at H3
 have K1:aQ w G h (fun n=>used n=true) w' ⟨fun b=>G.Im b\/S b,G.g⟩ (aq h n (some (ak.box []))):=aQ.trans (fun _ h=>h) (kp []) (aQ.ot S _)
 exact⟨H3,aQ.trans (fun _ h=>h) K1 K2⟩
theorem NI {σ1:St} {ns:List Nat} {out:List C} (hx:σ.oD ns out=some σ1):(ns=[]/\out=[]/\σ1=σ)\/∃n cs,ns=[n]/\σ.h n=some (.box cs)/\cs.length=out.length/\σ1=σ.df n (.box (out.map .c)):=by
 unfold St.oD at hx
 split at hx
 ·injection hx with hx;exact .inl ⟨rfl,rfl,hx.symm⟩
 ·rename_i n
  split at hx
  ·rename_i cs hn
   split at hx
   ·rename_i hl
    injection hx with hx
    exact .inr ⟨n,cs,rfl,hn,hl,hx.symm⟩
   ·cases hx
  ·cases hx
 ·cases hx
theorem Sa {aD:List PA} {p:PA} (hp:p∈aD) (hk:p.k=.ptr):p∈jV aD:=List.mem_filter.2 ⟨hp,by simp[hk]⟩
theorem Sb:∀{aD:List PA},(jV aD).length<=1->∀{i j:Nat} {p q:PA},aD[i]? =some p->aD[j]? =some q->p.k=.ptr->q.k=.ptr->i=j
 |[],_,i,_,_,_,hi,_,_,_=>by simp at hi
 |x::aD,hl,i,j,p,q,hi,hj,hp,hq=>by
  by_cases hx:x.k=.ptr
  ·have hz:(jV aD).length=0:=by
    simp[jV,hx] at hl⊢
    exact hl
   have cq:∀y∈aD,y.k≠ .ptr:=fun y hy hk=>by
    have:=Sa hy hk
    rw[List.length_eq_zero_iff.1 hz] at this
    cases this
   cases i with
   |zero=>
    cases j with
    |zero=>rfl
    |succ j=>exact absurd hq (cq q (List.mem_of_getElem? (by simpa using hj)))
   |succ i=>exact absurd hp (cq p (List.mem_of_getElem? (by simpa using hi)))
  ·have cT:(jV aD).length<=1:=by simpa[jV,hx] using hl
   cases i with
   |zero=>simp at hi;subst hi;exact absurd hp hx
   |succ i=>
    cases j with
    |zero=>simp at hj;subst hj;exact absurd hq hx
    |succ j=>exact congrArg (·+1) (Sb cT (by simpa using hi) (by simpa using hj) hp hq)
theorem Jh:∀{aT:List PA} {ls:List (Bool×List ae)},fO (aT.map fun p=>(p.k,p.ps.map PC.er))=some ls->ls=aT.map (fun p=>(decide (p.k=.agg),p.ps.map fun pc=>ae.c pc.er))/\∀p∈aT,p.k≠ .ptr
 |[],ls,h=>by simp only[List.map_nil,fO] at h;injection h with h;exact⟨h.symm,by simp⟩
 |⟨k,ps,b,o⟩::aT,ls,h=>by
  cases k with
  |ptr=>simp[fO] at h
  |one=>
   simp only[List.map_cons,fO] at h
   split at h
   ·rename_i wT e
    injection h with h
    obtain⟨e1,e2⟩:=Jh e
    refine⟨by rw[<-h,e1,List.map_map];rfl,fun p hp=>?_⟩
    cases hp with
    |head=>simp
    |tail _ hp=>exact e2 p hp
   ·cases h
  |agg=>
   simp only[List.map_cons,fO] at h
   split at h
   ·rename_i wT e
    injection h with h
    obtain⟨e1,e2⟩:=Jh e
    refine⟨by rw[<-h,e1,List.map_map];rfl,fun p hp=>?_⟩
    cases hp with
    |head=>simp
    |tail _ hp=>exact e2 p hp
   ·cases h
theorem ajt {ls:List (Bool×List ae)} {aT:List PA} (hlen:ls.length=aT.length)
  (hv:∀(j:Nat) (x:Bool×List ae) (p:PA),ls[j]? =some x->aT[j]? =some p->RV w G h x.1 x.2 (CK p)):RA w G h (iR ls) (GI aT):=by
 match ls,aT,hlen with
 |[],[],_=>exact⟨[],rfl,rfl,by simp⟩
 |[(ag,cs)],[p],_=>
  have h0:=hv 0 (ag,cs) p rfl rfl
  cases ag with
  |true=>exact h0
  |false=>
   have bq:cL w G h cs [CK p]:=h0
   match cs,bq.1 with
   |[c],_=>exact .inr h0
 |x::y::ls,p::q::aT,hl=>
  refine⟨(p::q::aT).map CK,rfl,by simpa using hl.symm,fun j x' u hj hu=>?_⟩
  rw[List.getElem?_map] at hu
  cases hp:(p::q::aT)[j]? with
  |none=>rw[hp] at hu;cases hu
  |some p'=>rw[hp] at hu;simp at hu;subst hu;exact hv j x' p' hj hp
theorem aby (r:R B E w0 N σ a w G) {T:aA} (hT:xV P T) {f:FuncId} {as:List ai} {vals:List Value} {σ1:St} (hN:∀n,o.dst=some n->n<N)
  (bH:(execOp a.eval o).run P w=.ok (.enter f vals.toArray) w) (hl:vals.length=as.length)
  (kI:∀(j:Nat) (x:ai) (v:Value),as[j]? =some x->vals[j]? =some v->RA w G σ.h x v) (K9:∀x∈as,∀m,x.ref m->σ.used m=true)
  (hx:nT T o.dst f as σ=some σ1):o.wp P a w (Nx B E w0 N σ1) Q:=by
 unfold nT at hx
 split at hx
 ·rename_i ds ns mN M hba hM
  split at hx
  ·rename_i rs out lr
   split at hx
   ·rename_i k9 kM
    obtain⟨Im',aD,b1,b2,b3,b4,b5,b6,b7,b8,b9,mV⟩:=r.hr.fY hba hl kI K9
    have hns:ns.length<=1:=by
     rcases NI kM with⟨h1,_⟩|⟨n,cs,h1,_⟩<;>rw[h1]<;>simp
    have pD:∀p∈aD,p.k=.ptr->∃n,ns=[n]/\QD G mN.h p n:=by
     intro p hp hk
     obtain⟨i,hi⟩:=List.getElem?_of_mem (Sa hp hk)
     have bB:i<ns.length:=by rw[<-b5];exact(List.getElem?_eq_some_iff.1 hi).1
     have hn:ns[i]? =some ns[i]:=List.getElem?_eq_getElem bB
     have h0:i=0:=by omega
     subst h0
     refine⟨_,?_,b6 0 p _ hi hn⟩
     match ns,bB,hns with
     |[n],_,_=>rfl
    have va:QR w ds vals aD:=by
     refine⟨b2,b1,b3,fun p hp hk=>?_,fun i j p q hi hj hp hq=>Sb (by omega) hi hj hp hq⟩
     obtain⟨n,_,cs,hn,e1,e2,e3⟩:=pD p hp hk
     obtain⟨nl,un,_⟩:=b7.box n cs hn
     have ho:=b7.own n (by rw[hn];simp) nl
     rw[e1]
     exact⟨un,fun q hq pc bc hb=>ho.1 (b4 q hq pc bc _ hb)⟩
    unfold Oper.wp
    rw[bH]
    refine(hT f M hM ds rs out lr w vals aD va).mono fun e w' ⟨aT,qs,p1,p2,p3,p4⟩=>?_
    subst p2
    have Ux:∀b,IB w aD b->Im' b\/w.heap.size<=b:=fun b hb=>by
     rcases hb with hb|⟨q,hq,pc,bc,hb⟩
     ·exact .inr hb
     ·exact .inl (b4 q hq pc bc b hb)
    let S:Nat->Prop:=fun b=>w.heap.size<=b/\((∃p∈aT,∃pc∈p.ps,aM b pc)\/∃pc∈qs,aM b pc)
    have hB:=r.fr.size
    have hS:∀b,S b->w.heap.size<=b/\b<w'.heap.size/\B<=b:=fun b ⟨h1,h2⟩=>by
     refine⟨h1,?_,Nat.le_trans hB h1⟩
     rcases h2 with⟨p,hp,pc,bc,hb⟩|⟨pc,bc,hb⟩
     ·exact(p4.dA p hp pc bc).1.lt hb
     ·exact(p4.out pc bc).1.lt hb
    have TE:∀p∈aT,∀pc∈p.ps,Good w' pc/\∀b,aM b pc->Im' b\/S b:=fun p hp pc bc=>by
     obtain⟨g1,g2⟩:=p4.dA p hp pc bc
     exact⟨g1,fun b hb=>(Ux b (g2 b hb)).imp id fun h1=>⟨h1,.inl ⟨p,hp,pc,bc,hb⟩⟩⟩
    have acK:∀pc∈qs,Good w' pc/\∀b,aM b pc->Im' b\/S b:=fun pc bc=>by
     obtain⟨g1,g2⟩:=p4.out pc bc
     exact⟨g1,fun b hb=>(Ux b (g2 b hb)).imp id fun h1=>⟨h1,.inr ⟨pc,bc,hb⟩⟩⟩
    have akS:HR B E w' ⟨fun b=>Im' b\/S b,G.g⟩ k9.h k9.used []/\aQ w ⟨Im',G.g⟩ mN.h (fun n=>mN.used n=true) w' ⟨fun b=>Im' b\/S b,G.g⟩ k9.h/\k9.env=mN.env/\k9.used=mN.used/\Fr B E w0 w':=by
     rcases NI kM with⟨h1,h2,h3⟩|⟨n,cs,h1,h2,h3,h4⟩
     ·subst h3
      have cq:∀p∈aD,p.k≠ .ptr:=fun p hp hk=>by
       obtain⟨n,e,_⟩:=pD p hp hk
       rw[h1] at e;cases e
      have gh:∀b,b<w.heap.size->w'.heap[b]? =w.heap[b]? :=fun b hb=>p4.fr.block b hb (fun⟨p,hp,hk,_⟩=>cq p hp hk)
      have Hg:=b7.grow gh p4.fr.size
      refine⟨Hg.ot S (fun b hb=>(hS b hb).2.1) (fun b hb q hq hl he=>by have:=(hS b hb).1;have:=(b7.own q hq hl).2.2;omega)
       (fun b hb q gr sz xs hq hF=>by have:=(hS b hb).1;have:=b7.oK hq hF;omega) (fun b hb=>.inl (hS b hb).2.2),
       aQ.trans (fun _ h=>h) (aQ.world (fun b hb=>gh b (b7.fv b hb)) _) (aQ.ot S _),rfl,rfl,r.fr.grow gh p4.fr.size p4.fr.os p4.fr.tape p4.fr.output⟩
     ·subst h4
      obtain⟨p,hp,hk⟩:∃p∈aD,p.k=.ptr:=by
       have hlen:(jV aD).length=1:=by rw[b5,h1];rfl
       match hc:jV aD,hlen with
       |[p],_=>
        have hm:p∈jV aD:=by rw[hc];simp
        have:=List.mem_filter.1 hm
        exact⟨p,this.1,by simpa using this.2⟩
      obtain⟨n',e0,cs',bC,e1,e2,e3⟩:=pD p hp hk
      rw[h1] at e0
      injection e0 with e0
      subst e0
      have adv:∀q∈aD,q.k=.ptr->q=p:=fun q hq KP=>by
       obtain⟨i,hi⟩:=List.getElem?_of_mem hq
       obtain⟨j,hj⟩:=List.getElem?_of_mem hp
       have:=va.one i j q p hi hj KP hk
       subst this
       rw[hi] at hj
       injection hj
      have ho:=b7.own n (by rw[h2];simp) (b7.box n cs h2).1
      have gh:∀b,b<w.heap.size->b≠(G.g n).b->w'.heap[b]? =w.heap[b]? :=fun b hb av=>p4.fr.block b hb (fun⟨q,hq,KP,TR⟩=>by
       rw[adv q hq KP,e1] at TR
       exact av TR)
      have jY:∀b,b<w.heap.size->Cz w w' b:=fun b hb=>p4.fr.iU b hb
      obtain⟨Hb,Kb⟩:=b7.Rs (cs':=out.map .c) h2 p4.fr.size gh jY hS (ps:=qs) (by rw[<-p3,List.map_map];rfl) (fun j c hj=>by
       have:=p4.at_ p hp hk j c hj
       rw[e1,e2] at this
       exact this) acK
      exact⟨Hb,Kb,rfl,rfl,r.fr.one ho.2.1 gh p4.fr.size (jY _ ho.2.2) p4.fr.os p4.fr.tape p4.fr.output⟩
    obtain⟨H2,K2,v1,v2,yM⟩:=akS
    have K0:aQ w G σ.h (fun n=>σ.used n=true) w' ⟨fun b=>Im' b\/S b,G.g⟩ k9.h:=aQ.trans (fun n hn=>by rw[mV];exact hn) b8 K2
    have r2:R B E w0 N k9 a w' ⟨fun b=>Im' b\/S b,G.g⟩:=r.step (v1.trans b9) (fun m hm=>by rw[v2,mV];exact hm) K0 H2 yM
    have dat:∀{ls:List (Bool×List ae)},fO rs=some ls->σ1=k9.put o.dst (iR ls)->(match(Ending.returned (GI aT)) with|.returned v=>Nx B E w0 N σ1 (a.put o.dst v) w'|_=>True):=by
     intro ls yP hs
     subst hs
     rw[<-p1] at yP
     obtain⟨rfl,hnp⟩:=Jh yP
     refine⟨_,r2.put (ajt (by simp) (fun j x p hj hp=>?_)) (fun q hq=>?_) hN⟩
     ·rw[List.getElem?_map,hp] at hj
      simp at hj
      subst hj
      have hm:=List.mem_of_getElem? hp
      have bq:cL w' ⟨fun b=>Im' b\/S b,G.g⟩ k9.h (p.ps.map fun pc=>ae.c pc.er) (p.ps.map PC.val):=by
       refine⟨by simp,fun j c u hj hu=>?_⟩
       rw[List.getElem?_map] at hj hu
       cases pK:p.ps[j]? with
       |none=>rw[pK] at hj;cases hj
       |some pc=>
        rw[pK] at hj hu
        simp at hj hu
        subst hj hu
        obtain⟨g1,g2⟩:=TE p hm pc (List.mem_of_getElem? pK)
        exact⟨PC.jN pc,pc,rfl,rfl,g1,g2⟩
      have KO:=p4.one p hm
      have hk2:=hnp p hm
      obtain⟨k,ps,b,o'⟩:=p
      cases k with
      |ptr=>exact absurd rfl hk2
      |agg=>exact⟨ps.map PC.val,rfl,bq⟩
      |one=>
       have h2:=KO rfl
       match ps,h2 with
       |[p],_=>exact bq
     ·exfalso
      refine XX (fun x hx c hc hq=>?_) hq
      obtain⟨p,_,rfl⟩:=List.mem_map.1 hx
      obtain⟨pc,_,rfl⟩:=List.mem_map.1 hc
      exact hq
    unfold nN at hx
    split at hx
    ·rename_i cs
     split at hx
     ·rename_i q hq
      split at hx
      ·rename_i τ3 ac1
       injection hx with hx
       subst hx
       obtain⟨u1,rfl⟩:=j8 ac1
       obtain⟨p,rfl⟩:∃p,aT=[p]:=by
        have h1:aT.length=1:=by have:=congrArg List.length p1;simpa using this
        exact List.length_eq_one_iff.1 h1
       simp at p1
       obtain⟨hk,eF⟩:=p1
       obtain⟨_,q1,q2,q3,q4,q5⟩:=p4.ptr p (by simp) hk
       subst eF
       have Uc:mP ⟨fun b=>Im' b\/S b,G.g⟩ k9.h p.b:=by
        refine⟨fun hi=>?_,fun m hm hl he=>?_,fun m gr mo sz xs hm hF=>?_⟩
        ·rcases hi with hi|⟨_,hi⟩
         ·have:=b7.fv _ hi;omega
         ·rcases hi with⟨p',aX,pc,bc,hb⟩|⟨pc,bc,hb⟩
          ·simp at aX;subst aX;exact q4 pc bc hb
          ·exact q5 pc bc hb
        ·have hd:=H2.gN m hm
         obtain⟨k0,k1,k2,_⟩:=K2.name m (by rw[<-v2];exact hd) hm
         have cT:(G.g m).nl=false:=hl
         have:=(b7.own m k0 cT).2.2
         have Fj:(G.g m).b=p.b:=he
         have h7:(⟨Im',G.g⟩:Gh).g m=G.g m:=rfl
         rw[h7] at this
         omega
        ·have hd:=H2.gN m (by rw[hm];simp)
         have d9:∃aU kR aC ao,mN.h m=some (.row aU kR aC ao):=by
          rcases NI kM with⟨h1,h2,h3⟩|⟨n,cs,h1,h2,h3,h4⟩
          ·subst h3;exact⟨_,_,_,_,hm⟩
          ·subst h4
           by_cases br:m=n
           ·subst br;have:aq mN.h m (some (ak.box (out.map ae.c))) m=_:=hm;rw[bu] at this;cases this
           ·have:aq mN.h n (some (ak.box (out.map ae.c))) m=_:=hm
            rw[cd _ _ _ _ br] at this
            exact⟨_,_,_,_,this⟩
         obtain⟨aU,kR,aC,ao,bx⟩:=d9
         have hF':aN p.b (G.g m).px:=hF
         have:=b7.oK bx hF'
         omega
       have Hn:HR B E w' ⟨fun b=>Im' b\/S b,aq G.g q ⟨false,p.b,p.o,0,[],none⟩⟩ (aq k9.h q (some (.box ((p.ps.map PC.er).map .c)))) (aq k9.used q true) []:=by
        refine H2.insert (w':=w') u1 (fun _ _=>rfl) (Nat.le_refl _) (fun _=>⟨Uc,.inl (Nat.le_trans hB q1),q2.lt⟩) (fun cs' c m hb cN hm=>?_) ⟨rfl,q2,fun j c hj=>?_⟩ (fun gr m sz xs hb=>by cases hb) (fun gr sz xs hb=>by cases hb) (fun gr m sz xs hb=>by cases hb)
        ·injection hb with hb
         subst hb
         obtain⟨x,_,rfl⟩:=List.mem_map.1 cN
         exact absurd hm id
        ·rw[List.getElem?_map,List.getElem?_map] at hj
         cases hp:p.ps[j]? with
         |none=>rw[hp] at hj;cases hj
         |some pc=>
          rw[hp] at hj
          simp at hj
          subst hj
          obtain⟨g1,g2⟩:=TE p (by simp) pc (List.mem_of_getElem? hp)
          exact⟨pc.val,q3 j pc hp,PC.jN pc,pc,rfl,rfl,g1,g2⟩
       have r3:=r2.step (σ':={k9 with h:=aq k9.h q (some (.box ((p.ps.map PC.er).map .c))),used:=aq k9.used q true}) rfl (fun m hm=>oT q m hm) (aQ.insert H2 u1 (fun _ _=>rfl)) Hn yM
       have hv:GI [p]=.pointer (some (ad p.b p.o)):=by
        obtain⟨k,ps,b,o'⟩:=p
        simp only at hk
        subst hk
        rfl
       rw[hv]
       exact⟨_,r3.put (RA.fi (c:=.ptr q 0 0 0) rfl (show aq k9.h q _ q≠none->(aq G.g q _ q).nl=false/\_=_ from fun _=>by simp[bu])) (fun m hm=>by have bx:m=q:=hm;subst bx;exact bu _ _ _) hN⟩
      ·cases hx
     ·cases hx
    ·split at hx
     ·rename_i ls yP
      injection hx with hx
      exact dat yP hx.symm
     ·cases hx
   ·cases hx
  ·cases hx
 ·cases hx
theorem SI (r:R B E w0 N σ a w G) {T:aA} (hT:xV P T) {f:FuncId} {xs:Array Operand} {ms:List MO} {ts:Array TypeId} {σ1:St} (hN:∀n,o.dst=some n->n<N)
  (ho:o.op=.call {callee:=.value (.func f),args:=xs,argTypes:=ts}) (hf:ca P f=true) (hm:ff xs.toList ms=true)
  (hx:nT T o.dst f (ms.map σ.ev) σ=some σ1):o.wp P a w (Nx B E w0 N σ1) Q:=by
 obtain⟨e1,e2⟩:=r.sb hm
 have K9:∀x∈ms.map σ.ev,∀m,x.ref m->σ.used m=true:=by
  have bU:∀{xs:List Operand} {ms:List MO},ff xs ms=true->∀x∈ms.map σ.ev,∀m,x.ref m->σ.used m=true:=by
   intro xs ms
   induction ms generalizing xs with
   |nil=>intro _ x hx;simp at hx
   |cons m0 ms ih=>
    intro hc x hx m hm
    cases xs with
    |nil=>simp[ff] at hc
    |cons y ys=>
     simp only[ff,Bool.and_eq_true] at hc
     simp only[List.map_cons,List.mem_cons] at hx
     rcases hx with rfl|hx
     ·exact(r.ev hc.1).2 m hm
     ·exact ih hc.2 x hx m hm
  exact bU hm
 refine aby r hT (vals:=xs.toList.map a.eval) hN ?_ (by simpa using e1) e2 K9 hx
 have he:(xs.toList.map a.eval).toArray=xs.map a.eval:=by apply Array.ext';simp
 rw[he]
 simp[execOp,ho,resolve,Deferred.ofValue,invoke,Act.eval,s7 hf]
theorem R.nZ (r:R B E w0 N σ a w G) {p:ae} (hx:σ.nZ p=some σ'):∃G',R B E w0 N σ' a w G'/\σ'.env=σ.env:=by
 unfold St.nZ at hx
 split at hx
 ·rename_i n k sz off
  split at hx
  ·rename_i cs hn
   split at hx
   ·rename_i xs ow σ1 ht
    injection hx with hx
    subst hx
    obtain⟨vs,v1,v2⟩:=r.hr.Rt hn
    obtain⟨vq,bk,a1,a2,a3,a5,a6,a7,a8,a9⟩:=r.hr.eS ht v1 (fun c hc m hm=>r.hr.fW n cs c m hn hc hm)
    have tz:HR B E w ⟨vq,G.g⟩ σ1.h σ.used []:=by
     cases ow with
     |true=>exact HR.vg (tk:=[]) (l:=bk) (by simpa using a5)
     |false=>simpa using a5
    have lB:=Ql ht hn
    obtain⟨b1,b2⟩:=tz.Rs (w':=w) (cs':=xs.map .c) lB (Nat.le_refl _) (fun _ _ _=>rfl) (fun b _=>Cz.refl w b) (S:=fun _=>False) (fun b hb=>hb.elim) (ps:=bk)
     (by rw[<-a1,List.map_map];rfl) (fun j c hj=>by
      have:=v2 j c.val (by rw[<-a2,List.getElem?_map,hj];rfl)
      exact this) (fun pc bc=>⟨(a3 pc bc).1,fun b hb=>.inl ((a3 pc bc).2 b hb)⟩)
    have hk:=aQ.trans (fun _ h=>h) a6 b2
    refine⟨_,r.step a7 (fun q hq=>by rw[show(σ1.df n (.box (xs.map .c))).used=σ1.used from rfl,a8];exact hq) hk ?_ r.fr,a7⟩
    show HR B E w _ _ σ1.used []
    rw[a8]
    exact b1
   ·cases hx
  ·cases hx
 ·cases hx
theorem abH (r:R B E w0 N σ a w G) {t:TypeId} {x:Operand} {m:MO} {ag:Bool} {sz:Nat} {p:ae} {cs:List ae} (ho:o.op=.load t x) (hN:∀n,o.dst=some n->n<N)
  (hm:bi x m=true) (dh:nP P t ag sz=true) (hp:σ.ev m=.one p) (hf:σ.nZ p=some σ') (hx:Am.loadAt σ'.h p sz=some cs):
  o.wp P a w (Nx B E w0 N (σ'.put o.dst (jL ag cs))) Q:=by
 obtain⟨G',r',e⟩:=r.nZ hf
 refine SM r' ho hN hm dh (p:=p) ?_ hx
 cases m with
 |t n=>simp only[St.ev] at hp⊢;rw[e];exact hp
 |k v=>exact hp
end
end Go.Am
