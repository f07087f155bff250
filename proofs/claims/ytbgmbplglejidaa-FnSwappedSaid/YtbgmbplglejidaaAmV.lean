/- AmV: functions whose results may share, and that may change the cells of one pointer: what is said of them, and the caller's side of a call. No condition. -/
import Derived.Test.YtbgmbplglejidaaAmU
set_option linter.unusedVariables false
namespace Go.Am
structure M5 (w:World) (ds:List Dv) (vals:List Value) (pas:List PA):Prop where
 l1:vals.length=ds.length
 l2:pas.length=ds.length
 at_:∀(i:Nat) (d:Dv) (v:Value) (p:PA),ds[i]? =some d->vals[i]? =some v->pas[i]? =some p->AL w d v p
 jq:∀p∈pas,p.k=.ptr->dK w p.b/\∀q∈pas,∀pc∈q.ps,¬aX p.b pc
 one:∀(i j:Nat) (p q:PA),pas[i]? =some p->pas[j]? =some q->p.k=.ptr->q.k=.ptr->i=j
def Bp (w:World) (pas:List PA) (b:Nat):Prop:=w.heap.size<=b\/∃q∈pas,∃pc∈q.ps,aX b pc
def Zo (pas:List PA):Ex:=⟨fun b=>∃p∈pas,p.k=.ptr/\b=p.b,fun _=>none,fun _ _ h=>(by cases h),fun _=>True⟩
def Aj (p:PA):Value:=
 match p.k with
 |.one=>match p.ps with
  |[pc]=>pc.val
  |_=>.agg (p.ps.map PC.val).toArray
 |.agg=>.agg (p.ps.map PC.val).toArray
 |.ptr=>.pointer (some (ad p.b p.o))
def Ak:List PA->Value
 |[p]=>Aj p
 |l=>.tuple (l.map Aj).toArray
def HA (w:World) (b o:Nat) (ps:List PC):Prop:=∀(j:Nat) (c:PC),ps[j]? =some c->w.cell? (ad b (o+j))=some c.val
structure M4 (w w':World) (pas aY:List PA) (qs:List PC):Prop where
 one:∀p∈aY,p.k=.one->p.ps.length=1
 ptr:∀p∈aY,p.k=.ptr->aY.length=1/\w.heap.size<=p.b/\dK w' p.b/\HA w' p.b p.o p.ps/\(∀pc∈p.ps,¬aX p.b pc)/\∀pc∈qs,¬aX p.b pc
 eD:∀p∈aY,∀pc∈p.ps,Good w' pc/\∀b,aX b pc->Bp w pas b
 fr:Fr w.heap.size (Zo pas) w w'
 out:∀pc∈qs,Good w' pc/\∀b,aX b pc->Bp w pas b
 at_:∀p∈pas,p.k=.ptr->HA w' p.b p.o qs
def lD (P:Program) (f:FuncId) (M:List Dv->Option (List Dv×List C)):Prop:=
 ∀ds rs out,M ds=some (rs,out)->∀(w:World) (vals:List Value) (pas:List PA),M5 w ds vals pas->Calls P f vals.toArray w fun e w'=>
  ∃(aY:List PA) (qs:List PC),aY.map (fun p=>(p.k,p.ps.map PC.er))=rs/\e=.returned (Ak aY)/\qs.map PC.er=out/\M4 w w' pas aY qs
def Bo (P:Program) (T:aT):Prop:=∀f M,aT.kQ T.vs f=some M->lD P f M
section
variable {B:Nat} {E:Ex} {w0 w w':World} {G G':Gh} {N:Nat} {h h':Nat->Option ar} {used used':Nat->Bool} {tk:List PC}
variable {P:Program} {o:Oper} {a:Act} {σ σ':St} {Q:Exit->Act->World->Prop}
theorem HR.oU {c:aj} {x:C} {v:Value} (hx:Am.oU c=some x) (hc:RC w G h c v):∃pc:PC,pc.er=x/\pc.val=v/\Good w pc/\∀b,aX b pc->G.Im b:=by
 cases c with
 |c y=>
  simp only[Am.oU] at hx
  injection hx with hx
  subst hx
  exact hc
 |nil sz=>
  simp only[Am.oU] at hx
  split at hx
  ·rename_i dU
   injection hx with hx
   subst hx
   have cA:v=.slice none 0 0:=hc
   subst cA
   refine⟨.list sz none 0 [],by simp[PC.dR],rfl,.nil _ _ _ dU,fun b hb=>?_⟩
   rw[aX.lm] at hb
   rcases hb with⟨hb,_⟩|⟨k,j,c,⟨e,he,_⟩,_⟩
   ·exact absurd rfl hb
   ·simp at he
  ·cases hx
 |_=>simp[Am.oU] at hx
theorem HR.jW:∀{cs:List aj} {xs:List C} {vs:List Value},Am.jW cs=some xs->cZ w G h cs vs->∃ps:List PC,ps.map PC.er=xs/\ps.map PC.val=vs/\∀pc∈ps,Good w pc/\∀b,aX b pc->G.Im b
 |[],xs,vs,hx,hc=>by
  simp only[Am.jW] at hx
  injection hx with hx
  subst hx
  have:vs=[]:=List.eq_nil_of_length_eq_zero (by simpa using hc.1)
  subst this
  exact⟨[],rfl,rfl,by simp⟩
 |c::cs,xs,vs,hx,hc=>by
  simp only[Am.jW] at hx
  split at hx
  ·rename_i x au e1 e2
   injection hx with hx
   subst hx
   match vs,hc.1 with
   |v::vs,hl=>
    obtain⟨pc,a1,a2,a3,a4⟩:=HR.oU e1 (hc.2 0 c v rfl rfl).2
    obtain⟨ps,b1,b2,b3⟩:=HR.jW (vs:=vs) e2 ⟨by simpa using hl,fun j c u h1 h2=>hc.2 (j+1) c u h1 h2⟩
    refine⟨pc::ps,by simp[a1,b1],by simp[a2,b2],fun q hq=>?_⟩
    cases hq with
    |head=>exact⟨a3,a4⟩
    |tail _ hq=>exact b3 q hq
  ·cases hx
theorem HR.I4 (H:HR B E w G h used tk) {n:Nat} {cs:List aj} (hn:h n=some (.box cs)):∃vs:List Value,cZ w G h cs vs/\∀(j:Nat) (v:Value),vs[j]? =some v->w.cell? (ad (G.g n).b ((G.g n).o+j))=some v:=by
 obtain⟨_,_,a3⟩:=H.box n cs hn
 have hj:∀j:Fin cs.length,∃v,w.cell? (ad (G.g n).b ((G.g n).o+j.1))=some v/\v.oneCell'=true/\RC w G h cs[j.1] v:=fun j=>a3 j.1 _ (List.getElem?_eq_getElem j.2)
 refine⟨List.ofFn fun j=>Classical.choose (hj j),⟨by simp,fun j c u hc hu=>?_⟩,fun j v hv=>?_⟩
 ·obtain⟨hl,e⟩:=List.getElem?_eq_some_iff.1 hc
  rw[List.getElem?_ofFn,dif_pos hl] at hu
  injection hu with hu
  subst hu e
  exact(Classical.choose_spec (hj ⟨j,hl⟩)).2
 ·by_cases hl:j<cs.length
  ·rw[List.getElem?_ofFn,dif_pos hl] at hv
   injection hv with hv
   subst hv
   exact(Classical.choose_spec (hj ⟨j,hl⟩)).1
  ·rw[List.getElem?_eq_none (by simp;omega)] at hv;cases hv
theorem asM {σ1:St} {c:aj} {x:C} {o:Bool} (hx:σ.gb c=some (x,o,σ1)) {n:Nat} {cs:List aj} (hn:σ.h n=some (.box cs)):σ1.h n=some (.box cs):=by
 cases c with
 |c y=>simp only[St.gb] at hx;injection hx with hx;injection hx with _ hx;injection hx with _ hx;subst hx;exact hn
 |nil sz=>
  simp only[St.gb] at hx
  split at hx
  ·injection hx with hx;injection hx with _ hx;injection hx with _ hx;subst hx;exact hn
  ·cases hx
 |sl q sz lo len=>
  simp only[St.gb] at hx
  split at hx
  ·rename_i gr m rs xs hq
   split at hx
   ·injection hx with hx;injection hx with _ hx;injection hx with _ hx;subst hx
    have aD:n≠q:=by rintro rfl;rw[hq] at hn;cases hn
    show aA σ.h q none n=_
    rw[cE _ _ _ _ aD];exact hn
   ·cases hx
  ·cases hx
 |_=>simp[St.gb] at hx
theorem W4:∀{l:List aj} {σ σ1:St} {xs:List C} {o:Bool},σ.fD l=some (xs,o,σ1)->∀{n:Nat} {cs:List aj},σ.h n=some (.box cs)->σ1.h n=some (.box cs)
 |[],σ,σ1,xs,o,hx,n,cs,hn=>by simp only[St.fD] at hx;injection hx with hx;injection hx with _ hx;injection hx with _ hx;subst hx;exact hn
 |c::l,σ,σ2,xs,o,hx,n,cs,hn=>by
  simp only[St.fD] at hx
  split at hx
  ·rename_i x o1 σ1 e1
   split at hx
   ·rename_i au o2 Xp e2
    injection hx with hx;injection hx with _ hx;injection hx with _ hx;subst hx
    exact W4 e2 (asM e1 hn)
   ·cases hx
  ·cases hx
theorem Nf:∀{as:List ak} {σ σ1:St} {ds:List Dv} {ns:List Nat},σ.ia as=some (ds,ns,σ1)->∀{n:Nat} {cs:List aj},σ.h n=some (.box cs)->σ1.h n=some (.box cs)
 |[],σ,σ1,ds,ns,hx,n,cs,hn=>by simp only[St.ia] at hx;injection hx with hx;injection hx with _ hx;injection hx with _ hx;subst hx;exact hn
 |v::as,σ,σ2,ds,ns,hx,n,cs,hn=>by
  simp only[St.ia] at hx
  split at hx
  ·split at hx
   ·rename_i e
    injection hx with hx;injection hx with _ hx;injection hx with _ hx;subst hx
    exact Nf e hn
   ·cases hx
  ·split at hx
   ·split at hx
    ·rename_i e1
     split at hx
     ·rename_i e2
      injection hx with hx;injection hx with _ hx;injection hx with _ hx;subst hx
      exact Nf e2 (W4 e1 hn)
     ·cases hx
    ·cases hx
   ·cases hx
def mB (pas:List PA):List PA:=pas.filter fun p=>decide (p.k=.ptr)
def Xr (G:Gh) (h:Nat->Option ar) (p:PA) (n:Nat):Prop:=∃cs,h n=some (.box cs)/\p.b=(G.g n).b/\p.o=(G.g n).o/\p.ps.length=cs.length
theorem Ni {v:ak} {n:Nat} {xs:List C} (hx:mw h v=some (n,xs)):∃sz cs,v=.one (.ptr n 0 sz 0)/\h n=some (.box cs)/\jW cs=some xs:=by
 unfold mw at hx
 split at hx
 ·rename_i q k sz off
  split at hx
  ·rename_i hc
   obtain⟨rfl,rfl⟩:=hc
   split at hx
   ·rename_i cs hq
    split at hx
    ·rename_i ys e
     injection hx with hx
     injection hx with h1 h2
     subst h1 h2
     exact⟨sz,cs,rfl,hq,e⟩
    ·cases hx
   ·cases hx
  ·cases hx
 ·cases hx
theorem HR.ia:∀{as:List ak} {vals:List Value} {σ σ1:St} {G:Gh} {ds:List Dv} {ns:List Nat},HR B E w G σ.h σ.used []->σ.ia as=some (ds,ns,σ1)->vals.length=as.length->
  (∀(j:Nat) (x:ak) (v:Value),as[j]? =some x->vals[j]? =some v->RA w G σ.h x v)->(∀x∈as,∀m,x.ref m->σ.used m=true)->
  ∃(Im':Nat->Prop) (pas:List PA),pas.length=ds.length/\vals.length=ds.length/\(∀(i:Nat) (d:Dv) (v:Value) (p:PA),ds[i]? =some d->vals[i]? =some v->pas[i]? =some p->AL w d v p)/\
   (∀p∈pas,∀pc∈p.ps,∀b,aX b pc->Im' b)/\(mB pas).length=ns.length/\(∀(i:Nat) (p:PA) (n:Nat),(mB pas)[i]? =some p->ns[i]? =some n->Xr G σ1.h p n)/\
   HR B E w ⟨Im',G.g⟩ σ1.h σ1.used []/\bf w G σ.h (fun n=>σ.used n=true) w ⟨Im',G.g⟩ σ1.h/\σ1.env=σ.env/\σ1.used=σ.used
 |[],vals,σ,σ1,G,ds,ns,H,hx,hl,hc,hr=>by
  simp only[St.ia] at hx
  injection hx with hx
  injection hx with h1 h2
  injection h2 with h2 h3
  subst h1 h2 h3
  exact⟨G.Im,[],rfl,by simpa using hl,by simp,by simp,rfl,by simp[mB],H,bf.refl _ _ _ _,rfl,rfl⟩
 |x::as,vals,σ,σ2,G,ds,ns,H,hx,hl,hc,hr=>by
  match vals,hl with
  |v::vals,hl=>
   simp only[St.ia] at hx
   split at hx
   ·rename_i n xs hp
    split at hx
    ·rename_i uH kH σ1 e
     injection hx with hx
     injection hx with h1 h2
     injection h2 with h2 h3
     subst h1 h2 h3
     obtain⟨sz,cs,rfl,hn,qU⟩:=Ni hp
     obtain⟨nl,un,_⟩:=H.box n cs hn
     obtain⟨vs,v1,v2⟩:=H.I4 hn
     obtain⟨ps,p1,p2,p3⟩:=HR.jW qU v1
     have hv:v=.pointer (some (ad (G.g n).b (G.g n).o)):=by
      have h0:=hc 0 _ v rfl rfl
      rcases h0 with h0|h0
      ·cases h0
      ·have h1:RC w G σ.h (.ptr n 0 sz 0) v:=(h0.2 0 _ v rfl rfl).2
       simpa using(h1 (by rw[hn];simp)).2
     obtain⟨Im',pas,b1,b2,b3,b4,b5,b6,b7,b8,b9,qC⟩:=HR.ia (as:=as) (vals:=vals) H e (by simpa using hl) (fun j x v h1 h2=>hc (j+1) x v h1 h2) (fun x hx=>hr x (by simp[hx]))
     have hk:(Am.K.ptr=Am.K.ptr)=True:=by simp
     refine⟨Im',⟨.ptr,ps,(G.g n).b,(G.g n).o⟩::pas,by simp[b1],by simp[b2],fun i d u p hd hu fm=>?_,fun p fm pc bc b hb=>?_,by simp[mB];exact b5,fun i p m hi hm=>?_,b7,b8,b9,qC⟩
     ·cases i with
      |zero=>
       simp at hd hu fm
       subst hd hu fm
       refine⟨by rw[p1],fun pc bc=>(p3 pc bc).1,hv,un.lt,fun j c hj=>v2 j _ ?_⟩
       rw[<-p2,List.getElem?_map,hj];rfl
      |succ i=>exact b3 i d u p (by simpa using hd) (by simpa using hu) (by simpa using fm)
     ·cases fm with
      |head=>exact b8.im b ((p3 pc bc).2 b hb)
      |tail _ fm=>exact b4 p fm pc bc b hb
     ·cases i with
      |zero=>
       simp[mB] at hi hm
       subst hi hm
       refine⟨cs,Nf e hn,rfl,rfl,?_⟩
       have h1:ps.length=vs.length:=by rw[<-p2];simp
       exact h1.trans v1.1
      |succ i=>exact b6 i p m (by simpa[mB] using hi) (by simpa using hm)
    ·cases hx
   ·split at hx
    ·rename_i ag cs eE
     split at hx
     ·rename_i xs o σ1 e1
      split at hx
      ·rename_i uH kH Xp e2
       injection hx with hx
       injection hx with h1 h2
       injection h2 with h2 h3
       subst h1 h2 h3
       have h0:=hc 0 x v rfl rfl
       have dV:∃vs:List Value,(if ag=true then v=.agg vs.toArray else vs=[v])/\cZ w G σ.h cs vs:=by
        cases x with
        |one c=>
         have J1:ag=false/\cs=[c]:=by cases c<;>simp[ak.cells?] at eE<;>exact⟨eE.1,eE.2.symm⟩
         obtain⟨rfl,rfl⟩:=J1
         rcases h0 with h0|h0
         ·subst h0;simp[ak.cells?] at eE
         ·exact⟨[v],rfl,h0⟩
        |agg cs'=>
         simp[ak.cells?] at eE
         obtain⟨rfl,rfl⟩:=eE
         obtain⟨vs,e,h1⟩:∃vs:List Value,v=.agg vs.toArray/\cZ w G σ.h cs' vs:=h0
         exact⟨vs,e,h1⟩
        |br xs=>simp[ak.cells?] at eE
       obtain⟨vs,jg,bT⟩:=dV
       obtain⟨yk,bx,a1,a2,a3,a5,a6,a7,a8,a9⟩:=H.fD e1 bT (fun c' cA m hm=>hr x (by simp) m (ak.yy eE cA hm))
       have wj:HR B E w ⟨yk,G.g⟩ σ1.h σ.used []:=by
        cases o with
        |true=>exact HR.xZ (tk:=[]) (l:=bx) (by simpa using a5)
        |false=>simpa using a5
       rw[<-a8] at wj
       obtain⟨D3,pas,b1,b2,b3,b4,b5,b6,b7,b8,b9,qC⟩:=HR.ia (as:=as) (vals:=vals) (G:=⟨yk,G.g⟩) wj e2 (by simpa using hl)
        (fun j x v h1 h2=>(hc (j+1) x v h1 h2).ft a6 (fun m hm=>hr x (by simp[List.mem_of_getElem? h1]) m hm)) (fun x' f7 m hm=>by rw[a8];exact hr x' (by simp[f7]) m hm)
       refine⟨D3,⟨if ag=true then .agg else .one,bx,0,0⟩::pas,by simp[b1],by simp[b2],fun i d u p hd hu fm=>?_,fun p fm pc bc b hb=>?_,?_,fun i p m hi hm=>?_,b7,
        bf.trans (fun n hn=>by rw[a8];exact hn) a6 b8,b9.trans a7,qC.trans a8⟩
       ·cases i with
        |zero=>
         simp at hd hu fm
         subst hd hu fm
         cases ag with
         |true=>exact⟨by simp[a1],fun pc bc=>(a3 pc bc).1,by simp only[if_true] at jg⊢;rw[a2];exact jg⟩
         |false=>exact⟨by simp[a1],fun pc bc=>(a3 pc bc).1,by simp only[Bool.false_eq_true,if_false] at jg⊢;rw[a2];exact jg⟩
        |succ i=>exact b3 i d u p (by simpa using hd) (by simpa using hu) (by simpa using fm)
       ·cases fm with
        |head=>exact b8.im b ((a3 pc bc).2 b hb)
        |tail _ fm=>exact b4 p fm pc bc b hb
       ·cases ag<;>simp[mB]<;>exact b5
       ·refine b6 i p m ?_ hm
        cases ag<;>simpa[mB] using hi
      ·cases hx
     ·cases hx
    ·cases hx
theorem HR.Yj (H:HR B E w G h used []) {n:Nat} {cs cs':List aj} (hn:h n=some (.box cs)) (bP:w.heap.size<=w'.heap.size) (hw:∀b,b<w.heap.size->b≠(G.g n).b->w'.heap[b]? =w.heap[b]?)
  (mH:∀b,b<w.heap.size->Cz w w' b) {S:Nat->Prop} (hS:∀b,S b->w.heap.size<=b/\b<w'.heap.size/\B<=b) {ps:List PC} (gh:cs'=ps.map fun pc=>aj.c pc.er)
  (bU:∀(j:Nat) (c:PC),ps[j]? =some c->w'.cell? (ad (G.g n).b ((G.g n).o+j))=some c.val) (ie:∀pc∈ps,Good w' pc/\∀b,aX b pc->G.Im b\/S b):
  HR B E w' ⟨fun b=>G.Im b\/S b,G.g⟩ (aA h n (some (.box cs'))) used []/\bf w G h (fun n=>used n=true) w' ⟨fun b=>G.Im b\/S b,G.g⟩ (aA h n (some (.box cs'))):=by
 subst gh
 have bS:h n≠none:=by rw[hn];simp
 obtain⟨aN,tB,iw⟩:=H.box n cs hn
 obtain⟨se,qV,sf⟩:=H.own n bS aN
 have w7:=H.jc n bS
 have kp:∀Jo:List aj,bf w G h (fun n=>used n=true) w' G (aA h n (some (.box Jo))):=by
  intro Jo
  refine⟨fun _ h=>h,fun b hb x=>ja (hw b (H.gi b hb) (fun he=>se (he▸hb))) x,fun m hm h0=>?_,fun m gr sz xs hm h0=>?_⟩
  ·by_cases bL:m=n
   ·subst bL;exact⟨bS,rfl,rfl,rfl,rfl,rfl⟩
   ·rw[cE _ _ _ _ bL] at h0;exact⟨h0,rfl,rfl,rfl,rfl,rfl⟩
  ·by_cases bL:m=n
   ·subst bL;rw[bN] at h0;cases h0
   ·rw[cE _ _ _ _ bL] at h0;exact⟨⟨gr,xs,h0⟩,fun k j pc h1 h2=>⟨pc,h1,rfl,h2⟩⟩
 have hG:(⟨G.Im,aA G.g n (G.g n)⟩:Gh)=G:=by rw[GR]
 have H1:HR B E w' ⟨G.Im,aA G.g n (G.g n)⟩ (aA h n (some (.box []))) used []:=by
  refine H.put (fun b hb aD=>hw b hb (aD aN)) bP (fun b hb hU=>(mH b hb).jq hU) (fun _ h=>h) w7 (fun _=>⟨se,qV,Nat.lt_of_lt_of_le sf bP⟩)
   (fun _ m hm h0 lK=>(H.inj m n h0 bS hm lK aN)) (fun _ m gr sz xs hm h0 b hb=>H.live m gr sz xs h0 b hb n bS aN) ?_ (by rw[hG];exact kp []) ?_
   (fun gr m sz xs hb=>by cases hb) (fun gr sz xs hb=>by cases hb) (fun gr m sz xs hb=>by cases hb) ?_
  ·intro Jo c m hb hc hm
   injection hb with hb
   subst hb
   cases hc
  ·exact⟨aN,(mH _ sf).jq tB,fun j c hj=>by simp at hj⟩
  ·intro _ _ b hb
   obtain⟨m,gr,mo,sz,xs,hm,h0,cR⟩:=hb
   exact H.tm bS aN h0 cR
 rw[hG] at H1
 have P8:∀m,aA h n (some (ar.box [])) m≠none->h m≠none:=fun m hm=>by
  by_cases bL:m=n
  ·subst bL;exact bS
  ·rwa[cE _ _ _ _ bL] at hm
 have H2:HR B E w' ⟨fun b=>G.Im b\/S b,G.g⟩ (aA h n (some (.box []))) used []:=H1.ra S (fun b hb=>(hS b hb).2.1) (fun b hb q hq hl he=>by have:=(hS b hb).1;have:=(H.own q (P8 q hq) hl).2.2;omega)
  (fun b hb q gr sz xs hq hF=>by
   by_cases fO:q=n
   ·subst fO;rw[bN] at hq;cases hq
   ·rw[cE _ _ _ _ fO] at hq
    have:=(hS b hb).1;have:=H.rz hq hF;omega) (fun b hb=>.inl (hS b hb).2.2)
 have hn2:aA h n (some (ar.box [])) n=some (.box []):=bN _ _ _
 have Fi:aA h n (some (ar.box [])) n≠none:=by rw[hn2];simp
 have huu:aA (aA h n (some (ar.box []))) n (some (.box (ps.map fun pc=>aj.c pc.er)))=aA h n (some (.box (ps.map fun pc=>aj.c pc.er))):=by
  funext m;simp only[jr];split<;>rfl
 have hG2:(⟨fun b=>G.Im b\/S b,aA G.g n (G.g n)⟩:Gh)=⟨fun b=>G.Im b\/S b,G.g⟩:=by rw[GR]
 have K2:bf w' ⟨fun b=>G.Im b\/S b,G.g⟩ (aA h n (some (ar.box []))) (fun n=>used n=true) w' ⟨fun b=>G.Im b\/S b,G.g⟩ (aA h n (some (.box (ps.map fun pc=>aj.c pc.er)))):=by
  refine⟨fun _ h=>h,fun _ _ _=>rfl,fun m hm h0=>?_,fun m gr sz xs hm h0=>?_⟩
  ·refine⟨?_,rfl,rfl,rfl,rfl,rfl⟩
   by_cases bL:m=n
   ·subst bL;exact Fi
   ·rw[cE _ _ _ _ bL] at h0⊢;exact h0
  ·by_cases bL:m=n
   ·subst bL;rw[bN] at h0;cases h0
   ·rw[cE _ _ _ _ bL] at h0;exact⟨⟨gr,xs,by rw[cE _ _ _ _ bL];exact h0⟩,fun k j pc h1 h2=>⟨pc,h1,rfl,h2⟩⟩
 have H3:HR B E w' ⟨fun b=>G.Im b\/S b,aA G.g n (G.g n)⟩ (aA (aA h n (some (ar.box []))) n (some (.box (ps.map fun pc=>aj.c pc.er)))) used []:=by
  refine H2.put (w':=w') (fun _ _ _=>rfl) (Nat.le_refl _) (fun _ _ hU=>hU) (fun _ h=>h) w7 (fun _=>⟨fun hi=>(H2.own n Fi aN).1 hi,qV,Nat.lt_of_lt_of_le sf bP⟩)
   (fun _ m hm h0 lK=>H2.inj m n h0 Fi hm lK aN) (fun _ m gr sz xs hm h0 b hb=>H2.live m gr sz xs h0 b hb n Fi aN) ?_ (by rw[hG2,huu];exact K2) ?_
   (fun gr m sz xs hb=>by cases hb) (fun gr sz xs hb=>by cases hb) (fun gr m sz xs hb=>by cases hb) ?_
  ·intro Jo c m hb hc hm
   injection hb with hb
   subst hb
   obtain⟨pc,_,rfl⟩:=List.mem_map.1 hc
   exact absurd hm id
  ·refine⟨aN,(mH _ sf).jq tB,fun j c hj=>?_⟩
   rw[List.getElem?_map] at hj
   cases hp:ps[j]? with
   |none=>rw[hp] at hj;cases hj
   |some pc=>
    rw[hp] at hj
    simp at hj
    subst hj
    obtain⟨g1,g2⟩:=ie pc (List.mem_of_getElem? hp)
    exact⟨pc.val,bU j pc hp,PC.lx pc,pc,rfl,rfl,g1,g2⟩
  ·intro _ _ b hb
   obtain⟨m,gr,mo,sz,xs,hm,h0,cR⟩:=hb
   exact H2.tm Fi aN h0 cR
 rw[hG2,huu] at H3
 have K1:bf w G h (fun n=>used n=true) w' ⟨fun b=>G.Im b\/S b,G.g⟩ (aA h n (some (ar.box []))):=bf.trans (fun _ h=>h) (kp []) (bf.ra S _)
 exact⟨H3,bf.trans (fun _ h=>h) K1 K2⟩
theorem Tp {σ1:St} {ns:List Nat} {out:List C} (hx:σ.rn ns out=some σ1):(ns=[]/\out=[]/\σ1=σ)\/∃n cs,ns=[n]/\σ.h n=some (.box cs)/\cs.length=out.length/\σ1=σ.dB n (.box (out.map .c)):=by
 unfold St.rn at hx
 split at hx
 ·injection hx with hx;exact .inl ⟨rfl,rfl,hx.symm⟩
 ·rename_i n
  split at hx
  ·rename_i cs hn
   split at hx
   ·rename_i hl
    injection hx with hx
    exact .inr ⟨n,cs,rfl,hn,hl,hx.symm⟩
   ·cases hx
  ·cases hx
 ·cases hx
theorem YT {pas:List PA} {p:PA} (hp:p∈pas) (hk:p.k=.ptr):p∈mB pas:=List.mem_filter.2 ⟨hp,by simp[hk]⟩
theorem YU:∀{pas:List PA},(mB pas).length<=1->∀{i j:Nat} {p q:PA},pas[i]? =some p->pas[j]? =some q->p.k=.ptr->q.k=.ptr->i=j
 |[],_,i,_,_,_,hi,_,_,_=>by simp at hi
 |x::pas,hl,i,j,p,q,hi,hj,hp,hq=>by
  by_cases hx:x.k=.ptr
  ·have hz:(mB pas).length=0:=by
    simp[mB,hx] at hl⊢
    exact hl
   have cm:∀y∈pas,y.k≠ .ptr:=fun y hy hk=>by
    have:=YT hy hk
    rw[List.length_eq_zero_iff.1 hz] at this
    cases this
   cases i with
   |zero=>
    cases j with
    |zero=>rfl
    |succ j=>exact absurd hq (cm q (List.mem_of_getElem? (by simpa using hj)))
   |succ i=>exact absurd hp (cm p (List.mem_of_getElem? (by simpa using hi)))
  ·have dQ:(mB pas).length<=1:=by simpa[mB,hx] using hl
   cases i with
   |zero=>simp at hi;subst hi;exact absurd hp hx
   |succ i=>
    cases j with
    |zero=>simp at hj;subst hj;exact absurd hq hx
    |succ j=>exact congrArg (·+1) (YU dQ (by simpa using hi) (by simpa using hj) hp hq)
theorem NR:∀{aY:List PA} {ls:List (Bool×List aj)},gR (aY.map fun p=>(p.k,p.ps.map PC.er))=some ls->ls=aY.map (fun p=>(decide (p.k=.agg),p.ps.map fun pc=>aj.c pc.er))/\∀p∈aY,p.k≠ .ptr
 |[],ls,h=>by simp only[List.map_nil,gR] at h;injection h with h;exact⟨h.symm,by simp⟩
 |⟨k,ps,b,o⟩::aY,ls,h=>by
  cases k with
  |ptr=>simp[gR] at h
  |one=>
   simp only[List.map_cons,gR] at h
   split at h
   ·rename_i zT e
    injection h with h
    obtain⟨e1,e2⟩:=NR e
    refine⟨by rw[<-h,e1,List.map_map];rfl,fun p hp=>?_⟩
    cases hp with
    |head=>simp
    |tail _ hp=>exact e2 p hp
   ·cases h
  |agg=>
   simp only[List.map_cons,gR] at h
   split at h
   ·rename_i zT e
    injection h with h
    obtain⟨e1,e2⟩:=NR e
    refine⟨by rw[<-h,e1,List.map_map];rfl,fun p hp=>?_⟩
    cases hp with
    |head=>simp
    |tail _ hp=>exact e2 p hp
   ·cases h
theorem aqF {ls:List (Bool×List aj)} {aY:List PA} (hlen:ls.length=aY.length)
  (hv:∀(j:Nat) (x:Bool×List aj) (p:PA),ls[j]? =some x->aY[j]? =some p->RV w G h x.1 x.2 (Aj p)):RA w G h (lT ls) (Ak aY):=by
 match ls,aY,hlen with
 |[],[],_=>exact⟨[],rfl,rfl,by simp⟩
 |[(ag,cs)],[p],_=>
  have h0:=hv 0 (ag,cs) p rfl rfl
  cases ag with
  |true=>exact h0
  |false=>
   have bT:cZ w G h cs [Aj p]:=h0
   match cs,bT.1 with
   |[c],_=>exact .inr h0
 |x::y::ls,p::q::aY,hl=>
  refine⟨(p::q::aY).map Aj,rfl,by simpa using hl.symm,fun j x' u hj hu=>?_⟩
  rw[List.getElem?_map] at hu
  cases hp:(p::q::aY)[j]? with
  |none=>rw[hp] at hu;cases hu
  |some p'=>rw[hp] at hu;simp at hu;subst hu;exact hv j x' p' hj hp
theorem agO (r:R B E w0 N σ a w G) {T:aT} (hT:Bo P T) {f:FuncId} {as:List ak} {vals:List Value} {σ1:St} (hN:∀n,o.dst=some n->n<N)
  (bY:(execOp a.eval o).run P w=.ok (.enter f vals.toArray) w) (hl:vals.length=as.length)
  (uT:∀(j:Nat) (x:ak) (v:Value),as[j]? =some x->vals[j]? =some v->RA w G σ.h x v) (P9:∀x∈as,∀m,x.ref m->σ.used m=true)
  (hx:qI T o.dst f as σ=some σ1):o.wp P a w (Nx B E w0 N σ1) Q:=by
 unfold qI at hx
 split at hx
 ·rename_i ds ns pw M hba hM
  split at hx
  ·rename_i rs out pM
   split at hx
   ·rename_i nD qW
    obtain⟨Im',pas,b1,b2,b3,b4,b5,b6,b7,b8,b9,qC⟩:=r.hr.ia hba hl uT P9
    have hns:ns.length<=1:=by
     rcases Tp qW with⟨h1,_⟩|⟨n,cs,h1,_⟩<;>rw[h1]<;>simp
    have mG:∀p∈pas,p.k=.ptr->∃n,ns=[n]/\Xr G pw.h p n:=by
     intro p hp hk
     obtain⟨i,hi⟩:=List.getElem?_of_mem (YT hp hk)
     have bK:i<ns.length:=by rw[<-b5];exact(List.getElem?_eq_some_iff.1 hi).1
     have hn:ns[i]? =some ns[i]:=List.getElem?_eq_getElem bK
     have h0:i=0:=by omega
     subst h0
     refine⟨_,?_,b6 0 p _ hi hn⟩
     match ns,bK,hns with
     |[n],_,_=>rfl
    have va:M5 w ds vals pas:=by
     refine⟨b2,b1,b3,fun p hp hk=>?_,fun i j p q hi hj hp hq=>YU (by omega) hi hj hp hq⟩
     obtain⟨n,_,cs,hn,e1,e2,e3⟩:=mG p hp hk
     obtain⟨nl,un,_⟩:=b7.box n cs hn
     have ho:=b7.own n (by rw[hn];simp) nl
     rw[e1]
     exact⟨un,fun q hq pc bc hb=>ho.1 (b4 q hq pc bc _ hb)⟩
    unfold Oper.wp
    rw[bY]
    refine(hT f M hM ds rs out pM w vals pas va).mono fun e w' ⟨aY,qs,p1,p2,p3,p4⟩=>?_
    subst p2
    have aaJ:∀b,Bp w pas b->Im' b\/w.heap.size<=b:=fun b hb=>by
     rcases hb with hb|⟨q,hq,pc,bc,hb⟩
     ·exact .inr hb
     ·exact .inl (b4 q hq pc bc b hb)
    let S:Nat->Prop:=fun b=>w.heap.size<=b/\((∃p∈aY,∃pc∈p.ps,aX b pc)\/∃pc∈qs,aX b pc)
    have hB:=r.fr.size
    have hS:∀b,S b->w.heap.size<=b/\b<w'.heap.size/\B<=b:=fun b ⟨h1,h2⟩=>by
     refine⟨h1,?_,Nat.le_trans hB h1⟩
     rcases h2 with⟨p,hp,pc,bc,hb⟩|⟨pc,bc,hb⟩
     ·exact(p4.eD p hp pc bc).1.lt hb
     ·exact(p4.out pc bc).1.lt hb
    have aag:∀p∈aY,∀pc∈p.ps,Good w' pc/\∀b,aX b pc->Im' b\/S b:=fun p hp pc bc=>by
     obtain⟨g1,g2⟩:=p4.eD p hp pc bc
     exact⟨g1,fun b hb=>(aaJ b (g2 b hb)).imp id fun h1=>⟨h1,.inl ⟨p,hp,pc,bc,hb⟩⟩⟩
    have aiF:∀pc∈qs,Good w' pc/\∀b,aX b pc->Im' b\/S b:=fun pc bc=>by
     obtain⟨g1,g2⟩:=p4.out pc bc
     exact⟨g1,fun b hb=>(aaJ b (g2 b hb)).imp id fun h1=>⟨h1,.inr ⟨pc,bc,hb⟩⟩⟩
    have ass:HR B E w' ⟨fun b=>Im' b\/S b,G.g⟩ nD.h nD.used []/\bf w ⟨Im',G.g⟩ pw.h (fun n=>pw.used n=true) w' ⟨fun b=>Im' b\/S b,G.g⟩ nD.h/\nD.env=pw.env/\nD.used=pw.used/\Fr B E w0 w':=by
     rcases Tp qW with⟨h1,h2,h3⟩|⟨n,cs,h1,h2,h3,h4⟩
     ·subst h3
      have cm:∀p∈pas,p.k≠ .ptr:=fun p hp hk=>by
       obtain⟨n,e,_⟩:=mG p hp hk
       rw[h1] at e;cases e
      have iv:∀b,b<w.heap.size->w'.heap[b]? =w.heap[b]? :=fun b hb=>p4.fr.block b hb (fun⟨p,hp,hk,_⟩=>cm p hp hk)
      have Hg:=b7.grow iv p4.fr.size
      refine⟨Hg.ra S (fun b hb=>(hS b hb).2.1) (fun b hb q hq hl he=>by have:=(hS b hb).1;have:=(b7.own q hq hl).2.2;omega)
       (fun b hb q gr sz xs hq hF=>by have:=(hS b hb).1;have:=b7.rz hq hF;omega) (fun b hb=>.inl (hS b hb).2.2),
       bf.trans (fun _ h=>h) (bf.world (fun b hb=>iv b (b7.gi b hb)) _) (bf.ra S _),rfl,rfl,r.fr.grow iv p4.fr.size p4.fr.os p4.fr.tape p4.fr.output⟩
     ·subst h4
      obtain⟨p,hp,hk⟩:∃p∈pas,p.k=.ptr:=by
       have hlen:(mB pas).length=1:=by rw[b5,h1];rfl
       match hc:mB pas,hlen with
       |[p],_=>
        have hm:p∈mB pas:=by rw[hc];simp
        have:=List.mem_filter.1 hm
        exact⟨p,this.1,by simpa using this.2⟩
      obtain⟨n',e0,cs',bm,e1,e2,e3⟩:=mG p hp hk
      rw[h1] at e0
      injection e0 with e0
      subst e0
      have Kk:∀q∈pas,q.k=.ptr->q=p:=fun q hq PR=>by
       obtain⟨i,hi⟩:=List.getElem?_of_mem hq
       obtain⟨j,hj⟩:=List.getElem?_of_mem hp
       have:=va.one i j q p hi hj PR hk
       subst this
       rw[hi] at hj
       injection hj
      have ho:=b7.own n (by rw[h2];simp) (b7.box n cs h2).1
      have iv:∀b,b<w.heap.size->b≠(G.g n).b->w'.heap[b]? =w.heap[b]? :=fun b hb aD=>p4.fr.block b hb (fun⟨q,hq,PR,hbq⟩=>by
       rw[Kk q hq PR,e1] at hbq
       exact aD hbq)
      have mH:∀b,b<w.heap.size->Cz w w' b:=fun b hb=>p4.fr.jq b hb
      obtain⟨Hb,Kb⟩:=b7.Yj (cs':=out.map .c) h2 p4.fr.size iv mH hS (ps:=qs) (by rw[<-p3,List.map_map];rfl) (fun j c hj=>by
       have:=p4.at_ p hp hk j c hj
       rw[e1,e2] at this
       exact this) aiF
      exact⟨Hb,Kb,rfl,rfl,r.fr.one ho.2.1 iv p4.fr.size (mH _ ho.2.2) p4.fr.os p4.fr.tape p4.fr.output⟩
    obtain⟨H2,K2,v1,v2,u4⟩:=ass
    have K0:bf w G σ.h (fun n=>σ.used n=true) w' ⟨fun b=>Im' b\/S b,G.g⟩ nD.h:=bf.trans (fun n hn=>by rw[qC];exact hn) b8 K2
    have r2:R B E w0 N nD a w' ⟨fun b=>Im' b\/S b,G.g⟩:=r.step (v1.trans b9) (fun m hm=>by rw[v2,qC];exact hm) K0 H2 u4
    have Jq:∀{ls:List (Bool×List aj)},gR rs=some ls->σ1=nD.put o.dst (lT ls)->(match(Ending.returned (Ak aY)) with|.returned v=>Nx B E w0 N σ1 (a.put o.dst v) w'|_=>True):=by
     intro ls B9 hs
     subst hs
     rw[<-p1] at B9
     obtain⟨rfl,Fj⟩:=NR B9
     refine⟨_,r2.put (aqF (by simp) (fun j x p hj hp=>?_)) (fun q hq=>?_) hN⟩
     ·rw[List.getElem?_map,hp] at hj
      simp at hj
      subst hj
      have hm:=List.mem_of_getElem? hp
      have bT:cZ w' ⟨fun b=>Im' b\/S b,G.g⟩ nD.h (p.ps.map fun pc=>aj.c pc.er) (p.ps.map PC.val):=by
       refine⟨by simp,fun j c u hj hu=>?_⟩
       rw[List.getElem?_map] at hj hu
       cases nb:p.ps[j]? with
       |none=>rw[nb] at hj;cases hj
       |some pc=>
        rw[nb] at hj hu
        simp at hj hu
        subst hj hu
        obtain⟨g1,g2⟩:=aag p hm pc (List.mem_of_getElem? nb)
        exact⟨PC.lx pc,pc,rfl,rfl,g1,g2⟩
      have J9:=p4.one p hm
      have hk2:=Fj p hm
      obtain⟨k,ps,b,o'⟩:=p
      cases k with
      |ptr=>exact absurd rfl hk2
      |agg=>exact⟨ps.map PC.val,rfl,bT⟩
      |one=>
       have h2:=J9 rfl
       match ps,h2 with
       |[p],_=>exact bT
     ·exfalso
      refine acY (fun x hx c hc hq=>?_) hq
      obtain⟨p,_,rfl⟩:=List.mem_map.1 hx
      obtain⟨pc,_,rfl⟩:=List.mem_map.1 hc
      exact hq
    unfold qD at hx
    split at hx
    ·rename_i cs
     split at hx
     ·rename_i q hq
      split at hx
      ·rename_i τ3 ai3
       injection hx with hx
       subst hx
       obtain⟨u1,rfl⟩:=mN ai3
       obtain⟨p,rfl⟩:∃p,aY=[p]:=by
        have h1:aY.length=1:=by have:=congrArg List.length p1;simpa using this
        exact List.length_eq_one_iff.1 h1
       simp at p1
       obtain⟨hk,eE⟩:=p1
       obtain⟨_,q1,q2,q3,q4,q5⟩:=p4.ptr p (by simp) hk
       subst eE
       have aay:pA ⟨fun b=>Im' b\/S b,G.g⟩ nD.h p.b:=by
        refine⟨fun hi=>?_,fun m hm hl he=>?_,fun m gr mo sz xs hm hF=>?_⟩
        ·rcases hi with hi|⟨_,hi⟩
         ·have:=b7.gi _ hi;omega
         ·rcases hi with⟨p',bg,pc,bc,hb⟩|⟨pc,bc,hb⟩
          ·simp at bg;subst bg;exact q4 pc bc hb
          ·exact q5 pc bc hb
        ·have hd:=H2.jc m hm
         obtain⟨k0,k1,k2,_⟩:=K2.name m (by rw[<-v2];exact hd) hm
         have dQ:(G.g m).nl=false:=hl
         have:=(b7.own m k0 dQ).2.2
         have J4:(G.g m).b=p.b:=he
         have h7:(⟨Im',G.g⟩:Gh).g m=G.g m:=rfl
         rw[h7] at this
         omega
        ·have hd:=H2.jc m (by rw[hm];simp)
         have fo:∃bo nv aJ au,pw.h m=some (.row bo nv aJ au):=by
          rcases Tp qW with⟨h1,h2,h3⟩|⟨n,cs,h1,h2,h3,h4⟩
          ·subst h3;exact⟨_,_,_,_,hm⟩
          ·subst h4
           by_cases bL:m=n
           ·subst bL;have:aA pw.h m (some (ar.box (out.map aj.c))) m=_:=hm;rw[bN] at this;cases this
           ·have:aA pw.h n (some (ar.box (out.map aj.c))) m=_:=hm
            rw[cE _ _ _ _ bL] at this
            exact⟨_,_,_,_,this⟩
         obtain⟨bo,nv,aJ,au,bO⟩:=fo
         have wP:aZ p.b (G.g m).px:=hF
         have:=b7.rz bO wP
         omega
       have Hn:HR B E w' ⟨fun b=>Im' b\/S b,aA G.g q ⟨false,p.b,p.o,0,[],none⟩⟩ (aA nD.h q (some (.box ((p.ps.map PC.er).map .c)))) (aA nD.used q true) []:=by
        refine H2.insert (w':=w') u1 (fun _ _=>rfl) (Nat.le_refl _) (fun _=>⟨aay,.inl (Nat.le_trans hB q1),q2.lt⟩) (fun cs' c m hb cA hm=>?_) ⟨rfl,q2,fun j c hj=>?_⟩ (fun gr m sz xs hb=>by cases hb) (fun gr sz xs hb=>by cases hb) (fun gr m sz xs hb=>by cases hb)
        ·injection hb with hb
         subst hb
         obtain⟨x,_,rfl⟩:=List.mem_map.1 cA
         exact absurd hm id
        ·rw[List.getElem?_map,List.getElem?_map] at hj
         cases hp:p.ps[j]? with
         |none=>rw[hp] at hj;cases hj
         |some pc=>
          rw[hp] at hj
          simp at hj
          subst hj
          obtain⟨g1,g2⟩:=aag p (by simp) pc (List.mem_of_getElem? hp)
          exact⟨pc.val,q3 j pc hp,PC.lx pc,pc,rfl,rfl,g1,g2⟩
       have r3:=r2.step (σ':={nD with h:=aA nD.h q (some (.box ((p.ps.map PC.er).map .c))),used:=aA nD.used q true}) rfl (fun m hm=>rI q m hm) (bf.insert H2 u1 (fun _ _=>rfl)) Hn u4
       have hv:Ak [p]=.pointer (some (ad p.b p.o)):=by
        obtain⟨k,ps,b,o'⟩:=p
        simp only at hk
        subst hk
        rfl
       rw[hv]
       exact⟨_,r3.put (RA.gD (c:=.ptr q 0 0 0) rfl (show aA nD.h q _ q≠none->(aA G.g q _ q).nl=false/\_=_ from fun _=>by simp[bN])) (fun m hm=>by have bO:m=q:=hm;subst bO;exact bN _ _ _) hN⟩
      ·cases hx
     ·cases hx
    ·split at hx
     ·rename_i ls B9
      injection hx with hx
      exact Jq B9 hx.symm
     ·cases hx
   ·cases hx
  ·cases hx
 ·cases hx
theorem Zp (r:R B E w0 N σ a w G) {T:aT} (hT:Bo P T) {f:FuncId} {xs:Array Operand} {ms:List MO} {ts:Array TypeId} {σ1:St} (hN:∀n,o.dst=some n->n<N)
  (ho:o.op=.call {callee:=.value (.func f),args:=xs,argTypes:=ts}) (hf:bH P f=true) (hm:gQ xs.toList ms=true)
  (hx:qI T o.dst f (ms.map σ.ev) σ=some σ1):o.wp P a w (Nx B E w0 N σ1) Q:=by
 obtain⟨e1,e2⟩:=r.yN hm
 have P9:∀x∈ms.map σ.ev,∀m,x.ref m->σ.used m=true:=by
  have bZ:∀{xs:List Operand} {ms:List MO},gQ xs ms=true->∀x∈ms.map σ.ev,∀m,x.ref m->σ.used m=true:=by
   intro xs ms
   induction ms generalizing xs with
   |nil=>intro _ x hx;simp at hx
   |cons m0 ms ih=>
    intro hc x hx m hm
    cases xs with
    |nil=>simp[gQ] at hc
    |cons y ys=>
     simp only[gQ,Bool.and_eq_true] at hc
     simp only[List.map_cons,List.mem_cons] at hx
     rcases hx with rfl|hx
     ·exact(r.ev hc.1).2 m hm
     ·exact ih hc.2 x hx m hm
  exact bZ hm
 refine agO r hT (vals:=xs.toList.map a.eval) hN ?_ (by simpa using e1) e2 P9 hx
 have he:(xs.toList.map a.eval).toArray=xs.map a.eval:=by apply Array.ext';simp
 rw[he]
 simp[execOp,ho,resolve,Deferred.ofValue,invoke,Act.eval,Al hf]
theorem R.qO (r:R B E w0 N σ a w G) {p:aj} (hx:σ.qO p=some σ'):∃G',R B E w0 N σ' a w G'/\σ'.env=σ.env:=by
 unfold St.qO at hx
 split at hx
 ·rename_i n k sz off
  split at hx
  ·rename_i cs hn
   split at hx
   ·rename_i xs ow σ1 ht
    injection hx with hx
    subst hx
    obtain⟨vs,v1,v2⟩:=r.hr.I4 hn
    obtain⟨yk,bx,a1,a2,a3,a5,a6,a7,a8,a9⟩:=r.hr.fD ht v1 (fun c hc m hm=>r.hr.g8 n cs c m hn hc hm)
    have wj:HR B E w ⟨yk,G.g⟩ σ1.h σ.used []:=by
     cases ow with
     |true=>exact HR.xZ (tk:=[]) (l:=bx) (by simpa using a5)
     |false=>simpa using a5
    have m9:=W4 ht hn
    obtain⟨b1,b2⟩:=wj.Yj (w':=w) (cs':=xs.map .c) m9 (Nat.le_refl _) (fun _ _ _=>rfl) (fun b _=>Cz.refl w b) (S:=fun _=>False) (fun b hb=>hb.elim) (ps:=bx)
     (by rw[<-a1,List.map_map];rfl) (fun j c hj=>by
      have:=v2 j c.val (by rw[<-a2,List.getElem?_map,hj];rfl)
      exact this) (fun pc bc=>⟨(a3 pc bc).1,fun b hb=>.inl ((a3 pc bc).2 b hb)⟩)
    have hk:=bf.trans (fun _ h=>h) a6 b2
    refine⟨_,r.step a7 (fun q hq=>by rw[show(σ1.dB n (.box (xs.map .c))).used=σ1.used from rfl,a8];exact hq) hk ?_ r.fr,a7⟩
    show HR B E w _ _ σ1.used []
    rw[a8]
    exact b1
   ·cases hx
  ·cases hx
 ·cases hx
theorem agV (r:R B E w0 N σ a w G) {t:TypeId} {x:Operand} {m:MO} {ag:Bool} {sz:Nat} {p:aj} {cs:List aj} (ho:o.op=.load t x) (hN:∀n,o.dst=some n->n<N)
  (hm:bF x m=true) (dF:qF P t ag sz=true) (hp:σ.ev m=.one p) (hf:σ.qO p=some σ') (hx:Am.loadAt σ'.h p sz=some cs):
  o.wp P a w (Nx B E w0 N (σ'.put o.dst (ma ag cs))) Q:=by
 obtain⟨G',r',e⟩:=r.qO hf
 refine Zt r' ho hN hm dF (p:=p) ?_ hx
 cases m with
 |t n=>simp only[St.ev] at hp⊢;rw[e];exact hp
 |k v=>exact hp
end
end Go.Am
