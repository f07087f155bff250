/- AmV: functions whose results may share, and that may change the cells of one pointer: what is said of them, and the caller's side of a call. No condition. -/
import Derived.Test.YtifmggmhdcdgbaaAmU
set_option linter.unusedVariables false
namespace Go.Am
structure L5 (w:World) (ds:List Dv) (vals:List Value) (pas:List PA):Prop where
 l1:vals.length=ds.length
 l2:pas.length=ds.length
 at_:∀(i:Nat) (d:Dv) (v:Value) (p:PA),ds[i]? =some d->vals[i]? =some v->pas[i]? =some p->zF w d v p
 kg:∀p∈pas,p.k=.ptr->dr w p.b/\∀q∈pas,∀pc∈q.ps,¬aP p.b pc
 one:∀(i j:Nat) (p q:PA),pas[i]? =some p->pas[j]? =some q->p.k=.ptr->q.k=.ptr->i=j
def zT (w:World) (pas:List PA) (b:Nat):Prop:=w.heap.size<=b\/∃q∈pas,∃pc∈q.ps,aP b pc
def WQ (pas:List PA):Ex:=⟨fun b=>∃p∈pas,p.k=.ptr/\b=p.b,fun _=>none,fun _ _ h=>(by cases h),fun _=>True⟩
def zj (p:PA):Value:=
 match p.k with
 |.one=>match p.ps with
  |[pc]=>pc.val
  |_=>.agg (p.ps.map PC.val).toArray
 |.agg=>.agg (p.ps.map PC.val).toArray
 |.ptr=>.pointer (some (ad p.b p.o))
def zk:List PA->Value
 |[p]=>zj p
 |l=>.tuple (l.map zj).toArray
def Gp (w:World) (b o:Nat) (ps:List PC):Prop:=∀(j:Nat) (c:PC),ps[j]? =some c->w.cell? (ad b (o+j))=some c.val
structure L4 (w w':World) (pas aR:List PA) (qs:List PC):Prop where
 one:∀p∈aR,p.k=.one->p.ps.length=1
 ptr:∀p∈aR,p.k=.ptr->aR.length=1/\w.heap.size<=p.b/\dr w' p.b/\Gp w' p.b p.o p.ps/\(∀pc∈p.ps,¬aP p.b pc)/\∀pc∈qs,¬aP p.b pc
 eD:∀p∈aR,∀pc∈p.ps,Good w' pc/\∀b,aP b pc->zT w pas b
 fr:Fr w.heap.size (WQ pas) w w'
 out:∀pc∈qs,Good w' pc/\∀b,aP b pc->zT w pas b
 at_:∀p∈pas,p.k=.ptr->Gp w' p.b p.o qs
def k8 (P:Program) (f:FuncId) (M:List Dv->Option (List Dv×List C)):Prop:=
 ∀ds rs out,M ds=some (rs,out)->∀(w:World) (vals:List Value) (pas:List PA),L5 w ds vals pas->Calls P f vals.toArray w fun e w'=>
  ∃(aR:List PA) (qs:List PC),aR.map (fun p=>(p.k,p.ps.map PC.er))=rs/\e=.returned (zk aR)/\qs.map PC.er=out/\L4 w w' pas aR qs
def Gu (P:Program) (T:bj):Prop:=∀f M,bj.nI T.vs f=some M->k8 P f M
section
variable {B:Nat} {E:Ex} {w0 w w':World} {G G':Gh} {N:Nat} {h h':Nat->Option ar} {used used':Nat->Bool} {tk:List PC}
variable {P:Program} {o:Oper} {a:Act} {σ σ':St} {Q:Exit->Act->World->Prop}
theorem HR.uR {c:ai} {x:C} {v:Value} (hx:Am.uR c=some x) (hc:RC w G h c v):∃pc:PC,pc.er=x/\pc.val=v/\Good w pc/\∀b,aP b pc->G.Im b:=by
 cases c with
 |c y=>
  simp only[Am.uR] at hx
  injection hx with hx
  subst hx
  exact hc
 |nil sz=>
  simp only[Am.uR] at hx
  split at hx
  ·rename_i eE
   injection hx with hx
   subst hx
   have cj:v=.slice none 0 0:=hc
   subst cj
   refine⟨.list sz none 0 [],by simp[PC.dz],rfl,.nil _ _ _ eE,fun b hb=>?_⟩
   rw[aP.ka] at hb
   rcases hb with⟨hb,_⟩|⟨k,j,c,⟨e,he,_⟩,_⟩
   ·exact absurd rfl hb
   ·simp at he
  ·cases hx
 |_=>simp[Am.uR] at hx
theorem HR.mf:∀{cs:List ai} {xs:List C} {vs:List Value},Am.mf cs=some xs->cA w G h cs vs->∃ps:List PC,ps.map PC.er=xs/\ps.map PC.val=vs/\∀pc∈ps,Good w pc/\∀b,aP b pc->G.Im b
 |[],xs,vs,hx,hc=>by
  simp only[Am.mf] at hx
  injection hx with hx
  subst hx
  have:vs=[]:=List.eq_nil_of_length_eq_zero (by simpa using hc.1)
  subst this
  exact⟨[],rfl,rfl,by simp⟩
 |c::cs,xs,vs,hx,hc=>by
  simp only[Am.mf] at hx
  split at hx
  ·rename_i x av e1 e2
   injection hx with hx
   subst hx
   match vs,hc.1 with
   |v::vs,hl=>
    obtain⟨pc,a1,a2,a3,a4⟩:=HR.uR e1 (hc.2 0 c v rfl rfl).2
    obtain⟨ps,b1,b2,b3⟩:=HR.mf (vs:=vs) e2 ⟨by simpa using hl,fun j c u h1 h2=>hc.2 (j+1) c u h1 h2⟩
    refine⟨pc::ps,by simp[a1,b1],by simp[a2,b2],fun q hq=>?_⟩
    cases hq with
    |head=>exact⟨a3,a4⟩
    |tail _ hq=>exact b3 q hq
  ·cases hx
theorem HR.HC (H:HR B E w G h used tk) {n:Nat} {cs:List ai} (hn:h n=some (.box cs)):∃vs:List Value,cA w G h cs vs/\∀(j:Nat) (v:Value),vs[j]? =some v->w.cell? (ad (G.g n).b ((G.g n).o+j))=some v:=by
 obtain⟨_,_,a3⟩:=H.box n cs hn
 have hj:∀j:Fin cs.length,∃v,w.cell? (ad (G.g n).b ((G.g n).o+j.1))=some v/\v.oneCell'=true/\RC w G h cs[j.1] v:=fun j=>a3 j.1 _ (List.getElem?_eq_getElem j.2)
 refine⟨List.ofFn fun j=>Classical.choose (hj j),⟨by simp,fun j c u hc hu=>?_⟩,fun j v hv=>?_⟩
 ·obtain⟨hl,e⟩:=List.getElem?_eq_some_iff.1 hc
  rw[List.getElem?_ofFn,dif_pos hl] at hu
  injection hu with hu
  subst hu e
  exact(Classical.choose_spec (hj ⟨j,hl⟩)).2
 ·by_cases hl:j<cs.length
  ·rw[List.getElem?_ofFn,dif_pos hl] at hv
   injection hv with hv
   subst hv
   exact(Classical.choose_spec (hj ⟨j,hl⟩)).1
  ·rw[List.getElem?_eq_none (by simp;omega)] at hv;cases hv
theorem aow {σ1:St} {c:ai} {x:C} {o:Bool} (hx:σ.fO c=some (x,o,σ1)) {n:Nat} {cs:List ai} (hn:σ.h n=some (.box cs)):σ1.h n=some (.box cs):=by
 cases c with
 |c y=>simp only[St.fO] at hx;injection hx with hx;injection hx with _ hx;injection hx with _ hx;subst hx;exact hn
 |nil sz=>
  simp only[St.fO] at hx
  split at hx
  ·injection hx with hx;injection hx with _ hx;injection hx with _ hx;subst hx;exact hn
  ·cases hx
 |sl q sz lo len=>
  simp only[St.fO] at hx
  split at hx
  ·rename_i gr m rs xs hq
   split at hx
   ·injection hx with hx;injection hx with _ hx;injection hx with _ hx;subst hx
    have ax:n≠q:=by rintro rfl;rw[hq] at hn;cases hn
    show aw σ.h q none n=_
    rw[bZ _ _ _ _ ax];exact hn
   ·cases hx
  ·cases hx
 |_=>simp[St.fO] at hx
theorem UW:∀{l:List ai} {σ σ1:St} {xs:List C} {o:Bool},σ.ft l=some (xs,o,σ1)->∀{n:Nat} {cs:List ai},σ.h n=some (.box cs)->σ1.h n=some (.box cs)
 |[],σ,σ1,xs,o,hx,n,cs,hn=>by simp only[St.ft] at hx;injection hx with hx;injection hx with _ hx;injection hx with _ hx;subst hx;exact hn
 |c::l,σ,σ2,xs,o,hx,n,cs,hn=>by
  simp only[St.ft] at hx
  split at hx
  ·rename_i x o1 σ1 e1
   split at hx
   ·rename_i av o2 Vh e2
    injection hx with hx;injection hx with _ hx;injection hx with _ hx;subst hx
    exact UW e2 (aow e1 hn)
   ·cases hx
  ·cases hx
theorem Md:∀{as:List aj} {σ σ1:St} {ds:List Dv} {ns:List Nat},σ.hH as=some (ds,ns,σ1)->∀{n:Nat} {cs:List ai},σ.h n=some (.box cs)->σ1.h n=some (.box cs)
 |[],σ,σ1,ds,ns,hx,n,cs,hn=>by simp only[St.hH] at hx;injection hx with hx;injection hx with _ hx;injection hx with _ hx;subst hx;exact hn
 |v::as,σ,σ2,ds,ns,hx,n,cs,hn=>by
  simp only[St.hH] at hx
  split at hx
  ·split at hx
   ·rename_i e
    injection hx with hx;injection hx with _ hx;injection hx with _ hx;subst hx
    exact Md e hn
   ·cases hx
  ·split at hx
   ·split at hx
    ·rename_i e1
     split at hx
     ·rename_i e2
      injection hx with hx;injection hx with _ hx;injection hx with _ hx;subst hx
      exact Md e2 (UW e1 hn)
     ·cases hx
    ·cases hx
   ·cases hx
def ld (pas:List PA):List PA:=pas.filter fun p=>decide (p.k=.ptr)
def Vj (G:Gh) (h:Nat->Option ar) (p:PA) (n:Nat):Prop:=∃cs,h n=some (.box cs)/\p.b=(G.g n).b/\p.o=(G.g n).o/\p.ps.length=cs.length
theorem Mg {v:aj} {n:Nat} {xs:List C} (hx:mG h v=some (n,xs)):∃sz cs,v=.one (.ptr n 0 sz 0)/\h n=some (.box cs)/\mf cs=some xs:=by
 unfold mG at hx
 split at hx
 ·rename_i q k sz off
  split at hx
  ·rename_i hc
   obtain⟨rfl,rfl⟩:=hc
   split at hx
   ·rename_i cs hq
    split at hx
    ·rename_i ys e
     injection hx with hx
     injection hx with h1 h2
     subst h1 h2
     exact⟨sz,cs,rfl,hq,e⟩
    ·cases hx
   ·cases hx
  ·cases hx
 ·cases hx
theorem HR.hH:∀{as:List aj} {vals:List Value} {σ σ1:St} {G:Gh} {ds:List Dv} {ns:List Nat},HR B E w G σ.h σ.used []->σ.hH as=some (ds,ns,σ1)->vals.length=as.length->
  (∀(j:Nat) (x:aj) (v:Value),as[j]? =some x->vals[j]? =some v->RA w G σ.h x v)->(∀x∈as,∀m,x.ref m->σ.used m=true)->
  ∃(Im':Nat->Prop) (pas:List PA),pas.length=ds.length/\vals.length=ds.length/\(∀(i:Nat) (d:Dv) (v:Value) (p:PA),ds[i]? =some d->vals[i]? =some v->pas[i]? =some p->zF w d v p)/\
   (∀p∈pas,∀pc∈p.ps,∀b,aP b pc->Im' b)/\(ld pas).length=ns.length/\(∀(i:Nat) (p:PA) (n:Nat),(ld pas)[i]? =some p->ns[i]? =some n->Vj G σ1.h p n)/\
   HR B E w ⟨Im',G.g⟩ σ1.h σ1.used []/\aW w G σ.h (fun n=>σ.used n=true) w ⟨Im',G.g⟩ σ1.h/\σ1.env=σ.env/\σ1.used=σ.used
 |[],vals,σ,σ1,G,ds,ns,H,hx,hl,hc,hr=>by
  simp only[St.hH] at hx
  injection hx with hx
  injection hx with h1 h2
  injection h2 with h2 h3
  subst h1 h2 h3
  exact⟨G.Im,[],rfl,by simpa using hl,by simp,by simp,rfl,by simp[ld],H,aW.refl _ _ _ _,rfl,rfl⟩
 |x::as,vals,σ,σ2,G,ds,ns,H,hx,hl,hc,hr=>by
  match vals,hl with
  |v::vals,hl=>
   simp only[St.hH] at hx
   split at hx
   ·rename_i n xs hp
    split at hx
    ·rename_i yg jR σ1 e
     injection hx with hx
     injection hx with h1 h2
     injection h2 with h2 h3
     subst h1 h2 h3
     obtain⟨sz,cs,rfl,hn,pM⟩:=Mg hp
     obtain⟨nl,un,_⟩:=H.box n cs hn
     obtain⟨vs,v1,v2⟩:=H.HC hn
     obtain⟨ps,p1,p2,p3⟩:=HR.mf pM v1
     have hv:v=.pointer (some (ad (G.g n).b (G.g n).o)):=by
      have h0:=hc 0 _ v rfl rfl
      rcases h0 with h0|h0
      ·cases h0
      ·have h1:RC w G σ.h (.ptr n 0 sz 0) v:=(h0.2 0 _ v rfl rfl).2
       simpa using(h1 (by rw[hn];simp)).2
     obtain⟨Im',pas,b1,b2,b3,b4,b5,b6,b7,b8,b9,lR⟩:=HR.hH (as:=as) (vals:=vals) H e (by simpa using hl) (fun j x v h1 h2=>hc (j+1) x v h1 h2) (fun x hx=>hr x (by simp[hx]))
     have hk:(Am.K.ptr=Am.K.ptr)=True:=by simp
     refine⟨Im',⟨.ptr,ps,(G.g n).b,(G.g n).o⟩::pas,by simp[b1],by simp[b2],fun i d u p hd hu fQ=>?_,fun p fQ pc aZ b hb=>?_,by simp[ld];exact b5,fun i p m hi hm=>?_,b7,b8,b9,lR⟩
     ·cases i with
      |zero=>
       simp at hd hu fQ
       subst hd hu fQ
       refine⟨by rw[p1],fun pc aZ=>(p3 pc aZ).1,hv,un.lt,fun j c hj=>v2 j _ ?_⟩
       rw[<-p2,List.getElem?_map,hj];rfl
      |succ i=>exact b3 i d u p (by simpa using hd) (by simpa using hu) (by simpa using fQ)
     ·cases fQ with
      |head=>exact b8.im b ((p3 pc aZ).2 b hb)
      |tail _ fQ=>exact b4 p fQ pc aZ b hb
     ·cases i with
      |zero=>
       simp[ld] at hi hm
       subst hi hm
       refine⟨cs,Md e hn,rfl,rfl,?_⟩
       have h1:ps.length=vs.length:=by rw[<-p2];simp
       exact h1.trans v1.1
      |succ i=>exact b6 i p m (by simpa[ld] using hi) (by simpa using hm)
    ·cases hx
   ·split at hx
    ·rename_i ag cs dP
     split at hx
     ·rename_i xs o σ1 e1
      split at hx
      ·rename_i yg jR Vh e2
       injection hx with hx
       injection hx with h1 h2
       injection h2 with h2 h3
       subst h1 h2 h3
       have h0:=hc 0 x v rfl rfl
       have dB:∃vs:List Value,(if ag=true then v=.agg vs.toArray else vs=[v])/\cA w G σ.h cs vs:=by
        cases x with
        |one c=>
         have N7:ag=false/\cs=[c]:=by cases c<;>simp[aj.cells?] at dP<;>exact⟨dP.1,dP.2.symm⟩
         obtain⟨rfl,rfl⟩:=N7
         rcases h0 with h0|h0
         ·subst h0;simp[aj.cells?] at dP
         ·exact⟨[v],rfl,h0⟩
        |agg cs'=>
         simp[aj.cells?] at dP
         obtain⟨rfl,rfl⟩:=dP
         obtain⟨vs,e,h1⟩:∃vs:List Value,v=.agg vs.toArray/\cA w G σ.h cs' vs:=h0
         exact⟨vs,e,h1⟩
        |bn xs=>simp[aj.cells?] at dP
       obtain⟨vs,iz,bN⟩:=dB
       obtain⟨xQ,bu,a1,a2,a3,a5,a6,a7,a8,a9⟩:=H.ft e1 bN (fun c' cj m hm=>hr x (by simp) m (aj.Ab dP cj hm))
       have vK:HR B E w ⟨xQ,G.g⟩ σ1.h σ.used []:=by
        cases o with
        |true=>exact HR.xy (tk:=[]) (l:=bu) (by simpa using a5)
        |false=>simpa using a5
       rw[<-a8] at vK
       obtain⟨CQ,pas,b1,b2,b3,b4,b5,b6,b7,b8,b9,lR⟩:=HR.hH (as:=as) (vals:=vals) (G:=⟨xQ,G.g⟩) vK e2 (by simpa using hl)
        (fun j x v h1 h2=>(hc (j+1) x v h1 h2).eM a6 (fun m hm=>hr x (by simp[List.mem_of_getElem? h1]) m hm)) (fun x' dU m hm=>by rw[a8];exact hr x' (by simp[dU]) m hm)
       refine⟨CQ,⟨if ag=true then .agg else .one,bu,0,0⟩::pas,by simp[b1],by simp[b2],fun i d u p hd hu fQ=>?_,fun p fQ pc aZ b hb=>?_,?_,fun i p m hi hm=>?_,b7,
        aW.trans (fun n hn=>by rw[a8];exact hn) a6 b8,b9.trans a7,lR.trans a8⟩
       ·cases i with
        |zero=>
         simp at hd hu fQ
         subst hd hu fQ
         cases ag with
         |true=>exact⟨by simp[a1],fun pc aZ=>(a3 pc aZ).1,by simp only[if_true] at iz⊢;rw[a2];exact iz⟩
         |false=>exact⟨by simp[a1],fun pc aZ=>(a3 pc aZ).1,by simp only[Bool.false_eq_true,if_false] at iz⊢;rw[a2];exact iz⟩
        |succ i=>exact b3 i d u p (by simpa using hd) (by simpa using hu) (by simpa using fQ)
       ·cases fQ with
        |head=>exact b8.im b ((a3 pc aZ).2 b hb)
        |tail _ fQ=>exact b4 p fQ pc aZ b hb
       ·cases ag<;>simp[ld]<;>exact b5
       ·refine b6 i p m ?_ hm
        cases ag<;>simpa[ld] using hi
      ·cases hx
     ·cases hx
    ·cases hx
theorem HR.VW (H:HR B E w G h used []) {n:Nat} {cs cs':List ai} (hn:h n=some (.box cs)) (bD:w.heap.size<=w'.heap.size) (hw:∀b,b<w.heap.size->b≠(G.g n).b->w'.heap[b]? =w.heap[b]?)
  (lv:∀b,b<w.heap.size->Cz w w' b) {S:Nat->Prop} (hS:∀b,S b->w.heap.size<=b/\b<w'.heap.size/\B<=b) {ps:List PC} (fG:cs'=ps.map fun pc=>ai.c pc.er)
  (bI:∀(j:Nat) (c:PC),ps[j]? =some c->w'.cell? (ad (G.g n).b ((G.g n).o+j))=some c.val) (gC:∀pc∈ps,Good w' pc/\∀b,aP b pc->G.Im b\/S b):
  HR B E w' ⟨fun b=>G.Im b\/S b,G.g⟩ (aw h n (some (.box cs'))) used []/\aW w G h (fun n=>used n=true) w' ⟨fun b=>G.Im b\/S b,G.g⟩ (aw h n (some (.box cs'))):=by
 subst fG
 have bJ:h n≠none:=by rw[hn];simp
 obtain⟨aM,sH,gN⟩:=H.box n cs hn
 obtain⟨rl,pP,rm⟩:=H.own n bJ aM
 have wD:=H.iS n bJ
 have kp:∀HS:List ai,aW w G h (fun n=>used n=true) w' G (aw h n (some (.box HS))):=by
  intro HS
  refine⟨fun _ h=>h,fun b hb x=>io (hw b (H.fI b hb) (fun he=>rl (he▸hb))) x,fun m hm h0=>?_,fun m gr sz xs hm h0=>?_⟩
  ·by_cases bz:m=n
   ·subst bz;exact⟨bJ,rfl,rfl,rfl,rfl,rfl⟩
   ·rw[bZ _ _ _ _ bz] at h0;exact⟨h0,rfl,rfl,rfl,rfl,rfl⟩
  ·by_cases bz:m=n
   ·subst bz;rw[bA] at h0;cases h0
   ·rw[bZ _ _ _ _ bz] at h0;exact⟨⟨gr,xs,h0⟩,fun k j pc h1 h2=>⟨pc,h1,rfl,h2⟩⟩
 have hG:(⟨G.Im,aw G.g n (G.g n)⟩:Gh)=G:=by rw[FI]
 have H1:HR B E w' ⟨G.Im,aw G.g n (G.g n)⟩ (aw h n (some (.box []))) used []:=by
  refine H.put (fun b hb ax=>hw b hb (ax aM)) bD (fun b hb hU=>(lv b hb).kg hU) (fun _ h=>h) wD (fun _=>⟨rl,pP,Nat.lt_of_lt_of_le rm bD⟩)
   (fun _ m hm h0 kx=>(H.inj m n h0 bJ hm kx aM)) (fun _ m gr sz xs hm h0 b hb=>H.live m gr sz xs h0 b hb n bJ aM) ?_ (by rw[hG];exact kp []) ?_
   (fun gr m sz xs hb=>by cases hb) (fun gr sz xs hb=>by cases hb) (fun gr m sz xs hb=>by cases hb) ?_
  ·intro HS c m hb hc hm
   injection hb with hb
   subst hb
   cases hc
  ·exact⟨aM,(lv _ rm).kg sH,fun j c hj=>by simp at hj⟩
  ·intro _ _ b hb
   obtain⟨m,gr,mo,sz,xs,hm,h0,cg⟩:=hb
   exact H.sr bJ aM h0 cg
 rw[hG] at H1
 have OO:∀m,aw h n (some (ar.box [])) m≠none->h m≠none:=fun m hm=>by
  by_cases bz:m=n
  ·subst bz;exact bJ
  ·rwa[bZ _ _ _ _ bz] at hm
 have H2:HR B E w' ⟨fun b=>G.Im b\/S b,G.g⟩ (aw h n (some (.box []))) used []:=H1.qb S (fun b hb=>(hS b hb).2.1) (fun b hb q hq hl he=>by have:=(hS b hb).1;have:=(H.own q (OO q hq) hl).2.2;omega)
  (fun b hb q gr sz xs hq hF=>by
   by_cases fi:q=n
   ·subst fi;rw[bA] at hq;cases hq
   ·rw[bZ _ _ _ _ fi] at hq
    have:=(hS b hb).1;have:=H.qC hq hF;omega) (fun b hb=>.inl (hS b hb).2.2)
 have hn2:aw h n (some (ar.box [])) n=some (.box []):=bA _ _ _
 have DY:aw h n (some (ar.box [])) n≠none:=by rw[hn2];simp
 have Yr:aw (aw h n (some (ar.box []))) n (some (.box (ps.map fun pc=>ai.c pc.er)))=aw h n (some (.box (ps.map fun pc=>ai.c pc.er))):=by
  funext m;simp only[jg];split<;>rfl
 have XC:(⟨fun b=>G.Im b\/S b,aw G.g n (G.g n)⟩:Gh)=⟨fun b=>G.Im b\/S b,G.g⟩:=by rw[FI]
 have K2:aW w' ⟨fun b=>G.Im b\/S b,G.g⟩ (aw h n (some (ar.box []))) (fun n=>used n=true) w' ⟨fun b=>G.Im b\/S b,G.g⟩ (aw h n (some (.box (ps.map fun pc=>ai.c pc.er)))):=by
  refine⟨fun _ h=>h,fun _ _ _=>rfl,fun m hm h0=>?_,fun m gr sz xs hm h0=>?_⟩
  ·refine⟨?_,rfl,rfl,rfl,rfl,rfl⟩
   by_cases bz:m=n
   ·subst bz;exact DY
   ·rw[bZ _ _ _ _ bz] at h0⊢;exact h0
  ·by_cases bz:m=n
   ·subst bz;rw[bA] at h0;cases h0
   ·rw[bZ _ _ _ _ bz] at h0;exact⟨⟨gr,xs,by rw[bZ _ _ _ _ bz];exact h0⟩,fun k j pc h1 h2=>⟨pc,h1,rfl,h2⟩⟩
 have H3:HR B E w' ⟨fun b=>G.Im b\/S b,aw G.g n (G.g n)⟩ (aw (aw h n (some (ar.box []))) n (some (.box (ps.map fun pc=>ai.c pc.er)))) used []:=by
  refine H2.put (w':=w') (fun _ _ _=>rfl) (Nat.le_refl _) (fun _ _ hU=>hU) (fun _ h=>h) wD (fun _=>⟨fun hi=>(H2.own n DY aM).1 hi,pP,Nat.lt_of_lt_of_le rm bD⟩)
   (fun _ m hm h0 kx=>H2.inj m n h0 DY hm kx aM) (fun _ m gr sz xs hm h0 b hb=>H2.live m gr sz xs h0 b hb n DY aM) ?_ (by rw[XC,Yr];exact K2) ?_
   (fun gr m sz xs hb=>by cases hb) (fun gr sz xs hb=>by cases hb) (fun gr m sz xs hb=>by cases hb) ?_
  ·intro HS c m hb hc hm
   injection hb with hb
   subst hb
   obtain⟨pc,_,rfl⟩:=List.mem_map.1 hc
   exact absurd hm id
  ·refine⟨aM,(lv _ rm).kg sH,fun j c hj=>?_⟩
   rw[List.getElem?_map] at hj
   cases hp:ps[j]? with
   |none=>rw[hp] at hj;cases hj
   |some pc=>
    rw[hp] at hj
    simp at hj
    subst hj
    obtain⟨g1,g2⟩:=gC pc (List.mem_of_getElem? hp)
    exact⟨pc.val,bI j pc hp,PC.ki pc,pc,rfl,rfl,g1,g2⟩
  ·intro _ _ b hb
   obtain⟨m,gr,mo,sz,xs,hm,h0,cg⟩:=hb
   exact H2.sr DY aM h0 cg
 rw[XC,Yr] at H3
 have K1:aW w G h (fun n=>used n=true) w' ⟨fun b=>G.Im b\/S b,G.g⟩ (aw h n (some (ar.box []))):=aW.trans (fun _ h=>h) (kp []) (aW.qb S _)
 exact⟨H3,aW.trans (fun _ h=>h) K1 K2⟩
theorem RR {σ1:St} {ns:List Nat} {out:List C} (hx:σ.rJ ns out=some σ1):(ns=[]/\out=[]/\σ1=σ)\/∃n cs,ns=[n]/\σ.h n=some (.box cs)/\cs.length=out.length/\σ1=σ.dc n (.box (out.map .c)):=by
 unfold St.rJ at hx
 split at hx
 ·injection hx with hx;exact .inl ⟨rfl,rfl,hx.symm⟩
 ·rename_i n
  split at hx
  ·rename_i cs hn
   split at hx
   ·rename_i hl
    injection hx with hx
    exact .inr ⟨n,cs,rfl,hn,hl,hx.symm⟩
   ·cases hx
  ·cases hx
 ·cases hx
theorem Wq {pas:List PA} {p:PA} (hp:p∈pas) (hk:p.k=.ptr):p∈ld pas:=List.mem_filter.2 ⟨hp,by simp[hk]⟩
theorem Wr:∀{pas:List PA},(ld pas).length<=1->∀{i j:Nat} {p q:PA},pas[i]? =some p->pas[j]? =some q->p.k=.ptr->q.k=.ptr->i=j
 |[],_,i,_,_,_,hi,_,_,_=>by simp at hi
 |x::pas,hl,i,j,p,q,hi,hj,hp,hq=>by
  by_cases hx:x.k=.ptr
  ·have hz:(ld pas).length=0:=by
    simp[ld,hx] at hl⊢
    exact hl
   have cb:∀y∈pas,y.k≠ .ptr:=fun y hy hk=>by
    have:=Wq hy hk
    rw[List.length_eq_zero_iff.1 hz] at this
    cases this
   cases i with
   |zero=>
    cases j with
    |zero=>rfl
    |succ j=>exact absurd hq (cb q (List.mem_of_getElem? (by simpa using hj)))
   |succ i=>exact absurd hp (cb p (List.mem_of_getElem? (by simpa using hi)))
  ·have dt:(ld pas).length<=1:=by simpa[ld,hx] using hl
   cases i with
   |zero=>simp at hi;subst hi;exact absurd hp hx
   |succ i=>
    cases j with
    |zero=>simp at hj;subst hj;exact absurd hq hx
    |succ j=>exact congrArg (·+1) (Wr dt (by simpa using hi) (by simpa using hj) hp hq)
theorem MK:∀{aR:List PA} {ls:List (Bool×List ai)},gL (aR.map fun p=>(p.k,p.ps.map PC.er))=some ls->ls=aR.map (fun p=>(decide (p.k=.agg),p.ps.map fun pc=>ai.c pc.er))/\∀p∈aR,p.k≠ .ptr
 |[],ls,h=>by simp only[List.map_nil,gL] at h;injection h with h;exact⟨h.symm,by simp⟩
 |⟨k,ps,b,o⟩::aR,ls,h=>by
  cases k with
  |ptr=>simp[gL] at h
  |one=>
   simp only[List.map_cons,gL] at h
   split at h
   ·rename_i y5 e
    injection h with h
    obtain⟨e1,e2⟩:=MK e
    refine⟨by rw[<-h,e1,List.map_map];rfl,fun p hp=>?_⟩
    cases hp with
    |head=>simp
    |tail _ hp=>exact e2 p hp
   ·cases h
  |agg=>
   simp only[List.map_cons,gL] at h
   split at h
   ·rename_i y5 e
    injection h with h
    obtain⟨e1,e2⟩:=MK e
    refine⟨by rw[<-h,e1,List.map_map];rfl,fun p hp=>?_⟩
    cases hp with
    |head=>simp
    |tail _ hp=>exact e2 p hp
   ·cases h
theorem am3 {ls:List (Bool×List ai)} {aR:List PA} (hlen:ls.length=aR.length)
  (hv:∀(j:Nat) (x:Bool×List ai) (p:PA),ls[j]? =some x->aR[j]? =some p->RV w G h x.1 x.2 (zj p)):RA w G h (lN ls) (zk aR):=by
 match ls,aR,hlen with
 |[],[],_=>exact⟨[],rfl,rfl,by simp⟩
 |[(ag,cs)],[p],_=>
  have h0:=hv 0 (ag,cs) p rfl rfl
  cases ag with
  |true=>exact h0
  |false=>
   have bN:cA w G h cs [zj p]:=h0
   match cs,bN.1 with
   |[c],_=>exact .inr h0
 |x::y::ls,p::q::aR,hl=>
  refine⟨(p::q::aR).map zj,rfl,by simpa using hl.symm,fun j x' u hj hu=>?_⟩
  rw[List.getElem?_map] at hu
  cases hp:(p::q::aR)[j]? with
  |none=>rw[hp] at hu;cases hu
  |some p'=>rw[hp] at hu;simp at hu;subst hu;exact hv j x' p' hj hp
theorem aef (r:R B E w0 N σ a w G) {T:bj} (hT:Gu P T) {f:FuncId} {as:List aj} {vals:List Value} {σ1:St} (hN:∀n,o.dst=some n->n<N)
  (bq:(execOp a.eval o).run P w=.ok (.enter f vals.toArray) w) (hl:vals.length=as.length)
  (yx:∀(j:Nat) (x:aj) (v:Value),as[j]? =some x->vals[j]? =some v->RA w G σ.h x v) (OP:∀x∈as,∀m,x.ref m->σ.used m=true)
  (hx:sj T o.dst f as σ=some σ1):o.wp P a w (Nx B E w0 N σ1) Q:=by
 unfold sj at hx
 split at hx
 ·rename_i ds ns oy M hba hM
  split at hx
  ·rename_i rs out uj
   split at hx
   ·rename_i mE pR
    obtain⟨Im',pas,b1,b2,b3,b4,b5,b6,b7,b8,b9,lR⟩:=r.hr.hH hba hl yx OP
    have hns:ns.length<=1:=by
     rcases RR pR with⟨h1,_⟩|⟨n,cs,h1,_⟩<;>rw[h1]<;>simp
    have lr:∀p∈pas,p.k=.ptr->∃n,ns=[n]/\Vj G oy.h p n:=by
     intro p hp hk
     obtain⟨i,hi⟩:=List.getElem?_of_mem (Wq hp hk)
     have bH:i<ns.length:=by rw[<-b5];exact(List.getElem?_eq_some_iff.1 hi).1
     have hn:ns[i]? =some ns[i]:=List.getElem?_eq_getElem bH
     have h0:i=0:=by omega
     subst h0
     refine⟨_,?_,b6 0 p _ hi hn⟩
     match ns,bH,hns with
     |[n],_,_=>rfl
    have va:L5 w ds vals pas:=by
     refine⟨b2,b1,b3,fun p hp hk=>?_,fun i j p q hi hj hp hq=>Wr (by omega) hi hj hp hq⟩
     obtain⟨n,_,cs,hn,e1,e2,e3⟩:=lr p hp hk
     obtain⟨nl,un,_⟩:=b7.box n cs hn
     have ho:=b7.own n (by rw[hn];simp) nl
     rw[e1]
     exact⟨un,fun q hq pc aZ hb=>ho.1 (b4 q hq pc aZ _ hb)⟩
    unfold Oper.wp
    rw[bq]
    refine(hT f M hM ds rs out uj w vals pas va).mono fun e w' ⟨aR,qs,p1,p2,p3,p4⟩=>?_
    subst p2
    have Yt:∀b,zT w pas b->Im' b\/w.heap.size<=b:=fun b hb=>by
     rcases hb with hb|⟨q,hq,pc,aZ,hb⟩
     ·exact .inr hb
     ·exact .inl (b4 q hq pc aZ b hb)
    let S:Nat->Prop:=fun b=>w.heap.size<=b/\((∃p∈aR,∃pc∈p.ps,aP b pc)\/∃pc∈qs,aP b pc)
    have hB:=r.fr.size
    have hS:∀b,S b->w.heap.size<=b/\b<w'.heap.size/\B<=b:=fun b ⟨h1,h2⟩=>by
     refine⟨h1,?_,Nat.le_trans hB h1⟩
     rcases h2 with⟨p,hp,pc,aZ,hb⟩|⟨pc,aZ,hb⟩
     ·exact(p4.eD p hp pc aZ).1.lt hb
     ·exact(p4.out pc aZ).1.lt hb
    have Xz:∀p∈aR,∀pc∈p.ps,Good w' pc/\∀b,aP b pc->Im' b\/S b:=fun p hp pc aZ=>by
     obtain⟨g1,g2⟩:=p4.eD p hp pc aZ
     exact⟨g1,fun b hb=>(Yt b (g2 b hb)).imp id fun h1=>⟨h1,.inl ⟨p,hp,pc,aZ,hb⟩⟩⟩
    have afO:∀pc∈qs,Good w' pc/\∀b,aP b pc->Im' b\/S b:=fun pc aZ=>by
     obtain⟨g1,g2⟩:=p4.out pc aZ
     exact⟨g1,fun b hb=>(Yt b (g2 b hb)).imp id fun h1=>⟨h1,.inr ⟨pc,aZ,hb⟩⟩⟩
    have aof:HR B E w' ⟨fun b=>Im' b\/S b,G.g⟩ mE.h mE.used []/\aW w ⟨Im',G.g⟩ oy.h (fun n=>oy.used n=true) w' ⟨fun b=>Im' b\/S b,G.g⟩ mE.h/\mE.env=oy.env/\mE.used=oy.used/\Fr B E w0 w':=by
     rcases RR pR with⟨h1,h2,h3⟩|⟨n,cs,h1,h2,h3,h4⟩
     ·subst h3
      have cb:∀p∈pas,p.k≠ .ptr:=fun p hp hk=>by
       obtain⟨n,e,_⟩:=lr p hp hk
       rw[h1] at e;cases e
      have gM:∀b,b<w.heap.size->w'.heap[b]? =w.heap[b]? :=fun b hb=>p4.fr.block b hb (fun⟨p,hp,hk,_⟩=>cb p hp hk)
      have Hg:=b7.grow gM p4.fr.size
      refine⟨Hg.qb S (fun b hb=>(hS b hb).2.1) (fun b hb q hq hl he=>by have:=(hS b hb).1;have:=(b7.own q hq hl).2.2;omega)
       (fun b hb q gr sz xs hq hF=>by have:=(hS b hb).1;have:=b7.qC hq hF;omega) (fun b hb=>.inl (hS b hb).2.2),
       aW.trans (fun _ h=>h) (aW.world (fun b hb=>gM b (b7.fI b hb)) _) (aW.qb S _),rfl,rfl,r.fr.grow gM p4.fr.size p4.fr.os p4.fr.tape p4.fr.output⟩
     ·subst h4
      obtain⟨p,hp,hk⟩:∃p∈pas,p.k=.ptr:=by
       have hlen:(ld pas).length=1:=by rw[b5,h1];rfl
       match hc:ld pas,hlen with
       |[p],_=>
        have hm:p∈ld pas:=by rw[hc];simp
        have:=List.mem_filter.1 hm
        exact⟨p,this.1,by simpa using this.2⟩
      obtain⟨n',e0,cs',bm,e1,e2,e3⟩:=lr p hp hk
      rw[h1] at e0
      injection e0 with e0
      subst e0
      have IV:∀q∈pas,q.k=.ptr->q=p:=fun q hq Ox=>by
       obtain⟨i,hi⟩:=List.getElem?_of_mem hq
       obtain⟨j,hj⟩:=List.getElem?_of_mem hp
       have:=va.one i j q p hi hj Ox hk
       subst this
       rw[hi] at hj
       injection hj
      have ho:=b7.own n (by rw[h2];simp) (b7.box n cs h2).1
      have gM:∀b,b<w.heap.size->b≠(G.g n).b->w'.heap[b]? =w.heap[b]? :=fun b hb ax=>p4.fr.block b hb (fun⟨q,hq,Ox,XM⟩=>by
       rw[IV q hq Ox,e1] at XM
       exact ax XM)
      have lv:∀b,b<w.heap.size->Cz w w' b:=fun b hb=>p4.fr.kg b hb
      obtain⟨Hb,Kb⟩:=b7.VW (cs':=out.map .c) h2 p4.fr.size gM lv hS (ps:=qs) (by rw[<-p3,List.map_map];rfl) (fun j c hj=>by
       have:=p4.at_ p hp hk j c hj
       rw[e1,e2] at this
       exact this) afO
      exact⟨Hb,Kb,rfl,rfl,r.fr.one ho.2.1 gM p4.fr.size (lv _ ho.2.2) p4.fr.os p4.fr.tape p4.fr.output⟩
    obtain⟨H2,K2,v1,v2,yE⟩:=aof
    have K0:aW w G σ.h (fun n=>σ.used n=true) w' ⟨fun b=>Im' b\/S b,G.g⟩ mE.h:=aW.trans (fun n hn=>by rw[lR];exact hn) b8 K2
    have r2:R B E w0 N mE a w' ⟨fun b=>Im' b\/S b,G.g⟩:=r.step (v1.trans b9) (fun m hm=>by rw[v2,lR];exact hm) K0 H2 yE
    have HU:∀{ls:List (Bool×List ai)},gL rs=some ls->σ1=mE.put o.dst (lN ls)->(match(Ending.returned (zk aR)) with|.returned v=>Nx B E w0 N σ1 (a.put o.dst v) w'|_=>True):=by
     intro ls AH hs
     subst hs
     rw[<-p1] at AH
     obtain⟨rfl,hnp⟩:=MK AH
     refine⟨_,r2.put (am3 (by simp) (fun j x p hj hp=>?_)) (fun q hq=>?_) hN⟩
     ·rw[List.getElem?_map,hp] at hj
      simp at hj
      subst hj
      have hm:=List.mem_of_getElem? hp
      have bN:cA w' ⟨fun b=>Im' b\/S b,G.g⟩ mE.h (p.ps.map fun pc=>ai.c pc.er) (p.ps.map PC.val):=by
       refine⟨by simp,fun j c u hj hu=>?_⟩
       rw[List.getElem?_map] at hj hu
       cases ma:p.ps[j]? with
       |none=>rw[ma] at hj;cases hj
       |some pc=>
        rw[ma] at hj hu
        simp at hj hu
        subst hj hu
        obtain⟨g1,g2⟩:=Xz p hm pc (List.mem_of_getElem? ma)
        exact⟨PC.ki pc,pc,rfl,rfl,g1,g2⟩
      have IJ:=p4.one p hm
      have X0:=hnp p hm
      obtain⟨k,ps,b,o'⟩:=p
      cases k with
      |ptr=>exact absurd rfl X0
      |agg=>exact⟨ps.map PC.val,rfl,bN⟩
      |one=>
       have h2:=IJ rfl
       match ps,h2 with
       |[p],_=>exact bN
     ·exfalso
      refine aa8 (fun x hx c hc hq=>?_) hq
      obtain⟨p,_,rfl⟩:=List.mem_map.1 hx
      obtain⟨pc,_,rfl⟩:=List.mem_map.1 hc
      exact hq
    unfold qN at hx
    split at hx
    ·rename_i cs
     split at hx
     ·rename_i q hq
      split at hx
      ·rename_i τ3 af6
       injection hx with hx
       subst hx
       obtain⟨u1,rfl⟩:=mg af6
       obtain⟨p,rfl⟩:∃p,aR=[p]:=by
        have h1:aR.length=1:=by have:=congrArg List.length p1;simpa using this
        exact List.length_eq_one_iff.1 h1
       simp at p1
       obtain⟨hk,dP⟩:=p1
       obtain⟨_,q1,q2,q3,q4,q5⟩:=p4.ptr p (by simp) hk
       subst dP
       have X9:oE ⟨fun b=>Im' b\/S b,G.g⟩ mE.h p.b:=by
        refine⟨fun hi=>?_,fun m hm hl he=>?_,fun m gr mo sz xs hm hF=>?_⟩
        ·rcases hi with hi|⟨_,hi⟩
         ·have:=b7.fI _ hi;omega
         ·rcases hi with⟨p',bd,pc,aZ,hb⟩|⟨pc,aZ,hb⟩
          ·simp at bd;subst bd;exact q4 pc aZ hb
          ·exact q5 pc aZ hb
        ·have hd:=H2.iS m hm
         obtain⟨k0,k1,k2,_⟩:=K2.name m (by rw[<-v2];exact hd) hm
         have dt:(G.g m).nl=false:=hl
         have:=(b7.own m k0 dt).2.2
         have IC:(G.g m).b=p.b:=he
         have h7:(⟨Im',G.g⟩:Gh).g m=G.g m:=rfl
         rw[h7] at this
         omega
        ·have hd:=H2.iS m (by rw[hm];simp)
         have jK:∃bk nc aK av,oy.h m=some (.row bk nc aK av):=by
          rcases RR pR with⟨h1,h2,h3⟩|⟨n,cs,h1,h2,h3,h4⟩
          ·subst h3;exact⟨_,_,_,_,hm⟩
          ·subst h4
           by_cases bz:m=n
           ·subst bz;have:aw oy.h m (some (ar.box (out.map ai.c))) m=_:=hm;rw[bA] at this;cases this
           ·have:aw oy.h n (some (ar.box (out.map ai.c))) m=_:=hm
            rw[bZ _ _ _ _ bz] at this
            exact⟨_,_,_,_,this⟩
         obtain⟨bk,nc,aK,av,bB⟩:=jK
         have hF':aS p.b (G.g m).px:=hF
         have:=b7.qC bB hF'
         omega
       have Hn:HR B E w' ⟨fun b=>Im' b\/S b,aw G.g q ⟨false,p.b,p.o,0,[],none⟩⟩ (aw mE.h q (some (.box ((p.ps.map PC.er).map .c)))) (aw mE.used q true) []:=by
        refine H2.insert (w':=w') u1 (fun _ _=>rfl) (Nat.le_refl _) (fun _=>⟨X9,.inl (Nat.le_trans hB q1),q2.lt⟩) (fun cs' c m hb cj hm=>?_) ⟨rfl,q2,fun j c hj=>?_⟩ (fun gr m sz xs hb=>by cases hb) (fun gr sz xs hb=>by cases hb) (fun gr m sz xs hb=>by cases hb)
        ·injection hb with hb
         subst hb
         obtain⟨x,_,rfl⟩:=List.mem_map.1 cj
         exact absurd hm id
        ·rw[List.getElem?_map,List.getElem?_map] at hj
         cases hp:p.ps[j]? with
         |none=>rw[hp] at hj;cases hj
         |some pc=>
          rw[hp] at hj
          simp at hj
          subst hj
          obtain⟨g1,g2⟩:=Xz p (by simp) pc (List.mem_of_getElem? hp)
          exact⟨pc.val,q3 j pc hp,PC.ki pc,pc,rfl,rfl,g1,g2⟩
       have r3:=r2.step (σ':={mE with h:=aw mE.h q (some (.box ((p.ps.map PC.er).map .c))),used:=aw mE.used q true}) rfl (fun m hm=>qI q m hm) (aW.insert H2 u1 (fun _ _=>rfl)) Hn yE
       have hv:zk [p]=.pointer (some (ad p.b p.o)):=by
        obtain⟨k,ps,b,o'⟩:=p
        simp only at hk
        subst hk
        rfl
       rw[hv]
       exact⟨_,r3.put (RA.gb (c:=.ptr q 0 0 0) rfl (show aw mE.h q _ q≠none->(aw G.g q _ q).nl=false/\_=_ from fun _=>by simp[bA])) (fun m hm=>by have bB:m=q:=hm;subst bB;exact bA _ _ _) hN⟩
      ·cases hx
     ·cases hx
    ·split at hx
     ·rename_i ls AH
      injection hx with hx
      exact HU AH hx.symm
     ·cases hx
   ·cases hx
  ·cases hx
 ·cases hx
theorem ad8 (r:R B E w0 N σ a w G) {T:bj} (hT:Gu P T) {f:FuncId} {xs:Array Operand} {ms:List MO} {ts:Array TypeId} {σ1:St} (hN:∀n,o.dst=some n->n<N)
  (ho:o.op=.call {callee:=.value (.func f),args:=xs,argTypes:=ts}) (hf:bM P f=true) (hm:h9 xs.toList ms=true)
  (hx:sj T o.dst f (ms.map σ.ev) σ=some σ1):o.wp P a w (Nx B E w0 N σ1) Q:=by
 obtain⟨e1,e2⟩:=r.Ap hm
 have OP:∀x∈ms.map σ.ev,∀m,x.ref m->σ.used m=true:=by
  have cr:∀{xs:List Operand} {ms:List MO},h9 xs ms=true->∀x∈ms.map σ.ev,∀m,x.ref m->σ.used m=true:=by
   intro xs ms
   induction ms generalizing xs with
   |nil=>intro _ x hx;simp at hx
   |cons m0 ms ih=>
    intro hc x hx m hm
    cases xs with
    |nil=>simp[h9] at hc
    |cons y ys=>
     simp only[h9,Bool.and_eq_true] at hc
     simp only[List.map_cons,List.mem_cons] at hx
     rcases hx with rfl|hx
     ·exact(r.ev hc.1).2 m hm
     ·exact ih hc.2 x hx m hm
  exact cr hm
 refine aef r hT (vals:=xs.toList.map a.eval) hN ?_ (by simpa using e1) e2 OP hx
 have he:(xs.toList.map a.eval).toArray=xs.map a.eval:=by apply Array.ext';simp
 rw[he]
 simp[execOp,ho,resolve,Deferred.ofValue,invoke,Act.eval,Ch hf]
theorem R.pH (r:R B E w0 N σ a w G) {p:ai} (hx:σ.pH p=some σ'):∃G',R B E w0 N σ' a w G'/\σ'.env=σ.env:=by
 unfold St.pH at hx
 split at hx
 ·rename_i n k sz off
  split at hx
  ·rename_i cs hn
   split at hx
   ·rename_i xs ow σ1 ht
    injection hx with hx
    subst hx
    obtain⟨vs,v1,v2⟩:=r.hr.HC hn
    obtain⟨xQ,bu,a1,a2,a3,a5,a6,a7,a8,a9⟩:=r.hr.ft ht v1 (fun c hc m hm=>r.hr.gy n cs c m hn hc hm)
    have vK:HR B E w ⟨xQ,G.g⟩ σ1.h σ.used []:=by
     cases ow with
     |true=>exact HR.xy (tk:=[]) (l:=bu) (by simpa using a5)
     |false=>simpa using a5
    have mP:=UW ht hn
    obtain⟨b1,b2⟩:=vK.VW (w':=w) (cs':=xs.map .c) mP (Nat.le_refl _) (fun _ _ _=>rfl) (fun b _=>Cz.refl w b) (S:=fun _=>False) (fun b hb=>hb.elim) (ps:=bu)
     (by rw[<-a1,List.map_map];rfl) (fun j c hj=>by
      have:=v2 j c.val (by rw[<-a2,List.getElem?_map,hj];rfl)
      exact this) (fun pc aZ=>⟨(a3 pc aZ).1,fun b hb=>.inl ((a3 pc aZ).2 b hb)⟩)
    have hk:=aW.trans (fun _ h=>h) a6 b2
    refine⟨_,r.step a7 (fun q hq=>by rw[show(σ1.dc n (.box (xs.map .c))).used=σ1.used from rfl,a8];exact hq) hk ?_ r.fr,a7⟩
    show HR B E w _ _ σ1.used []
    rw[a8]
    exact b1
   ·cases hx
  ·cases hx
 ·cases hx
theorem ael (r:R B E w0 N σ a w G) {t:TypeId} {x:Operand} {m:MO} {ag:Bool} {sz:Nat} {p:ai} {cs:List ai} (ho:o.op=.load t x) (hN:∀n,o.dst=some n->n<N)
  (hm:bw x m=true) (dA:pu P t ag sz=true) (hp:σ.ev m=.one p) (hf:σ.pH p=some σ') (hx:Am.loadAt σ'.h p sz=some cs):
  o.wp P a w (Nx B E w0 N (σ'.put o.dst (kQ ag cs))) Q:=by
 obtain⟨G',r',e⟩:=r.pH hf
 refine WU r' ho hN hm dA (p:=p) ?_ hx
 cases m with
 |t n=>simp only[St.ev] at hp⊢;rw[e];exact hp
 |k v=>exact hp
end
end Go.Am
