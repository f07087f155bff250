/- AmV: functions whose results may share, and that may change the cells of one pointer: what is said of them, and the caller's side of a call. No condition. -/
import Derived.Test.YtifmggmhdcdgbaaAmU
set_option linter.unusedVariables false
namespace Go.Am
structure Lw (w:World) (ds:List Dv) (vals:List Value) (pas:List PA):Prop where
 l1:vals.length=ds.length
 l2:pas.length=ds.length
 at_:∀(i:Nat) (d:Dv) (v:Value) (p:PA),ds[i]? =some d->vals[i]? =some v->pas[i]? =some p->zf w d v p
 jT:∀p∈pas,p.k=.ptr->da w p.b/\∀q∈pas,∀pc∈q.ps,¬aN p.b pc
 one:∀(i j:Nat) (p q:PA),pas[i]? =some p->pas[j]? =some q->p.k=.ptr->q.k=.ptr->i=j
def zw (w:World) (pas:List PA) (b:Nat):Prop:=w.heap.size<=b\/∃q∈pas,∃pc∈q.ps,aN b pc
def We (pas:List PA):Ex:=⟨fun b=>∃p∈pas,p.k=.ptr/\b=p.b,fun _=>none,fun _ _ h=>(by cases h),fun _=>True⟩
def yQ (p:PA):Value:=
 match p.k with
 |.one=>match p.ps with
  |[pc]=>pc.val
  |_=>.agg (p.ps.map PC.val).toArray
 |.agg=>.agg (p.ps.map PC.val).toArray
 |.ptr=>.pointer (some (ad p.b p.o))
def yR:List PA->Value
 |[p]=>yQ p
 |l=>.tuple (l.map yQ).toArray
def FF (w:World) (b o:Nat) (ps:List PC):Prop:=∀(j:Nat) (c:PC),ps[j]? =some c->w.cell? (ad b (o+j))=some c.val
structure Lv (w w':World) (pas aO:List PA) (qs:List PC):Prop where
 one:∀p∈aO,p.k=.one->p.ps.length=1
 ptr:∀p∈aO,p.k=.ptr->aO.length=1/\w.heap.size<=p.b/\da w' p.b/\FF w' p.b p.o p.ps/\(∀pc∈p.ps,¬aN p.b pc)/\∀pc∈qs,¬aN p.b pc
 dF:∀p∈aO,∀pc∈p.ps,Good w' pc/\∀b,aN b pc->zw w pas b
 fr:Fr w.heap.size (We pas) w w'
 out:∀pc∈qs,Good w' pc/\∀b,aN b pc->zw w pas b
 at_:∀p∈pas,p.k=.ptr->FF w' p.b p.o qs
def xr (P:Program) (f:FuncId) (M:List Dv->Option (List Dv×List C)):Prop:=
 ∀ds rs out,M ds=some (rs,out)->∀(w:World) (vals:List Value) (pas:List PA),Lw w ds vals pas->Calls P f vals.toArray w fun e w'=>
  ∃(aO:List PA) (qs:List PC),aO.map (fun p=>(p.k,p.ps.map PC.er))=rs/\e=.returned (yR aO)/\qs.map PC.er=out/\Lv w w' pas aO qs
def FJ (P:Program) (T:be):Prop:=∀f M,be.nk T.vs f=some M->xr P f M
section
variable {B:Nat} {E:Ex} {w0 w w':World} {G G':Gh} {N:Nat} {h h':Nat->Option ar} {used used':Nat->Bool} {tk:List PC}
variable {P:Program} {o:Oper} {a:Act} {σ σ':St} {Q:Exit->Act->World->Prop}
theorem HR.uf {c:ah} {x:C} {v:Value} (hx:Am.uf c=some x) (hc:RC w G h c v):∃pc:PC,pc.er=x/\pc.val=v/\Good w pc/\∀b,aN b pc->G.Im b:=by
 cases c with
 |c y=>
  simp only[Am.uf] at hx
  injection hx with hx
  subst hx
  exact hc
 |nil sz=>
  simp only[Am.uf] at hx
  split at hx
  ·rename_i d9
   injection hx with hx
   subst hx
   have cz:v=.slice none 0 0:=hc
   subst cz
   refine⟨.list sz none 0 [],by simp[PC.df],rfl,.nil _ _ _ d9,fun b hb=>?_⟩
   rw[aN.jP] at hb
   rcases hb with⟨hb,_⟩|⟨k,j,c,⟨e,he,_⟩,_⟩
   ·exact absurd rfl hb
   ·simp at he
  ·cases hx
 |_=>simp[Am.uf] at hx
theorem HR.lN:∀{cs:List ah} {xs:List C} {vs:List Value},Am.lN cs=some xs->cj w G h cs vs->∃ps:List PC,ps.map PC.er=xs/\ps.map PC.val=vs/\∀pc∈ps,Good w pc/\∀b,aN b pc->G.Im b
 |[],xs,vs,hx,hc=>by
  simp only[Am.lN] at hx
  injection hx with hx
  subst hx
  have:vs=[]:=List.eq_nil_of_length_eq_zero (by simpa using hc.1)
  subst this
  exact⟨[],rfl,rfl,by simp⟩
 |c::cs,xs,vs,hx,hc=>by
  simp only[Am.lN] at hx
  split at hx
  ·rename_i x au e1 e2
   injection hx with hx
   subst hx
   match vs,hc.1 with
   |v::vs,hl=>
    obtain⟨pc,a1,a2,a3,a4⟩:=HR.uf e1 (hc.2 0 c v rfl rfl).2
    obtain⟨ps,b1,b2,b3⟩:=HR.lN (vs:=vs) e2 ⟨by simpa using hl,fun j c u h1 h2=>hc.2 (j+1) c u h1 h2⟩
    refine⟨pc::ps,by simp[a1,b1],by simp[a2,b2],fun q hq=>?_⟩
    cases hq with
    |head=>exact⟨a3,a4⟩
    |tail _ hq=>exact b3 q hq
  ·cases hx
theorem HR.GV (H:HR B E w G h used tk) {n:Nat} {cs:List ah} (hn:h n=some (.box cs)):∃vs:List Value,cj w G h cs vs/\∀(j:Nat) (v:Value),vs[j]? =some v->w.cell? (ad (G.g n).b ((G.g n).o+j))=some v:=by
 obtain⟨_,_,a3⟩:=H.box n cs hn
 have hj:∀j:Fin cs.length,∃v,w.cell? (ad (G.g n).b ((G.g n).o+j.1))=some v/\v.oneCell'=true/\RC w G h cs[j.1] v:=fun j=>a3 j.1 _ (List.getElem?_eq_getElem j.2)
 refine⟨List.ofFn fun j=>Classical.choose (hj j),⟨by simp,fun j c u hc hu=>?_⟩,fun j v hv=>?_⟩
 ·obtain⟨hl,e⟩:=List.getElem?_eq_some_iff.1 hc
  rw[List.getElem?_ofFn,dif_pos hl] at hu
  injection hu with hu
  subst hu e
  exact(Classical.choose_spec (hj ⟨j,hl⟩)).2
 ·by_cases hl:j<cs.length
  ·rw[List.getElem?_ofFn,dif_pos hl] at hv
   injection hv with hv
   subst hv
   exact(Classical.choose_spec (hj ⟨j,hl⟩)).1
  ·rw[List.getElem?_eq_none (by simp;omega)] at hv;cases hv
theorem aoa {σ1:St} {c:ah} {x:C} {o:Bool} (hx:σ.fu c=some (x,o,σ1)) {n:Nat} {cs:List ah} (hn:σ.h n=some (.box cs)):σ1.h n=some (.box cs):=by
 cases c with
 |c y=>simp only[St.fu] at hx;injection hx with hx;injection hx with _ hx;injection hx with _ hx;subst hx;exact hn
 |nil sz=>
  simp only[St.fu] at hx
  split at hx
  ·injection hx with hx;injection hx with _ hx;injection hx with _ hx;subst hx;exact hn
  ·cases hx
 |sl q sz lo len=>
  simp only[St.fu] at hx
  split at hx
  ·rename_i gr m rs xs hq
   split at hx
   ·injection hx with hx;injection hx with _ hx;injection hx with _ hx;subst hx
    have aA:n≠q:=by rintro rfl;rw[hq] at hn;cases hn
    show av σ.h q none n=_
    rw[bS _ _ _ _ aA];exact hn
   ·cases hx
  ·cases hx
 |_=>simp[St.fu] at hx
theorem Up:∀{l:List ah} {σ σ1:St} {xs:List C} {o:Bool},σ.eY l=some (xs,o,σ1)->∀{n:Nat} {cs:List ah},σ.h n=some (.box cs)->σ1.h n=some (.box cs)
 |[],σ,σ1,xs,o,hx,n,cs,hn=>by simp only[St.eY] at hx;injection hx with hx;injection hx with _ hx;injection hx with _ hx;subst hx;exact hn
 |c::l,σ,σ2,xs,o,hx,n,cs,hn=>by
  simp only[St.eY] at hx
  split at hx
  ·rename_i x o1 σ1 e1
   split at hx
   ·rename_i au o2 UK e2
    injection hx with hx;injection hx with _ hx;injection hx with _ hx;subst hx
    exact Up e2 (aoa e1 hn)
   ·cases hx
  ·cases hx
theorem LD:∀{as:List ai} {σ σ1:St} {ds:List Dv} {ns:List Nat},σ.gL as=some (ds,ns,σ1)->∀{n:Nat} {cs:List ah},σ.h n=some (.box cs)->σ1.h n=some (.box cs)
 |[],σ,σ1,ds,ns,hx,n,cs,hn=>by simp only[St.gL] at hx;injection hx with hx;injection hx with _ hx;injection hx with _ hx;subst hx;exact hn
 |v::as,σ,σ2,ds,ns,hx,n,cs,hn=>by
  simp only[St.gL] at hx
  split at hx
  ·split at hx
   ·rename_i e
    injection hx with hx;injection hx with _ hx;injection hx with _ hx;subst hx
    exact LD e hn
   ·cases hx
  ·split at hx
   ·split at hx
    ·rename_i e1
     split at hx
     ·rename_i e2
      injection hx with hx;injection hx with _ hx;injection hx with _ hx;subst hx
      exact LD e2 (Up e1 hn)
     ·cases hx
    ·cases hx
   ·cases hx
def kM (pas:List PA):List PA:=pas.filter fun p=>decide (p.k=.ptr)
def UN (G:Gh) (h:Nat->Option ar) (p:PA) (n:Nat):Prop:=∃cs,h n=some (.box cs)/\p.b=(G.g n).b/\p.o=(G.g n).o/\p.ps.length=cs.length
theorem LH {v:ai} {n:Nat} {xs:List C} (hx:mr h v=some (n,xs)):∃sz cs,v=.one (.ptr n 0 sz 0)/\h n=some (.box cs)/\lN cs=some xs:=by
 unfold mr at hx
 split at hx
 ·rename_i q k sz off
  split at hx
  ·rename_i hc
   obtain⟨rfl,rfl⟩:=hc
   split at hx
   ·rename_i cs hq
    split at hx
    ·rename_i ys e
     injection hx with hx
     injection hx with h1 h2
     subst h1 h2
     exact⟨sz,cs,rfl,hq,e⟩
    ·cases hx
   ·cases hx
  ·cases hx
 ·cases hx
theorem HR.gL:∀{as:List ai} {vals:List Value} {σ σ1:St} {G:Gh} {ds:List Dv} {ns:List Nat},HR B E w G σ.h σ.used []->σ.gL as=some (ds,ns,σ1)->vals.length=as.length->
  (∀(j:Nat) (x:ai) (v:Value),as[j]? =some x->vals[j]? =some v->RA w G σ.h x v)->(∀x∈as,∀m,x.ref m->σ.used m=true)->
  ∃(Im':Nat->Prop) (pas:List PA),pas.length=ds.length/\vals.length=ds.length/\(∀(i:Nat) (d:Dv) (v:Value) (p:PA),ds[i]? =some d->vals[i]? =some v->pas[i]? =some p->zf w d v p)/\
   (∀p∈pas,∀pc∈p.ps,∀b,aN b pc->Im' b)/\(kM pas).length=ns.length/\(∀(i:Nat) (p:PA) (n:Nat),(kM pas)[i]? =some p->ns[i]? =some n->UN G σ1.h p n)/\
   HR B E w ⟨Im',G.g⟩ σ1.h σ1.used []/\aV w G σ.h (fun n=>σ.used n=true) w ⟨Im',G.g⟩ σ1.h/\σ1.env=σ.env/\σ1.used=σ.used
 |[],vals,σ,σ1,G,ds,ns,H,hx,hl,hc,hr=>by
  simp only[St.gL] at hx
  injection hx with hx
  injection hx with h1 h2
  injection h2 with h2 h3
  subst h1 h2 h3
  exact⟨G.Im,[],rfl,by simpa using hl,by simp,by simp,rfl,by simp[kM],H,aV.refl _ _ _ _,rfl,rfl⟩
 |x::as,vals,σ,σ2,G,ds,ns,H,hx,hl,hc,hr=>by
  match vals,hl with
  |v::vals,hl=>
   simp only[St.gL] at hx
   split at hx
   ·rename_i n xs hp
    split at hx
    ·rename_i xE jr σ1 e
     injection hx with hx
     injection hx with h1 h2
     injection h2 with h2 h3
     subst h1 h2 h3
     obtain⟨sz,cs,rfl,hn,pA⟩:=LH hp
     obtain⟨nl,un,_⟩:=H.box n cs hn
     obtain⟨vs,v1,v2⟩:=H.GV hn
     obtain⟨ps,p1,p2,p3⟩:=HR.lN pA v1
     have hv:v=.pointer (some (ad (G.g n).b (G.g n).o)):=by
      have h0:=hc 0 _ v rfl rfl
      rcases h0 with h0|h0
      ·cases h0
      ·have h1:RC w G σ.h (.ptr n 0 sz 0) v:=(h0.2 0 _ v rfl rfl).2
       simpa using(h1 (by rw[hn];simp)).2
     obtain⟨Im',pas,b1,b2,b3,b4,b5,b6,b7,b8,b9,j5⟩:=HR.gL (as:=as) (vals:=vals) H e (by simpa using hl) (fun j x v h1 h2=>hc (j+1) x v h1 h2) (fun x hx=>hr x (by simp[hx]))
     have hk:(Am.K.ptr=Am.K.ptr)=True:=by simp
     refine⟨Im',⟨.ptr,ps,(G.g n).b,(G.g n).o⟩::pas,by simp[b1],by simp[b2],fun i d u p hd hu fw=>?_,fun p fw pc aZ b hb=>?_,by simp[kM];exact b5,fun i p m hi hm=>?_,b7,b8,b9,j5⟩
     ·cases i with
      |zero=>
       simp at hd hu fw
       subst hd hu fw
       refine⟨by rw[p1],fun pc aZ=>(p3 pc aZ).1,hv,un.lt,fun j c hj=>v2 j _ ?_⟩
       rw[<-p2,List.getElem?_map,hj];rfl
      |succ i=>exact b3 i d u p (by simpa using hd) (by simpa using hu) (by simpa using fw)
     ·cases fw with
      |head=>exact b8.im b ((p3 pc aZ).2 b hb)
      |tail _ fw=>exact b4 p fw pc aZ b hb
     ·cases i with
      |zero=>
       simp[kM] at hi hm
       subst hi hm
       refine⟨cs,LD e hn,rfl,rfl,?_⟩
       have h1:ps.length=vs.length:=by rw[<-p2];simp
       exact h1.trans v1.1
      |succ i=>exact b6 i p m (by simpa[kM] using hi) (by simpa using hm)
    ·cases hx
   ·split at hx
    ·rename_i ag cs dG
     split at hx
     ·rename_i xs o σ1 e1
      split at hx
      ·rename_i xE jr UK e2
       injection hx with hx
       injection hx with h1 h2
       injection h2 with h2 h3
       subst h1 h2 h3
       have h0:=hc 0 x v rfl rfl
       have di:∃vs:List Value,(if ag=true then v=.agg vs.toArray else vs=[v])/\cj w G σ.h cs vs:=by
        cases x with
        |one c=>
         have Nz:ag=false/\cs=[c]:=by cases c<;>simp[ai.cells?] at dG<;>exact⟨dG.1,dG.2.symm⟩
         obtain⟨rfl,rfl⟩:=Nz
         rcases h0 with h0|h0
         ·subst h0;simp[ai.cells?] at dG
         ·exact⟨[v],rfl,h0⟩
        |agg cs'=>
         simp[ai.cells?] at dG
         obtain⟨rfl,rfl⟩:=dG
         obtain⟨vs,e,h1⟩:∃vs:List Value,v=.agg vs.toArray/\cj w G σ.h cs' vs:=h0
         exact⟨vs,e,h1⟩
        |bj xs=>simp[ai.cells?] at dG
       obtain⟨vs,g8,bI⟩:=di
       obtain⟨xl,bo,a1,a2,a3,a5,a6,a7,a8,a9⟩:=H.eY e1 bI (fun c' cz m hm=>hr x (by simp) m (ai.zI dG cz hm))
       have u9:HR B E w ⟨xl,G.g⟩ σ1.h σ.used []:=by
        cases o with
        |true=>exact HR.wX (tk:=[]) (l:=bo) (by simpa using a5)
        |false=>simpa using a5
       rw[<-a8] at u9
       obtain⟨Cf,pas,b1,b2,b3,b4,b5,b6,b7,b8,b9,j5⟩:=HR.gL (as:=as) (vals:=vals) (G:=⟨xl,G.g⟩) u9 e2 (by simpa using hl)
        (fun j x v h1 h2=>(hc (j+1) x v h1 h2).ek a6 (fun m hm=>hr x (by simp[List.mem_of_getElem? h1]) m hm)) (fun x' eg m hm=>by rw[a8];exact hr x' (by simp[eg]) m hm)
       refine⟨Cf,⟨if ag=true then .agg else .one,bo,0,0⟩::pas,by simp[b1],by simp[b2],fun i d u p hd hu fw=>?_,fun p fw pc aZ b hb=>?_,?_,fun i p m hi hm=>?_,b7,
        aV.trans (fun n hn=>by rw[a8];exact hn) a6 b8,b9.trans a7,j5.trans a8⟩
       ·cases i with
        |zero=>
         simp at hd hu fw
         subst hd hu fw
         cases ag with
         |true=>exact⟨by simp[a1],fun pc aZ=>(a3 pc aZ).1,by simp only[if_true] at g8⊢;rw[a2];exact g8⟩
         |false=>exact⟨by simp[a1],fun pc aZ=>(a3 pc aZ).1,by simp only[Bool.false_eq_true,if_false] at g8⊢;rw[a2];exact g8⟩
        |succ i=>exact b3 i d u p (by simpa using hd) (by simpa using hu) (by simpa using fw)
       ·cases fw with
        |head=>exact b8.im b ((a3 pc aZ).2 b hb)
        |tail _ fw=>exact b4 p fw pc aZ b hb
       ·cases ag<;>simp[kM]<;>exact b5
       ·refine b6 i p m ?_ hm
        cases ag<;>simpa[kM] using hi
      ·cases hx
     ·cases hx
    ·cases hx
theorem HR.Vo (H:HR B E w G h used []) {n:Nat} {cs cs':List ah} (hn:h n=some (.box cs)) (bA:w.heap.size<=w'.heap.size) (hw:∀b,b<w.heap.size->b≠(G.g n).b->w'.heap[b]? =w.heap[b]?)
  (kU:∀b,b<w.heap.size->Cz w w' b) {S:Nat->Prop} (hS:∀b,S b->w.heap.size<=b/\b<w'.heap.size/\B<=b) {ps:List PC} (fh:cs'=ps.map fun pc=>ah.c pc.er)
  (bZ:∀(j:Nat) (c:PC),ps[j]? =some c->w'.cell? (ad (G.g n).b ((G.g n).o+j))=some c.val) (gd:∀pc∈ps,Good w' pc/\∀b,aN b pc->G.Im b\/S b):
  HR B E w' ⟨fun b=>G.Im b\/S b,G.g⟩ (av h n (some (.box cs'))) used []/\aV w G h (fun n=>used n=true) w' ⟨fun b=>G.Im b\/S b,G.g⟩ (av h n (some (.box cs'))):=by
 subst fh
 have bF:h n≠none:=by rw[hn];simp
 obtain⟨aL,r7,gy⟩:=H.box n cs hn
 obtain⟨qN,pC,qO⟩:=H.own n bF aL
 have vL:=H.iq n bF
 have kp:∀Hh:List ah,aV w G h (fun n=>used n=true) w' G (av h n (some (.box Hh))):=by
  intro Hh
  refine⟨fun _ h=>h,fun b hb x=>gW (hw b (H.fk b hb) (fun he=>qN (he▸hb))) x,fun m hm h0=>?_,fun m gr sz xs hm h0=>?_⟩
  ·by_cases bu:m=n
   ·subst bu;exact⟨bF,rfl,rfl,rfl,rfl,rfl⟩
   ·rw[bS _ _ _ _ bu] at h0;exact⟨h0,rfl,rfl,rfl,rfl,rfl⟩
  ·by_cases bu:m=n
   ·subst bu;rw[bw] at h0;cases h0
   ·rw[bS _ _ _ _ bu] at h0;exact⟨⟨gr,xs,h0⟩,fun k j pc h1 h2=>⟨pc,h1,rfl,h2⟩⟩
 have hG:(⟨G.Im,av G.g n (G.g n)⟩:Gh)=G:=by rw[Fc]
 have H1:HR B E w' ⟨G.Im,av G.g n (G.g n)⟩ (av h n (some (.box []))) used []:=by
  refine H.put (fun b hb aA=>hw b hb (aA aL)) bA (fun b hb hU=>(kU b hb).jT hU) (fun _ h=>h) vL (fun _=>⟨qN,pC,Nat.lt_of_lt_of_le qO bA⟩)
   (fun _ m hm h0 kb=>(H.inj m n h0 bF hm kb aL)) (fun _ m gr sz xs hm h0 b hb=>H.live m gr sz xs h0 b hb n bF aL) ?_ (by rw[hG];exact kp []) ?_
   (fun gr m sz xs hb=>by cases hb) (fun gr sz xs hb=>by cases hb) (fun gr m sz xs hb=>by cases hb) ?_
  ·intro Hh c m hb hc hm
   injection hb with hb
   subst hb
   cases hc
  ·exact⟨aL,(kU _ qO).jT r7,fun j c hj=>by simp at hj⟩
  ·intro _ _ b hb
   obtain⟨m,gr,mo,sz,xs,hm,h0,bW⟩:=hb
   exact H.rR bF aL h0 bW
 rw[hG] at H1
 have N9:∀m,av h n (some (ar.box [])) m≠none->h m≠none:=fun m hm=>by
  by_cases bu:m=n
  ·subst bu;exact bF
  ·rwa[bS _ _ _ _ bu] at hm
 have H2:HR B E w' ⟨fun b=>G.Im b\/S b,G.g⟩ (av h n (some (.box []))) used []:=H1.pI S (fun b hb=>(hS b hb).2.1) (fun b hb q hq hl he=>by have:=(hS b hb).1;have:=(H.own q (N9 q hq) hl).2.2;omega)
  (fun b hb q gr sz xs hq hF=>by
   by_cases eS:q=n
   ·subst eS;rw[bw] at hq;cases hq
   ·rw[bS _ _ _ _ eS] at hq
    have:=(hS b hb).1;have:=H.qd hq hF;omega) (fun b hb=>.inl (hS b hb).2.2)
 have hn2:av h n (some (ar.box [])) n=some (.box []):=bw _ _ _
 have Dm:av h n (some (ar.box [])) n≠none:=by rw[hn2];simp
 have XJ:av (av h n (some (ar.box []))) n (some (.box (ps.map fun pc=>ah.c pc.er)))=av h n (some (.box (ps.map fun pc=>ah.c pc.er))):=by
  funext m;simp only[iE];split<;>rfl
 have WZ:(⟨fun b=>G.Im b\/S b,av G.g n (G.g n)⟩:Gh)=⟨fun b=>G.Im b\/S b,G.g⟩:=by rw[Fc]
 have K2:aV w' ⟨fun b=>G.Im b\/S b,G.g⟩ (av h n (some (ar.box []))) (fun n=>used n=true) w' ⟨fun b=>G.Im b\/S b,G.g⟩ (av h n (some (.box (ps.map fun pc=>ah.c pc.er)))):=by
  refine⟨fun _ h=>h,fun _ _ _=>rfl,fun m hm h0=>?_,fun m gr sz xs hm h0=>?_⟩
  ·refine⟨?_,rfl,rfl,rfl,rfl,rfl⟩
   by_cases bu:m=n
   ·subst bu;exact Dm
   ·rw[bS _ _ _ _ bu] at h0⊢;exact h0
  ·by_cases bu:m=n
   ·subst bu;rw[bw] at h0;cases h0
   ·rw[bS _ _ _ _ bu] at h0;exact⟨⟨gr,xs,by rw[bS _ _ _ _ bu];exact h0⟩,fun k j pc h1 h2=>⟨pc,h1,rfl,h2⟩⟩
 have H3:HR B E w' ⟨fun b=>G.Im b\/S b,av G.g n (G.g n)⟩ (av (av h n (some (ar.box []))) n (some (.box (ps.map fun pc=>ah.c pc.er)))) used []:=by
  refine H2.put (w':=w') (fun _ _ _=>rfl) (Nat.le_refl _) (fun _ _ hU=>hU) (fun _ h=>h) vL (fun _=>⟨fun hi=>(H2.own n Dm aL).1 hi,pC,Nat.lt_of_lt_of_le qO bA⟩)
   (fun _ m hm h0 kb=>H2.inj m n h0 Dm hm kb aL) (fun _ m gr sz xs hm h0 b hb=>H2.live m gr sz xs h0 b hb n Dm aL) ?_ (by rw[WZ,XJ];exact K2) ?_
   (fun gr m sz xs hb=>by cases hb) (fun gr sz xs hb=>by cases hb) (fun gr m sz xs hb=>by cases hb) ?_
  ·intro Hh c m hb hc hm
   injection hb with hb
   subst hb
   obtain⟨pc,_,rfl⟩:=List.mem_map.1 hc
   exact absurd hm id
  ·refine⟨aL,(kU _ qO).jT r7,fun j c hj=>?_⟩
   rw[List.getElem?_map] at hj
   cases hp:ps[j]? with
   |none=>rw[hp] at hj;cases hj
   |some pc=>
    rw[hp] at hj
    simp at hj
    subst hj
    obtain⟨g1,g2⟩:=gd pc (List.mem_of_getElem? hp)
    exact⟨pc.val,bZ j pc hp,PC.jU pc,pc,rfl,rfl,g1,g2⟩
  ·intro _ _ b hb
   obtain⟨m,gr,mo,sz,xs,hm,h0,bW⟩:=hb
   exact H2.rR Dm aL h0 bW
 rw[WZ,XJ] at H3
 have K1:aV w G h (fun n=>used n=true) w' ⟨fun b=>G.Im b\/S b,G.g⟩ (av h n (some (ar.box []))):=aV.trans (fun _ h=>h) (kp []) (aV.pI S _)
 exact⟨H3,aV.trans (fun _ h=>h) K1 K2⟩
theorem Ra {σ1:St} {ns:List Nat} {out:List C} (hx:σ.rj ns out=some σ1):(ns=[]/\out=[]/\σ1=σ)\/∃n cs,ns=[n]/\σ.h n=some (.box cs)/\cs.length=out.length/\σ1=σ.cX n (.box (out.map .c)):=by
 unfold St.rj at hx
 split at hx
 ·injection hx with hx;exact .inl ⟨rfl,rfl,hx.symm⟩
 ·rename_i n
  split at hx
  ·rename_i cs hn
   split at hx
   ·rename_i hl
    injection hx with hx
    exact .inr ⟨n,cs,rfl,hn,hl,hx.symm⟩
   ·cases hx
  ·cases hx
 ·cases hx
theorem VP {pas:List PA} {p:PA} (hp:p∈pas) (hk:p.k=.ptr):p∈kM pas:=List.mem_filter.2 ⟨hp,by simp[hk]⟩
theorem VQ:∀{pas:List PA},(kM pas).length<=1->∀{i j:Nat} {p q:PA},pas[i]? =some p->pas[j]? =some q->p.k=.ptr->q.k=.ptr->i=j
 |[],_,i,_,_,_,hi,_,_,_=>by simp at hi
 |x::pas,hl,i,j,p,q,hi,hj,hp,hq=>by
  by_cases hx:x.k=.ptr
  ·have hz:(kM pas).length=0:=by
    simp[kM,hx] at hl⊢
    exact hl
   have ca:∀y∈pas,y.k≠ .ptr:=fun y hy hk=>by
    have:=VP hy hk
    rw[List.length_eq_zero_iff.1 hz] at this
    cases this
   cases i with
   |zero=>
    cases j with
    |zero=>rfl
    |succ j=>exact absurd hq (ca q (List.mem_of_getElem? (by simpa using hj)))
   |succ i=>exact absurd hp (ca p (List.mem_of_getElem? (by simpa using hi)))
  ·have dm:(kM pas).length<=1:=by simpa[kM,hx] using hl
   cases i with
   |zero=>simp at hi;subst hi;exact absurd hp hx
   |succ i=>
    cases j with
    |zero=>simp at hj;subst hj;exact absurd hq hx
    |succ j=>exact congrArg (·+1) (VQ dm (by simpa using hi) (by simpa using hj) hp hq)
theorem Md:∀{aO:List PA} {ls:List (Bool×List ah)},gw (aO.map fun p=>(p.k,p.ps.map PC.er))=some ls->ls=aO.map (fun p=>(decide (p.k=.agg),p.ps.map fun pc=>ah.c pc.er))/\∀p∈aO,p.k≠ .ptr
 |[],ls,h=>by simp only[List.map_nil,gw] at h;injection h with h;exact⟨h.symm,by simp⟩
 |⟨k,ps,b,o⟩::aO,ls,h=>by
  cases k with
  |ptr=>simp[gw] at h
  |one=>
   simp only[List.map_cons,gw] at h
   split at h
   ·rename_i yE e
    injection h with h
    obtain⟨e1,e2⟩:=Md e
    refine⟨by rw[<-h,e1,List.map_map];rfl,fun p hp=>?_⟩
    cases hp with
    |head=>simp
    |tail _ hp=>exact e2 p hp
   ·cases h
  |agg=>
   simp only[List.map_cons,gw] at h
   split at h
   ·rename_i yE e
    injection h with h
    obtain⟨e1,e2⟩:=Md e
    refine⟨by rw[<-h,e1,List.map_map];rfl,fun p hp=>?_⟩
    cases hp with
    |head=>simp
    |tail _ hp=>exact e2 p hp
   ·cases h
theorem amK {ls:List (Bool×List ah)} {aO:List PA} (hlen:ls.length=aO.length)
  (hv:∀(j:Nat) (x:Bool×List ah) (p:PA),ls[j]? =some x->aO[j]? =some p->RV w G h x.1 x.2 (yQ p)):RA w G h (lp ls) (yR aO):=by
 match ls,aO,hlen with
 |[],[],_=>exact⟨[],rfl,rfl,by simp⟩
 |[(ag,cs)],[p],_=>
  have h0:=hv 0 (ag,cs) p rfl rfl
  cases ag with
  |true=>exact h0
  |false=>
   have bI:cj w G h cs [yQ p]:=h0
   match cs,bI.1 with
   |[c],_=>exact .inr h0
 |x::y::ls,p::q::aO,hl=>
  refine⟨(p::q::aO).map yQ,rfl,by simpa using hl.symm,fun j x' u hj hu=>?_⟩
  rw[List.getElem?_map] at hu
  cases hp:(p::q::aO)[j]? with
  |none=>rw[hp] at hu;cases hu
  |some p'=>rw[hp] at hu;simp at hu;subst hu;exact hv j x' p' hj hp
theorem adF (r:R B E w0 N σ a w G) {T:be} (hT:FJ P T) {f:FuncId} {as:List ai} {vals:List Value} {σ1:St} (hN:∀n,o.dst=some n->n<N)
  (bm:(execOp a.eval o).run P w=.ok (.enter f vals.toArray) w) (hl:vals.length=as.length)
  (xU:∀(j:Nat) (x:ai) (v:Value),as[j]? =some x->vals[j]? =some v->RA w G σ.h x v) (Oa:∀x∈as,∀m,x.ref m->σ.used m=true)
  (hx:rN T o.dst f as σ=some σ1):o.wp P a w (Nx B E w0 N σ1) Q:=by
 unfold rN at hx
 split at hx
 ·rename_i ds ns nV M hba hM
  split at hx
  ·rename_i rs out tD
   split at hx
   ·rename_i mf pD
    obtain⟨Im',pas,b1,b2,b3,b4,b5,b6,b7,b8,b9,j5⟩:=r.hr.gL hba hl xU Oa
    have hns:ns.length<=1:=by
     rcases Ra pD with⟨h1,_⟩|⟨n,cs,h1,_⟩<;>rw[h1]<;>simp
    have kT:∀p∈pas,p.k=.ptr->∃n,ns=[n]/\UN G nV.h p n:=by
     intro p hp hk
     obtain⟨i,hi⟩:=List.getElem?_of_mem (VP hp hk)
     have bN:i<ns.length:=by rw[<-b5];exact(List.getElem?_eq_some_iff.1 hi).1
     have hn:ns[i]? =some ns[i]:=List.getElem?_eq_getElem bN
     have h0:i=0:=by omega
     subst h0
     refine⟨_,?_,b6 0 p _ hi hn⟩
     match ns,bN,hns with
     |[n],_,_=>rfl
    have va:Lw w ds vals pas:=by
     refine⟨b2,b1,b3,fun p hp hk=>?_,fun i j p q hi hj hp hq=>VQ (by omega) hi hj hp hq⟩
     obtain⟨n,_,cs,hn,e1,e2,e3⟩:=kT p hp hk
     obtain⟨nl,un,_⟩:=b7.box n cs hn
     have ho:=b7.own n (by rw[hn];simp) nl
     rw[e1]
     exact⟨un,fun q hq pc aZ hb=>ho.1 (b4 q hq pc aZ _ hb)⟩
    unfold Oper.wp
    rw[bm]
    refine(hT f M hM ds rs out tD w vals pas va).mono fun e w' ⟨aO,qs,p1,p2,p3,p4⟩=>?_
    subst p2
    have XL:∀b,zw w pas b->Im' b\/w.heap.size<=b:=fun b hb=>by
     rcases hb with hb|⟨q,hq,pc,aZ,hb⟩
     ·exact .inr hb
     ·exact .inl (b4 q hq pc aZ b hb)
    let S:Nat->Prop:=fun b=>w.heap.size<=b/\((∃p∈aO,∃pc∈p.ps,aN b pc)\/∃pc∈qs,aN b pc)
    have hB:=r.fr.size
    have hS:∀b,S b->w.heap.size<=b/\b<w'.heap.size/\B<=b:=fun b ⟨h1,h2⟩=>by
     refine⟨h1,?_,Nat.le_trans hB h1⟩
     rcases h2 with⟨p,hp,pc,aZ,hb⟩|⟨pc,aZ,hb⟩
     ·exact(p4.dF p hp pc aZ).1.lt hb
     ·exact(p4.out pc aZ).1.lt hb
    have WX:∀p∈aO,∀pc∈p.ps,Good w' pc/\∀b,aN b pc->Im' b\/S b:=fun p hp pc aZ=>by
     obtain⟨g1,g2⟩:=p4.dF p hp pc aZ
     exact⟨g1,fun b hb=>(XL b (g2 b hb)).imp id fun h1=>⟨h1,.inl ⟨p,hp,pc,aZ,hb⟩⟩⟩
    have afl:∀pc∈qs,Good w' pc/\∀b,aN b pc->Im' b\/S b:=fun pc aZ=>by
     obtain⟨g1,g2⟩:=p4.out pc aZ
     exact⟨g1,fun b hb=>(XL b (g2 b hb)).imp id fun h1=>⟨h1,.inr ⟨pc,aZ,hb⟩⟩⟩
    have anU:HR B E w' ⟨fun b=>Im' b\/S b,G.g⟩ mf.h mf.used []/\aV w ⟨Im',G.g⟩ nV.h (fun n=>nV.used n=true) w' ⟨fun b=>Im' b\/S b,G.g⟩ mf.h/\mf.env=nV.env/\mf.used=nV.used/\Fr B E w0 w':=by
     rcases Ra pD with⟨h1,h2,h3⟩|⟨n,cs,h1,h2,h3,h4⟩
     ·subst h3
      have ca:∀p∈pas,p.k≠ .ptr:=fun p hp hk=>by
       obtain⟨n,e,_⟩:=kT p hp hk
       rw[h1] at e;cases e
      have gx:∀b,b<w.heap.size->w'.heap[b]? =w.heap[b]? :=fun b hb=>p4.fr.block b hb (fun⟨p,hp,hk,_⟩=>ca p hp hk)
      have Hg:=b7.grow gx p4.fr.size
      refine⟨Hg.pI S (fun b hb=>(hS b hb).2.1) (fun b hb q hq hl he=>by have:=(hS b hb).1;have:=(b7.own q hq hl).2.2;omega)
       (fun b hb q gr sz xs hq hF=>by have:=(hS b hb).1;have:=b7.qd hq hF;omega) (fun b hb=>.inl (hS b hb).2.2),
       aV.trans (fun _ h=>h) (aV.world (fun b hb=>gx b (b7.fk b hb)) _) (aV.pI S _),rfl,rfl,r.fr.grow gx p4.fr.size p4.fr.os p4.fr.tape p4.fr.output⟩
     ·subst h4
      obtain⟨p,hp,hk⟩:∃p∈pas,p.k=.ptr:=by
       have hlen:(kM pas).length=1:=by rw[b5,h1];rfl
       match hc:kM pas,hlen with
       |[p],_=>
        have hm:p∈kM pas:=by rw[hc];simp
        have:=List.mem_filter.1 hm
        exact⟨p,this.1,by simpa using this.2⟩
      obtain⟨n',e0,cs',bh,e1,e2,e3⟩:=kT p hp hk
      rw[h1] at e0
      injection e0 with e0
      subst e0
      have Ij:∀q∈pas,q.k=.ptr->q=p:=fun q hq NT=>by
       obtain⟨i,hi⟩:=List.getElem?_of_mem hq
       obtain⟨j,hj⟩:=List.getElem?_of_mem hp
       have:=va.one i j q p hi hj NT hk
       subst this
       rw[hi] at hj
       injection hj
      have ho:=b7.own n (by rw[h2];simp) (b7.box n cs h2).1
      have gx:∀b,b<w.heap.size->b≠(G.g n).b->w'.heap[b]? =w.heap[b]? :=fun b hb aA=>p4.fr.block b hb (fun⟨q,hq,NT,W7⟩=>by
       rw[Ij q hq NT,e1] at W7
       exact aA W7)
      have kU:∀b,b<w.heap.size->Cz w w' b:=fun b hb=>p4.fr.jT b hb
      obtain⟨Hb,Kb⟩:=b7.Vo (cs':=out.map .c) h2 p4.fr.size gx kU hS (ps:=qs) (by rw[<-p3,List.map_map];rfl) (fun j c hj=>by
       have:=p4.at_ p hp hk j c hj
       rw[e1,e2] at this
       exact this) afl
      exact⟨Hb,Kb,rfl,rfl,r.fr.one ho.2.1 gx p4.fr.size (kU _ ho.2.2) p4.fr.os p4.fr.tape p4.fr.output⟩
    obtain⟨H2,K2,v1,v2,x6⟩:=anU
    have K0:aV w G σ.h (fun n=>σ.used n=true) w' ⟨fun b=>Im' b\/S b,G.g⟩ mf.h:=aV.trans (fun n hn=>by rw[j5];exact hn) b8 K2
    have r2:R B E w0 N mf a w' ⟨fun b=>Im' b\/S b,G.g⟩:=r.step (v1.trans b9) (fun m hm=>by rw[v2,j5];exact hm) K0 H2 x6
    have Hj:∀{ls:List (Bool×List ah)},gw rs=some ls->σ1=mf.put o.dst (lp ls)->(match(Ending.returned (yR aO)) with|.returned v=>Nx B E w0 N σ1 (a.put o.dst v) w'|_=>True):=by
     intro ls Af hs
     subst hs
     rw[<-p1] at Af
     obtain⟨rfl,hnp⟩:=Md Af
     refine⟨_,r2.put (amK (by simp) (fun j x p hj hp=>?_)) (fun q hq=>?_) hN⟩
     ·rw[List.getElem?_map,hp] at hj
      simp at hj
      subst hj
      have hm:=List.mem_of_getElem? hp
      have bI:cj w' ⟨fun b=>Im' b\/S b,G.g⟩ mf.h (p.ps.map fun pc=>ah.c pc.er) (p.ps.map PC.val):=by
       refine⟨by simp,fun j c u hj hu=>?_⟩
       rw[List.getElem?_map] at hj hu
       cases lH:p.ps[j]? with
       |none=>rw[lH] at hj;cases hj
       |some pc=>
        rw[lH] at hj hu
        simp at hj hu
        subst hj hu
        obtain⟨g1,g2⟩:=WX p hm pc (List.mem_of_getElem? lH)
        exact⟨PC.jU pc,pc,rfl,rfl,g1,g2⟩
      have H8:=p4.one p hm
      have Xm:=hnp p hm
      obtain⟨k,ps,b,o'⟩:=p
      cases k with
      |ptr=>exact absurd rfl Xm
      |agg=>exact⟨ps.map PC.val,rfl,bI⟩
      |one=>
       have h2:=H8 rfl
       match ps,h2 with
       |[p],_=>exact bI
     ·exfalso
      refine aaq (fun x hx c hc hq=>?_) hq
      obtain⟨p,_,rfl⟩:=List.mem_map.1 hx
      obtain⟨pc,_,rfl⟩:=List.mem_map.1 hc
      exact hq
    unfold qq at hx
    split at hx
    ·rename_i cs
     split at hx
     ·rename_i q hq
      split at hx
      ·rename_i τ3 afF
       injection hx with hx
       subst hx
       obtain⟨u1,rfl⟩:=lO afF
       obtain⟨p,rfl⟩:∃p,aO=[p]:=by
        have h1:aO.length=1:=by have:=congrArg List.length p1;simpa using this
        exact List.length_eq_one_iff.1 h1
       simp at p1
       obtain⟨hk,dG⟩:=p1
       obtain⟨_,q1,q2,q3,q4,q5⟩:=p4.ptr p (by simp) hk
       subst dG
       have Xr:n3 ⟨fun b=>Im' b\/S b,G.g⟩ mf.h p.b:=by
        refine⟨fun hi=>?_,fun m hm hl he=>?_,fun m gr mo sz xs hm hF=>?_⟩
        ·rcases hi with hi|⟨_,hi⟩
         ·have:=b7.fk _ hi;omega
         ·rcases hi with⟨p',bc,pc,aZ,hb⟩|⟨pc,aZ,hb⟩
          ·simp at bc;subst bc;exact q4 pc aZ hb
          ·exact q5 pc aZ hb
        ·have hd:=H2.iq m hm
         obtain⟨k0,k1,k2,_⟩:=K2.name m (by rw[<-v2];exact hd) hm
         have dm:(G.g m).nl=false:=hl
         have:=(b7.own m k0 dm).2.2
         have HZ:(G.g m).b=p.b:=he
         have h7:(⟨Im',G.g⟩:Gh).g m=G.g m:=rfl
         rw[h7] at this
         omega
        ·have hd:=H2.iq m (by rw[hm];simp)
         have jh:∃bf mT aK au,nV.h m=some (.row bf mT aK au):=by
          rcases Ra pD with⟨h1,h2,h3⟩|⟨n,cs,h1,h2,h3,h4⟩
          ·subst h3;exact⟨_,_,_,_,hm⟩
          ·subst h4
           by_cases bu:m=n
           ·subst bu;have:av nV.h m (some (ar.box (out.map ah.c))) m=_:=hm;rw[bw] at this;cases this
           ·have:av nV.h n (some (ar.box (out.map ah.c))) m=_:=hm
            rw[bS _ _ _ _ bu] at this
            exact⟨_,_,_,_,this⟩
         obtain⟨bf,mT,aK,au,bz⟩:=jh
         have hF':aR p.b (G.g m).px:=hF
         have:=b7.qd bz hF'
         omega
       have Hn:HR B E w' ⟨fun b=>Im' b\/S b,av G.g q ⟨false,p.b,p.o,0,[],none⟩⟩ (av mf.h q (some (.box ((p.ps.map PC.er).map .c)))) (av mf.used q true) []:=by
        refine H2.insert (w':=w') u1 (fun _ _=>rfl) (Nat.le_refl _) (fun _=>⟨Xr,.inl (Nat.le_trans hB q1),q2.lt⟩) (fun cs' c m hb cz hm=>?_) ⟨rfl,q2,fun j c hj=>?_⟩ (fun gr m sz xs hb=>by cases hb) (fun gr sz xs hb=>by cases hb) (fun gr m sz xs hb=>by cases hb)
        ·injection hb with hb
         subst hb
         obtain⟨x,_,rfl⟩:=List.mem_map.1 cz
         exact absurd hm id
        ·rw[List.getElem?_map,List.getElem?_map] at hj
         cases hp:p.ps[j]? with
         |none=>rw[hp] at hj;cases hj
         |some pc=>
          rw[hp] at hj
          simp at hj
          subst hj
          obtain⟨g1,g2⟩:=WX p (by simp) pc (List.mem_of_getElem? hp)
          exact⟨pc.val,q3 j pc hp,PC.jU pc,pc,rfl,rfl,g1,g2⟩
       have r3:=r2.step (σ':={mf with h:=av mf.h q (some (.box ((p.ps.map PC.er).map .c))),used:=av mf.used q true}) rfl (fun m hm=>qj q m hm) (aV.insert H2 u1 (fun _ _=>rfl)) Hn x6
       have hv:yR [p]=.pointer (some (ad p.b p.o)):=by
        obtain⟨k,ps,b,o'⟩:=p
        simp only at hk
        subst hk
        rfl
       rw[hv]
       exact⟨_,r3.put (RA.fQ (c:=.ptr q 0 0 0) rfl (show av mf.h q _ q≠none->(av G.g q _ q).nl=false/\_=_ from fun _=>by simp[bw])) (fun m hm=>by have bz:m=q:=hm;subst bz;exact bw _ _ _) hN⟩
      ·cases hx
     ·cases hx
    ·split at hx
     ·rename_i ls Af
      injection hx with hx
      exact Hj Af hx.symm
     ·cases hx
   ·cases hx
  ·cases hx
 ·cases hx
theorem ady (r:R B E w0 N σ a w G) {T:be} (hT:FJ P T) {f:FuncId} {xs:Array Operand} {ms:List MO} {ts:Array TypeId} {σ1:St} (hN:∀n,o.dst=some n->n<N)
  (ho:o.op=.call {callee:=.value (.func f),args:=xs,argTypes:=ts}) (hf:bD P f=true) (hm:gN xs.toList ms=true)
  (hx:rN T o.dst f (ms.map σ.ev) σ=some σ1):o.wp P a w (Nx B E w0 N σ1) Q:=by
 obtain⟨e1,e2⟩:=r.zU hm
 have Oa:∀x∈ms.map σ.ev,∀m,x.ref m->σ.used m=true:=by
  have cq:∀{xs:List Operand} {ms:List MO},gN xs ms=true->∀x∈ms.map σ.ev,∀m,x.ref m->σ.used m=true:=by
   intro xs ms
   induction ms generalizing xs with
   |nil=>intro _ x hx;simp at hx
   |cons m0 ms ih=>
    intro hc x hx m hm
    cases xs with
    |nil=>simp[gN] at hc
    |cons y ys=>
     simp only[gN,Bool.and_eq_true] at hc
     simp only[List.map_cons,List.mem_cons] at hx
     rcases hx with rfl|hx
     ·exact(r.ev hc.1).2 m hm
     ·exact ih hc.2 x hx m hm
  exact cq hm
 refine adF r hT (vals:=xs.toList.map a.eval) hN ?_ (by simpa using e1) e2 Oa hx
 have he:(xs.toList.map a.eval).toArray=xs.map a.eval:=by apply Array.ext';simp
 rw[he]
 simp[execOp,ho,resolve,Deferred.ofValue,invoke,Act.eval,BG hf]
theorem R.pt (r:R B E w0 N σ a w G) {p:ah} (hx:σ.pt p=some σ'):∃G',R B E w0 N σ' a w G'/\σ'.env=σ.env:=by
 unfold St.pt at hx
 split at hx
 ·rename_i n k sz off
  split at hx
  ·rename_i cs hn
   split at hx
   ·rename_i xs ow σ1 ht
    injection hx with hx
    subst hx
    obtain⟨vs,v1,v2⟩:=r.hr.GV hn
    obtain⟨xl,bo,a1,a2,a3,a5,a6,a7,a8,a9⟩:=r.hr.eY ht v1 (fun c hc m hm=>r.hr.f8 n cs c m hn hc hm)
    have u9:HR B E w ⟨xl,G.g⟩ σ1.h σ.used []:=by
     cases ow with
     |true=>exact HR.wX (tk:=[]) (l:=bo) (by simpa using a5)
     |false=>simpa using a5
    have mH:=Up ht hn
    obtain⟨b1,b2⟩:=u9.Vo (w':=w) (cs':=xs.map .c) mH (Nat.le_refl _) (fun _ _ _=>rfl) (fun b _=>Cz.refl w b) (S:=fun _=>False) (fun b hb=>hb.elim) (ps:=bo)
     (by rw[<-a1,List.map_map];rfl) (fun j c hj=>by
      have:=v2 j c.val (by rw[<-a2,List.getElem?_map,hj];rfl)
      exact this) (fun pc aZ=>⟨(a3 pc aZ).1,fun b hb=>.inl ((a3 pc aZ).2 b hb)⟩)
    have hk:=aV.trans (fun _ h=>h) a6 b2
    refine⟨_,r.step a7 (fun q hq=>by rw[show(σ1.cX n (.box (xs.map .c))).used=σ1.used from rfl,a8];exact hq) hk ?_ r.fr,a7⟩
    show HR B E w _ _ σ1.used []
    rw[a8]
    exact b1
   ·cases hx
  ·cases hx
 ·cases hx
theorem adL (r:R B E w0 N σ a w G) {t:TypeId} {x:Operand} {m:MO} {ag:Bool} {sz:Nat} {p:ah} {cs:List ah} (ho:o.op=.load t x) (hN:∀n,o.dst=some n->n<N)
  (hm:bq x m=true) (dg:pf P t ag sz=true) (hp:σ.ev m=.one p) (hf:σ.pt p=some σ') (hx:Am.loadAt σ'.h p sz=some cs):
  o.wp P a w (Nx B E w0 N (σ'.put o.dst (kC ag cs))) Q:=by
 obtain⟨G',r',e⟩:=r.pt hf
 refine Wj r' ho hN hm dg (p:=p) ?_ hx
 cases m with
 |t n=>simp only[St.ev] at hp⊢;rw[e];exact hp
 |k v=>exact hp
end
end Go.Am
