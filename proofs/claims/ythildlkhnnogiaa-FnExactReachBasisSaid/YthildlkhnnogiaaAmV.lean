/- AmV: functions whose results may share, and that may change the cells of one pointer: what is said of them, and the caller's side of a call. No condition. -/
import Derived.Test.YthildlkhnnogiaaAmU
set_option linter.unusedVariables false
namespace Go.Am
structure LW (w:World) (ds:List Dv) (vals:List Value) (pas:List PA):Prop where
 l1:vals.length=ds.length
 l2:pas.length=ds.length
 at_:∀(i:Nat) (d:Dv) (v:Value) (p:PA),ds[i]? =some d->vals[i]? =some v->pas[i]? =some p->uk w d v p
 iT:∀p∈pas,p.k=.ptr->cP w p.b/\∀q∈pas,∀pc∈q.ps,¬aK p.b pc
 one:∀(i j:Nat) (p q:PA),pas[i]? =some p->pas[j]? =some q->p.k=.ptr->q.k=.ptr->i=j
def A4 (w:World) (pas:List PA) (b:Nat):Prop:=w.heap.size<=b\/∃q∈pas,∃pc∈q.ps,aK b pc
def Wq (pas:List PA):Ex:=⟨fun b=>∃p∈pas,p.k=.ptr/\b=p.b,fun _=>none,fun _ _ h=>(by cases h),fun _=>True⟩
def z6 (p:PA):Value:=
 match p.k with
 |.one=>match p.ps with
  |[pc]=>pc.val
  |_=>.agg (p.ps.map PC.val).toArray
 |.agg=>.agg (p.ps.map PC.val).toArray
 |.ptr=>.pointer (some (ad p.b p.o))
def z7:List PA->Value
 |[p]=>z6 p
 |l=>.tuple (l.map z6).toArray
def GP (w:World) (b o:Nat) (ps:List PC):Prop:=∀(j:Nat) (c:PC),ps[j]? =some c->w.cell? (ad b (o+j))=some c.val
structure LV (w w':World) (pas aU:List PA) (qs:List PC):Prop where
 one:∀p∈aU,p.k=.one->p.ps.length=1
 ptr:∀p∈aU,p.k=.ptr->aU.length=1/\w.heap.size<=p.b/\cP w' p.b/\GP w' p.b p.o p.ps/\(∀pc∈p.ps,¬aK p.b pc)/\∀pc∈qs,¬aK p.b pc
 dk:∀p∈aU,∀pc∈p.ps,Good w' pc/\∀b,aK b pc->A4 w pas b
 fr:Fr w.heap.size (Wq pas) w w'
 out:∀pc∈qs,Good w' pc/\∀b,aK b pc->A4 w pas b
 at_:∀p∈pas,p.k=.ptr->GP w' p.b p.o qs
def yO (P:Program) (f:FuncId) (M:List Dv->Option (List Dv×List C)):Prop:=
 ∀ds rs out,M ds=some (rs,out)->∀(w:World) (vals:List Value) (pas:List PA),LW w ds vals pas->Calls P f vals.toArray w fun e w'=>
  ∃(aU:List PA) (qs:List PC),aU.map (fun p=>(p.k,p.ps.map PC.er))=rs/\e=.returned (z7 aU)/\qs.map PC.er=out/\LV w w' pas aU qs
def A2 (P:Program) (T:aF):Prop:=∀f M,aF.jY T.vs f=some M->yO P f M
section
variable {B:Nat} {E:Ex} {w0 w w':World} {G G':Gh} {N:Nat} {h h':Nat->Option aj} {used used':Nat->Bool} {tk:List PC}
variable {P:Program} {o:Oper} {a:Act} {σ σ':St} {Q:Exit->Act->World->Prop}
theorem HR.ox {c:ab} {x:C} {v:Value} (hx:Am.ox c=some x) (hc:RC w G h c v):∃pc:PC,pc.er=x/\pc.val=v/\Good w pc/\∀b,aK b pc->G.Im b:=by
 cases c with
 |c y=>
  simp only[Am.ox] at hx
  injection hx with hx
  subst hx
  exact hc
 |nil sz=>
  simp only[Am.ox] at hx
  split at hx
  ·rename_i dQ
   injection hx with hx
   subst hx
   have bZ:v=.slice none 0 0:=hc
   subst bZ
   refine⟨.list sz none 0 [],by simp[PC.cN],rfl,.nil _ _ _ dQ,fun b hb=>?_⟩
   rw[aK.jw] at hb
   rcases hb with⟨hb,_⟩|⟨k,j,c,⟨e,he,_⟩,_⟩
   ·exact absurd rfl hb
   ·simp at he
  ·cases hx
 |_=>simp[Am.ox] at hx
theorem HR.jt:∀{cs:List ab} {xs:List C} {vs:List Value},Am.jt cs=some xs->cb w G h cs vs->∃ps:List PC,ps.map PC.er=xs/\ps.map PC.val=vs/\∀pc∈ps,Good w pc/\∀b,aK b pc->G.Im b
 |[],xs,vs,hx,hc=>by
  simp only[Am.jt] at hx
  injection hx with hx
  subst hx
  have:vs=[]:=List.eq_nil_of_length_eq_zero (by simpa using hc.1)
  subst this
  exact⟨[],rfl,rfl,by simp⟩
 |c::cs,xs,vs,hx,hc=>by
  simp only[Am.jt] at hx
  split at hx
  ·rename_i x ak e1 e2
   injection hx with hx
   subst hx
   match vs,hc.1 with
   |v::vs,hl=>
    obtain⟨pc,a1,a2,a3,a4⟩:=HR.ox e1 (hc.2 0 c v rfl rfl).2
    obtain⟨ps,b1,b2,b3⟩:=HR.jt (vs:=vs) e2 ⟨by simpa using hl,fun j c u h1 h2=>hc.2 (j+1) c u h1 h2⟩
    refine⟨pc::ps,by simp[a1,b1],by simp[a2,b2],fun q hq=>?_⟩
    cases hq with
    |head=>exact⟨a3,a4⟩
    |tail _ hq=>exact b3 q hq
  ·cases hx
theorem HR.H5 (H:HR B E w G h used tk) {n:Nat} {cs:List ab} (hn:h n=some (.box cs)):∃vs:List Value,cb w G h cs vs/\∀(j:Nat) (v:Value),vs[j]? =some v->w.cell? (ad (G.g n).b ((G.g n).o+j))=some v:=by
 obtain⟨_,_,a3⟩:=H.box n cs hn
 have hj:∀j:Fin cs.length,∃v,w.cell? (ad (G.g n).b ((G.g n).o+j.1))=some v/\v.oneCell'=true/\RC w G h cs[j.1] v:=fun j=>a3 j.1 _ (List.getElem?_eq_getElem j.2)
 refine⟨List.ofFn fun j=>Classical.choose (hj j),⟨by simp,fun j c u hc hu=>?_⟩,fun j v hv=>?_⟩
 ·obtain⟨hl,e⟩:=List.getElem?_eq_some_iff.1 hc
  rw[List.getElem?_ofFn,dif_pos hl] at hu
  injection hu with hu
  subst hu e
  exact(Classical.choose_spec (hj ⟨j,hl⟩)).2
 ·by_cases hl:j<cs.length
  ·rw[List.getElem?_ofFn,dif_pos hl] at hv
   injection hv with hv
   subst hv
   exact(Classical.choose_spec (hj ⟨j,hl⟩)).1
  ·rw[List.getElem?_eq_none (by simp;omega)] at hv;cases hv
theorem amy {σ1:St} {c:ab} {x:C} {o:Bool} (hx:σ.eM c=some (x,o,σ1)) {n:Nat} {cs:List ab} (hn:σ.h n=some (.box cs)):σ1.h n=some (.box cs):=by
 cases c with
 |c y=>simp only[St.eM] at hx;injection hx with hx;injection hx with _ hx;injection hx with _ hx;subst hx;exact hn
 |nil sz=>
  simp only[St.eM] at hx
  split at hx
  ·injection hx with hx;injection hx with _ hx;injection hx with _ hx;subst hx;exact hn
  ·cases hx
 |sl q sz lo len=>
  simp only[St.eM] at hx
  split at hx
  ·rename_i gr m rs xs hq
   split at hx
   ·injection hx with hx;injection hx with _ hx;injection hx with _ hx;subst hx
    have av:n≠q:=by rintro rfl;rw[hq] at hn;cases hn
    show ao σ.h q none n=_
    rw[bP _ _ _ _ av];exact hn
   ·cases hx
  ·cases hx
 |_=>simp[St.eM] at hx
theorem UA:∀{l:List ab} {σ σ1:St} {xs:List C} {o:Bool},σ.fi l=some (xs,o,σ1)->∀{n:Nat} {cs:List ab},σ.h n=some (.box cs)->σ1.h n=some (.box cs)
 |[],σ,σ1,xs,o,hx,n,cs,hn=>by simp only[St.fi] at hx;injection hx with hx;injection hx with _ hx;injection hx with _ hx;subst hx;exact hn
 |c::l,σ,σ2,xs,o,hx,n,cs,hn=>by
  simp only[St.fi] at hx
  split at hx
  ·rename_i x o1 σ1 e1
   split at hx
   ·rename_i ak o2 UT e2
    injection hx with hx;injection hx with _ hx;injection hx with _ hx;subst hx
    exact UA e2 (amy e1 hn)
   ·cases hx
  ·cases hx
theorem L6:∀{as:List ah} {σ σ1:St} {ds:List Dv} {ns:List Nat},σ.gH as=some (ds,ns,σ1)->∀{n:Nat} {cs:List ab},σ.h n=some (.box cs)->σ1.h n=some (.box cs)
 |[],σ,σ1,ds,ns,hx,n,cs,hn=>by simp only[St.gH] at hx;injection hx with hx;injection hx with _ hx;injection hx with _ hx;subst hx;exact hn
 |v::as,σ,σ2,ds,ns,hx,n,cs,hn=>by
  simp only[St.gH] at hx
  split at hx
  ·split at hx
   ·rename_i e
    injection hx with hx;injection hx with _ hx;injection hx with _ hx;subst hx
    exact L6 e hn
   ·cases hx
  ·split at hx
   ·split at hx
    ·rename_i e1
     split at hx
     ·rename_i e2
      injection hx with hx;injection hx with _ hx;injection hx with _ hx;subst hx
      exact L6 e2 (UA e1 hn)
     ·cases hx
    ·cases hx
   ·cases hx
def kV (pas:List PA):List PA:=pas.filter fun p=>decide (p.k=.ptr)
def UZ (G:Gh) (h:Nat->Option aj) (p:PA) (n:Nat):Prop:=∃cs,h n=some (.box cs)/\p.b=(G.g n).b/\p.o=(G.g n).o/\p.ps.length=cs.length
theorem L9 {v:ah} {n:Nat} {xs:List C} (hx:kU h v=some (n,xs)):∃sz cs,v=.one (.ptr n 0 sz 0)/\h n=some (.box cs)/\jt cs=some xs:=by
 unfold kU at hx
 split at hx
 ·rename_i q k sz off
  split at hx
  ·rename_i hc
   obtain⟨rfl,rfl⟩:=hc
   split at hx
   ·rename_i cs hq
    split at hx
    ·rename_i ys e
     injection hx with hx
     injection hx with h1 h2
     subst h1 h2
     exact⟨sz,cs,rfl,hq,e⟩
    ·cases hx
   ·cases hx
  ·cases hx
 ·cases hx
theorem HR.gH:∀{as:List ah} {vals:List Value} {σ σ1:St} {G:Gh} {ds:List Dv} {ns:List Nat},HR B E w G σ.h σ.used []->σ.gH as=some (ds,ns,σ1)->vals.length=as.length->
  (∀(j:Nat) (x:ah) (v:Value),as[j]? =some x->vals[j]? =some v->RA w G σ.h x v)->(∀x∈as,∀m,x.ref m->σ.used m=true)->
  ∃(Im':Nat->Prop) (pas:List PA),pas.length=ds.length/\vals.length=ds.length/\(∀(i:Nat) (d:Dv) (v:Value) (p:PA),ds[i]? =some d->vals[i]? =some v->pas[i]? =some p->uk w d v p)/\
   (∀p∈pas,∀pc∈p.ps,∀b,aK b pc->Im' b)/\(kV pas).length=ns.length/\(∀(i:Nat) (p:PA) (n:Nat),(kV pas)[i]? =some p->ns[i]? =some n->UZ G σ1.h p n)/\
   HR B E w ⟨Im',G.g⟩ σ1.h σ1.used []/\aR w G σ.h (fun n=>σ.used n=true) w ⟨Im',G.g⟩ σ1.h/\σ1.env=σ.env/\σ1.used=σ.used
 |[],vals,σ,σ1,G,ds,ns,H,hx,hl,hc,hr=>by
  simp only[St.gH] at hx
  injection hx with hx
  injection hx with h1 h2
  injection h2 with h2 h3
  subst h1 h2 h3
  exact⟨G.Im,[],rfl,by simpa using hl,by simp,by simp,rfl,by simp[kV],H,aR.refl _ _ _ _,rfl,rfl⟩
 |x::as,vals,σ,σ2,G,ds,ns,H,hx,hl,hc,hr=>by
  match vals,hl with
  |v::vals,hl=>
   simp only[St.gH] at hx
   split at hx
   ·rename_i n xs hp
    split at hx
    ·rename_i tf jQ σ1 e
     injection hx with hx
     injection hx with h1 h2
     injection h2 with h2 h3
     subst h1 h2 h3
     obtain⟨sz,cs,rfl,hn,n9⟩:=L9 hp
     obtain⟨nl,un,_⟩:=H.box n cs hn
     obtain⟨vs,v1,v2⟩:=H.H5 hn
     obtain⟨ps,p1,p2,p3⟩:=HR.jt n9 v1
     have hv:v=.pointer (some (ad (G.g n).b (G.g n).o)):=by
      have h0:=hc 0 _ v rfl rfl
      rcases h0 with h0|h0
      ·cases h0
      ·have h1:RC w G σ.h (.ptr n 0 sz 0) v:=(h0.2 0 _ v rfl rfl).2
       simpa using(h1 (by rw[hn];simp)).2
     obtain⟨Im',pas,b1,b2,b3,b4,b5,b6,b7,b8,b9,oY⟩:=HR.gH (as:=as) (vals:=vals) H e (by simpa using hl) (fun j x v h1 h2=>hc (j+1) x v h1 h2) (fun x hx=>hr x (by simp[hx]))
     have hk:(Am.K.ptr=Am.K.ptr)=True:=by simp
     refine⟨Im',⟨.ptr,ps,(G.g n).b,(G.g n).o⟩::pas,by simp[b1],by simp[b2],fun i d u p hd hu eS=>?_,fun p eS pc aT b hb=>?_,by simp[kV];exact b5,fun i p m hi hm=>?_,b7,b8,b9,oY⟩
     ·cases i with
      |zero=>
       simp at hd hu eS
       subst hd hu eS
       refine⟨by rw[p1],fun pc aT=>(p3 pc aT).1,hv,un.lt,fun j c hj=>v2 j _ ?_⟩
       rw[<-p2,List.getElem?_map,hj];rfl
      |succ i=>exact b3 i d u p (by simpa using hd) (by simpa using hu) (by simpa using eS)
     ·cases eS with
      |head=>exact b8.im b ((p3 pc aT).2 b hb)
      |tail _ eS=>exact b4 p eS pc aT b hb
     ·cases i with
      |zero=>
       simp[kV] at hi hm
       subst hi hm
       refine⟨cs,L6 e hn,rfl,rfl,?_⟩
       have h1:ps.length=vs.length:=by rw[<-p2];simp
       exact h1.trans v1.1
      |succ i=>exact b6 i p m (by simpa[kV] using hi) (by simpa using hm)
    ·cases hx
   ·split at hx
    ·rename_i ag cs dm
     split at hx
     ·rename_i xs o σ1 e1
      split at hx
      ·rename_i tf jQ UT e2
       injection hx with hx
       injection hx with h1 h2
       injection h2 with h2 h3
       subst h1 h2 h3
       have h0:=hc 0 x v rfl rfl
       have dc:∃vs:List Value,(if ag=true then v=.agg vs.toArray else vs=[v])/\cb w G σ.h cs vs:=by
        cases x with
        |one c=>
         have Od:ag=false/\cs=[c]:=by cases c<;>simp[ah.cells?] at dm<;>exact⟨dm.1,dm.2.symm⟩
         obtain⟨rfl,rfl⟩:=Od
         rcases h0 with h0|h0
         ·subst h0;simp[ah.cells?] at dm
         ·exact⟨[v],rfl,h0⟩
        |agg cs'=>
         simp[ah.cells?] at dm
         obtain⟨rfl,rfl⟩:=dm
         obtain⟨vs,e,h1⟩:∃vs:List Value,v=.agg vs.toArray/\cb w G σ.h cs' vs:=h0
         exact⟨vs,e,h1⟩
        |bk xs=>simp[ah.cells?] at dm
       obtain⟨vs,gP,bA⟩:=dc
       obtain⟨yH,bg,a1,a2,a3,a5,a6,a7,a8,a9⟩:=H.fi e1 bA (fun c' bZ m hm=>hr x (by simp) m (ah.wO dm bZ hm))
       have sY:HR B E w ⟨yH,G.g⟩ σ1.h σ.used []:=by
        cases o with
        |true=>exact HR.wm (tk:=[]) (l:=bg) (by simpa using a5)
        |false=>simpa using a5
       rw[<-a8] at sY
       obtain⟨Du,pas,b1,b2,b3,b4,b5,b6,b7,b8,b9,oY⟩:=HR.gH (as:=as) (vals:=vals) (G:=⟨yH,G.g⟩) sY e2 (by simpa using hl)
        (fun j x v h1 h2=>(hc (j+1) x v h1 h2).eJ a6 (fun m hm=>hr x (by simp[List.mem_of_getElem? h1]) m hm)) (fun x' eZ m hm=>by rw[a8];exact hr x' (by simp[eZ]) m hm)
       refine⟨Du,⟨if ag=true then .agg else .one,bg,0,0⟩::pas,by simp[b1],by simp[b2],fun i d u p hd hu eS=>?_,fun p eS pc aT b hb=>?_,?_,fun i p m hi hm=>?_,b7,
        aR.trans (fun n hn=>by rw[a8];exact hn) a6 b8,b9.trans a7,oY.trans a8⟩
       ·cases i with
        |zero=>
         simp at hd hu eS
         subst hd hu eS
         cases ag with
         |true=>exact⟨by simp[a1],fun pc aT=>(a3 pc aT).1,by simp only[if_true] at gP⊢;rw[a2];exact gP⟩
         |false=>exact⟨by simp[a1],fun pc aT=>(a3 pc aT).1,by simp only[Bool.false_eq_true,if_false] at gP⊢;rw[a2];exact gP⟩
        |succ i=>exact b3 i d u p (by simpa using hd) (by simpa using hu) (by simpa using eS)
       ·cases eS with
        |head=>exact b8.im b ((a3 pc aT).2 b hb)
        |tail _ eS=>exact b4 p eS pc aT b hb
       ·cases ag<;>simp[kV]<;>exact b5
       ·refine b6 i p m ?_ hm
        cases ag<;>simpa[kV] using hi
      ·cases hx
     ·cases hx
    ·cases hx
theorem HR.Vx (H:HR B E w G h used []) {n:Nat} {cs cs':List ab} (hn:h n=some (.box cs)) (bn:w.heap.size<=w'.heap.size) (hw:∀b,b<w.heap.size->b≠(G.g n).b->w'.heap[b]? =w.heap[b]?)
  (ik:∀b,b<w.heap.size->Cz w w' b) {S:Nat->Prop} (hS:∀b,S b->w.heap.size<=b/\b<w'.heap.size/\B<=b) {ps:List PC} (fc:cs'=ps.map fun pc=>ab.c pc.er)
  (bO:∀(j:Nat) (c:PC),ps[j]? =some c->w'.cell? (ad (G.g n).b ((G.g n).o+j))=some c.val) (eQ:∀pc∈ps,Good w' pc/\∀b,aK b pc->G.Im b\/S b):
  HR B E w' ⟨fun b=>G.Im b\/S b,G.g⟩ (ao h n (some (.box cs'))) used []/\aR w G h (fun n=>used n=true) w' ⟨fun b=>G.Im b\/S b,G.g⟩ (ao h n (some (.box cs'))):=by
 subst fc
 have bi:h n≠none:=by rw[hn];simp
 obtain⟨aD,tA,fQ⟩:=H.box n cs hn
 obtain⟨oe,nj,pu⟩:=H.own n bi aD
 have xm:=H.gT n bi
 have kp:∀Bo:List ab,aR w G h (fun n=>used n=true) w' G (ao h n (some (.box Bo))):=by
  intro Bo
  refine⟨fun _ h=>h,fun b hb x=>fO (hw b (H.e7 b hb) (fun he=>oe (he▸hb))) x,fun m hm h0=>?_,fun m gr sz xs hm h0=>?_⟩
  ·by_cases bj:m=n
   ·subst bj;exact⟨bi,rfl,rfl,rfl,rfl,rfl⟩
   ·rw[bP _ _ _ _ bj] at h0;exact⟨h0,rfl,rfl,rfl,rfl,rfl⟩
  ·by_cases bj:m=n
   ·subst bj;rw[bo] at h0;cases h0
   ·rw[bP _ _ _ _ bj] at h0;exact⟨⟨gr,xs,h0⟩,fun k j pc h1 h2=>⟨pc,h1,rfl,h2⟩⟩
 have hG:(⟨G.Im,ao G.g n (G.g n)⟩:Gh)=G:=by rw[Gp]
 have H1:HR B E w' ⟨G.Im,ao G.g n (G.g n)⟩ (ao h n (some (.box []))) used []:=by
  refine H.put (fun b hb av=>hw b hb (av aD)) bn (fun b hb hU=>(ik b hb).iT hU) (fun _ h=>h) xm (fun _=>⟨oe,nj,Nat.lt_of_lt_of_le pu bn⟩)
   (fun _ m hm h0 fa=>(H.inj m n h0 bi hm fa aD)) (fun _ m gr sz xs hm h0 b hb=>H.live m gr sz xs h0 b hb n bi aD) ?_ (by rw[hG];exact kp []) ?_
   (fun gr m sz xs hb=>by cases hb) (fun gr sz xs hb=>by cases hb) (fun gr m sz xs hb=>by cases hb) ?_
  ·intro Bo c m hb hc hm
   injection hb with hb
   subst hb
   cases hc
  ·exact⟨aD,(ik _ pu).iT tA,fun j c hj=>by simp at hj⟩
  ·intro _ _ b hb
   obtain⟨m,gr,mo,sz,xs,hm,h0,bL⟩:=hb
   exact H.nc bi aD h0 bL
 rw[hG] at H1
 have xg:∀m,ao h n (some (aj.box [])) m≠none->h m≠none:=fun m hm=>by
  by_cases bj:m=n
  ·subst bj;exact bi
  ·rwa[bP _ _ _ _ bj] at hm
 have H2:HR B E w' ⟨fun b=>G.Im b\/S b,G.g⟩ (ao h n (some (.box []))) used []:=H1.qR S (fun b hb=>(hS b hb).2.1) (fun b hb q hq hl he=>by have:=(hS b hb).1;have:=(H.own q (xg q hq) hl).2.2;omega)
  (fun b hb q gr sz xs hq hF=>by
   by_cases fB:q=n
   ·subst fB;rw[bo] at hq;cases hq
   ·rw[bP _ _ _ _ fB] at hq
    have:=(hS b hb).1;have:=H.mO hq hF;omega) (fun b hb=>.inl (hS b hb).2.2)
 have hn2:ao h n (some (aj.box [])) n=some (.box []):=bo _ _ _
 have EC:ao h n (some (aj.box [])) n≠none:=by rw[hn2];simp
 have X6:ao (ao h n (some (aj.box []))) n (some (.box (ps.map fun pc=>ab.c pc.er)))=ao h n (some (.box (ps.map fun pc=>ab.c pc.er))):=by
  funext m;simp only[iU];split<;>rfl
 have Xm:(⟨fun b=>G.Im b\/S b,ao G.g n (G.g n)⟩:Gh)=⟨fun b=>G.Im b\/S b,G.g⟩:=by rw[Gp]
 have K2:aR w' ⟨fun b=>G.Im b\/S b,G.g⟩ (ao h n (some (aj.box []))) (fun n=>used n=true) w' ⟨fun b=>G.Im b\/S b,G.g⟩ (ao h n (some (.box (ps.map fun pc=>ab.c pc.er)))):=by
  refine⟨fun _ h=>h,fun _ _ _=>rfl,fun m hm h0=>?_,fun m gr sz xs hm h0=>?_⟩
  ·refine⟨?_,rfl,rfl,rfl,rfl,rfl⟩
   by_cases bj:m=n
   ·subst bj;exact EC
   ·rw[bP _ _ _ _ bj] at h0⊢;exact h0
  ·by_cases bj:m=n
   ·subst bj;rw[bo] at h0;cases h0
   ·rw[bP _ _ _ _ bj] at h0;exact⟨⟨gr,xs,by rw[bP _ _ _ _ bj];exact h0⟩,fun k j pc h1 h2=>⟨pc,h1,rfl,h2⟩⟩
 have H3:HR B E w' ⟨fun b=>G.Im b\/S b,ao G.g n (G.g n)⟩ (ao (ao h n (some (aj.box []))) n (some (.box (ps.map fun pc=>ab.c pc.er)))) used []:=by
  refine H2.put (w':=w') (fun _ _ _=>rfl) (Nat.le_refl _) (fun _ _ hU=>hU) (fun _ h=>h) xm (fun _=>⟨fun hi=>(H2.own n EC aD).1 hi,nj,Nat.lt_of_lt_of_le pu bn⟩)
   (fun _ m hm h0 fa=>H2.inj m n h0 EC hm fa aD) (fun _ m gr sz xs hm h0 b hb=>H2.live m gr sz xs h0 b hb n EC aD) ?_ (by rw[Xm,X6];exact K2) ?_
   (fun gr m sz xs hb=>by cases hb) (fun gr sz xs hb=>by cases hb) (fun gr m sz xs hb=>by cases hb) ?_
  ·intro Bo c m hb hc hm
   injection hb with hb
   subst hb
   obtain⟨pc,_,rfl⟩:=List.mem_map.1 hc
   exact absurd hm id
  ·refine⟨aD,(ik _ pu).iT tA,fun j c hj=>?_⟩
   rw[List.getElem?_map] at hj
   cases hp:ps[j]? with
   |none=>rw[hp] at hj;cases hj
   |some pc=>
    rw[hp] at hj
    simp at hj
    subst hj
    obtain⟨g1,g2⟩:=eQ pc (List.mem_of_getElem? hp)
    exact⟨pc.val,bO j pc hp,PC.hY pc,pc,rfl,rfl,g1,g2⟩
  ·intro _ _ b hb
   obtain⟨m,gr,mo,sz,xs,hm,h0,bL⟩:=hb
   exact H2.nc EC aD h0 bL
 rw[Xm,X6] at H3
 have K1:aR w G h (fun n=>used n=true) w' ⟨fun b=>G.Im b\/S b,G.g⟩ (ao h n (some (aj.box []))):=aR.trans (fun _ h=>h) (kp []) (aR.qR S _)
 exact⟨H3,aR.trans (fun _ h=>h) K1 K2⟩
theorem Rj {σ1:St} {ns:List Nat} {out:List C} (hx:σ.q9 ns out=some σ1):(ns=[]/\out=[]/\σ1=σ)\/∃n cs,ns=[n]/\σ.h n=some (.box cs)/\cs.length=out.length/\σ1=σ.cW n (.box (out.map .c)):=by
 unfold St.q9 at hx
 split at hx
 ·injection hx with hx;exact .inl ⟨rfl,rfl,hx.symm⟩
 ·rename_i n
  split at hx
  ·rename_i cs hn
   split at hx
   ·rename_i hl
    injection hx with hx
    exact .inr ⟨n,cs,rfl,hn,hl,hx.symm⟩
   ·cases hx
  ·cases hx
 ·cases hx
theorem V1 {pas:List PA} {p:PA} (hp:p∈pas) (hk:p.k=.ptr):p∈kV pas:=List.mem_filter.2 ⟨hp,by simp[hk]⟩
theorem V2:∀{pas:List PA},(kV pas).length<=1->∀{i j:Nat} {p q:PA},pas[i]? =some p->pas[j]? =some q->p.k=.ptr->q.k=.ptr->i=j
 |[],_,i,_,_,_,hi,_,_,_=>by simp at hi
 |x::pas,hl,i,j,p,q,hi,hj,hp,hq=>by
  by_cases hx:x.k=.ptr
  ·have hz:(kV pas).length=0:=by
    simp[kV,hx] at hl⊢
    exact hl
   have bG:∀y∈pas,y.k≠ .ptr:=fun y hy hk=>by
    have:=V1 hy hk
    rw[List.length_eq_zero_iff.1 hz] at this
    cases this
   cases i with
   |zero=>
    cases j with
    |zero=>rfl
    |succ j=>exact absurd hq (bG q (List.mem_of_getElem? (by simpa using hj)))
   |succ i=>exact absurd hp (bG p (List.mem_of_getElem? (by simpa using hi)))
  ·have dg:(kV pas).length<=1:=by simpa[kV,hx] using hl
   cases i with
   |zero=>simp at hi;subst hi;exact absurd hp hx
   |succ i=>
    cases j with
    |zero=>simp at hj;subst hj;exact absurd hq hx
    |succ j=>exact congrArg (·+1) (V2 dg (by simpa using hi) (by simpa using hj) hp hq)
theorem MH:∀{aU:List PA} {ls:List (Bool×List ab)},gu (aU.map fun p=>(p.k,p.ps.map PC.er))=some ls->ls=aU.map (fun p=>(decide (p.k=.agg),p.ps.map fun pc=>ab.c pc.er))/\∀p∈aU,p.k≠ .ptr
 |[],ls,h=>by simp only[List.map_nil,gu] at h;injection h with h;exact⟨h.symm,by simp⟩
 |⟨k,ps,b,o⟩::aU,ls,h=>by
  cases k with
  |ptr=>simp[gu] at h
  |one=>
   simp only[List.map_cons,gu] at h
   split at h
   ·rename_i zZ e
    injection h with h
    obtain⟨e1,e2⟩:=MH e
    refine⟨by rw[<-h,e1,List.map_map];rfl,fun p hp=>?_⟩
    cases hp with
    |head=>simp
    |tail _ hp=>exact e2 p hp
   ·cases h
  |agg=>
   simp only[List.map_cons,gu] at h
   split at h
   ·rename_i zZ e
    injection h with h
    obtain⟨e1,e2⟩:=MH e
    refine⟨by rw[<-h,e1,List.map_map];rfl,fun p hp=>?_⟩
    cases hp with
    |head=>simp
    |tail _ hp=>exact e2 p hp
   ·cases h
theorem akY {ls:List (Bool×List ab)} {aU:List PA} (hlen:ls.length=aU.length)
  (hv:∀(j:Nat) (x:Bool×List ab) (p:PA),ls[j]? =some x->aU[j]? =some p->RV w G h x.1 x.2 (z6 p)):RA w G h (jS ls) (z7 aU):=by
 match ls,aU,hlen with
 |[],[],_=>exact⟨[],rfl,rfl,by simp⟩
 |[(ag,cs)],[p],_=>
  have h0:=hv 0 (ag,cs) p rfl rfl
  cases ag with
  |true=>exact h0
  |false=>
   have bA:cb w G h cs [z6 p]:=h0
   match cs,bA.1 with
   |[c],_=>exact .inr h0
 |x::y::ls,p::q::aU,hl=>
  refine⟨(p::q::aU).map z6,rfl,by simpa using hl.symm,fun j x' u hj hu=>?_⟩
  rw[List.getElem?_map] at hu
  cases hp:(p::q::aU)[j]? with
  |none=>rw[hp] at hu;cases hu
  |some p'=>rw[hp] at hu;simp at hu;subst hu;exact hv j x' p' hj hp
theorem adD (r:R B E w0 N σ a w G) {T:aF} (hT:A2 P T) {f:FuncId} {as:List ah} {vals:List Value} {σ1:St} (hN:∀n,o.dst=some n->n<N)
  (aS:(execOp a.eval o).run P w=.ok (.enter f vals.toArray) w) (hl:vals.length=as.length)
  (kx:∀(j:Nat) (x:ah) (v:Value),as[j]? =some x->vals[j]? =some v->RA w G σ.h x v) (ON:∀x∈as,∀m,x.ref m->σ.used m=true)
  (hx:qt T o.dst f as σ=some σ1):o.wp P a w (Nx B E w0 N σ1) Q:=by
 unfold qt at hx
 split at hx
 ·rename_i ds ns mU M hba hM
  split at hx
  ·rename_i rs out kw
   split at hx
   ·rename_i iW mr
    obtain⟨Im',pas,b1,b2,b3,b4,b5,b6,b7,b8,b9,oY⟩:=r.hr.gH hba hl kx ON
    have hns:ns.length<=1:=by
     rcases Rj mr with⟨h1,_⟩|⟨n,cs,h1,_⟩<;>rw[h1]<;>simp
    have lv:∀p∈pas,p.k=.ptr->∃n,ns=[n]/\UZ G mU.h p n:=by
     intro p hp hk
     obtain⟨i,hi⟩:=List.getElem?_of_mem (V1 hp hk)
     have bS:i<ns.length:=by rw[<-b5];exact(List.getElem?_eq_some_iff.1 hi).1
     have hn:ns[i]? =some ns[i]:=List.getElem?_eq_getElem bS
     have h0:i=0:=by omega
     subst h0
     refine⟨_,?_,b6 0 p _ hi hn⟩
     match ns,bS,hns with
     |[n],_,_=>rfl
    have va:LW w ds vals pas:=by
     refine⟨b2,b1,b3,fun p hp hk=>?_,fun i j p q hi hj hp hq=>V2 (by omega) hi hj hp hq⟩
     obtain⟨n,_,cs,hn,e1,e2,e3⟩:=lv p hp hk
     obtain⟨nl,un,_⟩:=b7.box n cs hn
     have ho:=b7.own n (by rw[hn];simp) nl
     rw[e1]
     exact⟨un,fun q hq pc aT hb=>ho.1 (b4 q hq pc aT _ hb)⟩
    unfold Oper.wp
    rw[aS]
    refine(hT f M hM ds rs out kw w vals pas va).mono fun e w' ⟨aU,qs,p1,p2,p3,p4⟩=>?_
    subst p2
    have X9:∀b,A4 w pas b->Im' b\/w.heap.size<=b:=fun b hb=>by
     rcases hb with hb|⟨q,hq,pc,aT,hb⟩
     ·exact .inr hb
     ·exact .inl (b4 q hq pc aT b hb)
    let S:Nat->Prop:=fun b=>w.heap.size<=b/\((∃p∈aU,∃pc∈p.ps,aK b pc)\/∃pc∈qs,aK b pc)
    have hB:=r.fr.size
    have hS:∀b,S b->w.heap.size<=b/\b<w'.heap.size/\B<=b:=fun b ⟨h1,h2⟩=>by
     refine⟨h1,?_,Nat.le_trans hB h1⟩
     rcases h2 with⟨p,hp,pc,aT,hb⟩|⟨pc,aT,hb⟩
     ·exact(p4.dk p hp pc aT).1.lt hb
     ·exact(p4.out pc aT).1.lt hb
    have Xk:∀p∈aU,∀pc∈p.ps,Good w' pc/\∀b,aK b pc->Im' b\/S b:=fun p hp pc aT=>by
     obtain⟨g1,g2⟩:=p4.dk p hp pc aT
     exact⟨g1,fun b hb=>(X9 b (g2 b hb)).imp id fun h1=>⟨h1,.inl ⟨p,hp,pc,aT,hb⟩⟩⟩
    have afm:∀pc∈qs,Good w' pc/\∀b,aK b pc->Im' b\/S b:=fun pc aT=>by
     obtain⟨g1,g2⟩:=p4.out pc aT
     exact⟨g1,fun b hb=>(X9 b (g2 b hb)).imp id fun h1=>⟨h1,.inr ⟨pc,aT,hb⟩⟩⟩
    have ame:HR B E w' ⟨fun b=>Im' b\/S b,G.g⟩ iW.h iW.used []/\aR w ⟨Im',G.g⟩ mU.h (fun n=>mU.used n=true) w' ⟨fun b=>Im' b\/S b,G.g⟩ iW.h/\iW.env=mU.env/\iW.used=mU.used/\Fr B E w0 w':=by
     rcases Rj mr with⟨h1,h2,h3⟩|⟨n,cs,h1,h2,h3,h4⟩
     ·subst h3
      have bG:∀p∈pas,p.k≠ .ptr:=fun p hp hk=>by
       obtain⟨n,e,_⟩:=lv p hp hk
       rw[h1] at e;cases e
      have fP:∀b,b<w.heap.size->w'.heap[b]? =w.heap[b]? :=fun b hb=>p4.fr.block b hb (fun⟨p,hp,hk,_⟩=>bG p hp hk)
      have Hg:=b7.grow fP p4.fr.size
      refine⟨Hg.qR S (fun b hb=>(hS b hb).2.1) (fun b hb q hq hl he=>by have:=(hS b hb).1;have:=(b7.own q hq hl).2.2;omega)
       (fun b hb q gr sz xs hq hF=>by have:=(hS b hb).1;have:=b7.mO hq hF;omega) (fun b hb=>.inl (hS b hb).2.2),
       aR.trans (fun _ h=>h) (aR.world (fun b hb=>fP b (b7.e7 b hb)) _) (aR.qR S _),rfl,rfl,r.fr.grow fP p4.fr.size p4.fr.os p4.fr.tape p4.fr.output⟩
     ·subst h4
      obtain⟨p,hp,hk⟩:∃p∈pas,p.k=.ptr:=by
       have hlen:(kV pas).length=1:=by rw[b5,h1];rfl
       match hc:kV pas,hlen with
       |[p],_=>
        have hm:p∈kV pas:=by rw[hc];simp
        have:=List.mem_filter.1 hm
        exact⟨p,this.1,by simpa using this.2⟩
      obtain⟨n',e0,cs',bh,e1,e2,e3⟩:=lv p hp hk
      rw[h1] at e0
      injection e0 with e0
      subst e0
      have Jh:∀q∈pas,q.k=.ptr->q=p:=fun q hq Ou=>by
       obtain⟨i,hi⟩:=List.getElem?_of_mem hq
       obtain⟨j,hj⟩:=List.getElem?_of_mem hp
       have:=va.one i j q p hi hj Ou hk
       subst this
       rw[hi] at hj
       injection hj
      have ho:=b7.own n (by rw[h2];simp) (b7.box n cs h2).1
      have fP:∀b,b<w.heap.size->b≠(G.g n).b->w'.heap[b]? =w.heap[b]? :=fun b hb av=>p4.fr.block b hb (fun⟨q,hq,Ou,Xu⟩=>by
       rw[Jh q hq Ou,e1] at Xu
       exact av Xu)
      have ik:∀b,b<w.heap.size->Cz w w' b:=fun b hb=>p4.fr.iT b hb
      obtain⟨Hb,Kb⟩:=b7.Vx (cs':=out.map .c) h2 p4.fr.size fP ik hS (ps:=qs) (by rw[<-p3,List.map_map];rfl) (fun j c hj=>by
       have:=p4.at_ p hp hk j c hj
       rw[e1,e2] at this
       exact this) afm
      exact⟨Hb,Kb,rfl,rfl,r.fr.one ho.2.1 fP p4.fr.size (ik _ ho.2.2) p4.fr.os p4.fr.tape p4.fr.output⟩
    obtain⟨H2,K2,v1,v2,vc⟩:=ame
    have K0:aR w G σ.h (fun n=>σ.used n=true) w' ⟨fun b=>Im' b\/S b,G.g⟩ iW.h:=aR.trans (fun n hn=>by rw[oY];exact hn) b8 K2
    have r2:R B E w0 N iW a w' ⟨fun b=>Im' b\/S b,G.g⟩:=r.step (v1.trans b9) (fun m hm=>by rw[v2,oY];exact hm) K0 H2 vc
    have Ir:∀{ls:List (Bool×List ab)},gu rs=some ls->σ1=iW.put o.dst (jS ls)->(match(Ending.returned (z7 aU)) with|.returned v=>Nx B E w0 N σ1 (a.put o.dst v) w'|_=>True):=by
     intro ls nh hs
     subst hs
     rw[<-p1] at nh
     obtain⟨rfl,hnp⟩:=MH nh
     refine⟨_,r2.put (akY (by simp) (fun j x p hj hp=>?_)) (fun q hq=>?_) hN⟩
     ·rw[List.getElem?_map,hp] at hj
      simp at hj
      subst hj
      have hm:=List.mem_of_getElem? hp
      have bA:cb w' ⟨fun b=>Im' b\/S b,G.g⟩ iW.h (p.ps.map fun pc=>ab.c pc.er) (p.ps.map PC.val):=by
       refine⟨by simp,fun j c u hj hu=>?_⟩
       rw[List.getElem?_map] at hj hu
       cases gW:p.ps[j]? with
       |none=>rw[gW] at hj;cases hj
       |some pc=>
        rw[gW] at hj hu
        simp at hj hu
        subst hj hu
        obtain⟨g1,g2⟩:=Xk p hm pc (List.mem_of_getElem? gW)
        exact⟨PC.hY pc,pc,rfl,rfl,g1,g2⟩
      have I6:=p4.one p hm
      have XL:=hnp p hm
      obtain⟨k,ps,b,o'⟩:=p
      cases k with
      |ptr=>exact absurd rfl XL
      |agg=>exact⟨ps.map PC.val,rfl,bA⟩
      |one=>
       have h2:=I6 rfl
       match ps,h2 with
       |[p],_=>exact bA
     ·exfalso
      refine Z6 (fun x hx c hc hq=>?_) hq
      obtain⟨p,_,rfl⟩:=List.mem_map.1 hx
      obtain⟨pc,_,rfl⟩:=List.mem_map.1 hc
      exact hq
    unfold ql at hx
    split at hx
    ·rename_i cs
     split at hx
     ·rename_i q hq
      split at hx
      ·rename_i τ3 I3
       injection hx with hx
       subst hx
       obtain⟨u1,rfl⟩:=iI I3
       obtain⟨p,rfl⟩:∃p,aU=[p]:=by
        have h1:aU.length=1:=by have:=congrArg List.length p1;simpa using this
        exact List.length_eq_one_iff.1 h1
       simp at p1
       obtain⟨hk,dm⟩:=p1
       obtain⟨_,q1,q2,q3,q4,q5⟩:=p4.ptr p (by simp) hk
       subst dm
       have XO:mV ⟨fun b=>Im' b\/S b,G.g⟩ iW.h p.b:=by
        refine⟨fun hi=>?_,fun m hm hl he=>?_,fun m gr mo sz xs hm hF=>?_⟩
        ·rcases hi with hi|⟨_,hi⟩
         ·have:=b7.e7 _ hi;omega
         ·rcases hi with⟨p',be,pc,aT,hb⟩|⟨pc,aT,hb⟩
          ·simp at be;subst be;exact q4 pc aT hb
          ·exact q5 pc aT hb
        ·have hd:=H2.gT m hm
         obtain⟨k0,k1,k2,_⟩:=K2.name m (by rw[<-v2];exact hd) hm
         have dg:(G.g m).nl=false:=hl
         have:=(b7.own m k0 dg).2.2
         have BS:(G.g m).b=p.b:=he
         have h7:(⟨Im',G.g⟩:Gh).g m=G.g m:=rfl
         rw[h7] at this
         omega
        ·have hd:=H2.gT m (by rw[hm];simp)
         have dR:∃aW iv ax ak,mU.h m=some (.row aW iv ax ak):=by
          rcases Rj mr with⟨h1,h2,h3⟩|⟨n,cs,h1,h2,h3,h4⟩
          ·subst h3;exact⟨_,_,_,_,hm⟩
          ·subst h4
           by_cases bj:m=n
           ·subst bj;have:ao mU.h m (some (aj.box (out.map ab.c))) m=_:=hm;rw[bo] at this;cases this
           ·have:ao mU.h n (some (aj.box (out.map ab.c))) m=_:=hm
            rw[bP _ _ _ _ bj] at this
            exact⟨_,_,_,_,this⟩
         obtain⟨aW,iv,ax,ak,bm⟩:=dR
         have hF':aP p.b (G.g m).px:=hF
         have:=b7.mO bm hF'
         omega
       have Hn:HR B E w' ⟨fun b=>Im' b\/S b,ao G.g q ⟨false,p.b,p.o,0,[],none⟩⟩ (ao iW.h q (some (.box ((p.ps.map PC.er).map .c)))) (ao iW.used q true) []:=by
        refine H2.insert (w':=w') u1 (fun _ _=>rfl) (Nat.le_refl _) (fun _=>⟨XO,.inl (Nat.le_trans hB q1),q2.lt⟩) (fun cs' c m hb bZ hm=>?_) ⟨rfl,q2,fun j c hj=>?_⟩ (fun gr m sz xs hb=>by cases hb) (fun gr sz xs hb=>by cases hb) (fun gr m sz xs hb=>by cases hb)
        ·injection hb with hb
         subst hb
         obtain⟨x,_,rfl⟩:=List.mem_map.1 bZ
         exact absurd hm id
        ·rw[List.getElem?_map,List.getElem?_map] at hj
         cases hp:p.ps[j]? with
         |none=>rw[hp] at hj;cases hj
         |some pc=>
          rw[hp] at hj
          simp at hj
          subst hj
          obtain⟨g1,g2⟩:=Xk p (by simp) pc (List.mem_of_getElem? hp)
          exact⟨pc.val,q3 j pc hp,PC.hY pc,pc,rfl,rfl,g1,g2⟩
       have r3:=r2.step (σ':={iW with h:=ao iW.h q (some (.box ((p.ps.map PC.er).map .c))),used:=ao iW.used q true}) rfl (fun m hm=>lQ q m hm) (aR.insert H2 u1 (fun _ _=>rfl)) Hn vc
       have hv:z7 [p]=.pointer (some (ad p.b p.o)):=by
        obtain⟨k,ps,b,o'⟩:=p
        simp only at hk
        subst hk
        rfl
       rw[hv]
       exact⟨_,r3.put (RA.dS (c:=.ptr q 0 0 0) rfl (show ao iW.h q _ q≠none->(ao G.g q _ q).nl=false/\_=_ from fun _=>by simp[bo])) (fun m hm=>by have bm:m=q:=hm;subst bm;exact bo _ _ _) hN⟩
      ·cases hx
     ·cases hx
    ·split at hx
     ·rename_i ls nh
      injection hx with hx
      exact Ir nh hx.symm
     ·cases hx
   ·cases hx
  ·cases hx
 ·cases hx
theorem Ws (r:R B E w0 N σ a w G) {T:aF} (hT:A2 P T) {f:FuncId} {xs:Array Operand} {ms:List MO} {ts:Array TypeId} {σ1:St} (hN:∀n,o.dst=some n->n<N)
  (ho:o.op=.call {callee:=.value (.func f),args:=xs,argTypes:=ts}) (hf:bJ P f=true) (hm:fx xs.toList ms=true)
  (hx:qt T o.dst f (ms.map σ.ev) σ=some σ1):o.wp P a w (Nx B E w0 N σ1) Q:=by
 obtain⟨e1,e2⟩:=r.uP hm
 have ON:∀x∈ms.map σ.ev,∀m,x.ref m->σ.used m=true:=by
  have bW:∀{xs:List Operand} {ms:List MO},fx xs ms=true->∀x∈ms.map σ.ev,∀m,x.ref m->σ.used m=true:=by
   intro xs ms
   induction ms generalizing xs with
   |nil=>intro _ x hx;simp at hx
   |cons m0 ms ih=>
    intro hc x hx m hm
    cases xs with
    |nil=>simp[fx] at hc
    |cons y ys=>
     simp only[fx,Bool.and_eq_true] at hc
     simp only[List.map_cons,List.mem_cons] at hx
     rcases hx with rfl|hx
     ·exact(r.ev hc.1).2 m hm
     ·exact ih hc.2 x hx m hm
  exact bW hm
 refine adD r hT (vals:=xs.toList.map a.eval) hN ?_ (by simpa using e1) e2 ON hx
 have he:(xs.toList.map a.eval).toArray=xs.map a.eval:=by apply Array.ext';simp
 rw[he]
 simp[execOp,ho,resolve,Deferred.ofValue,invoke,Act.eval,ue hf]
theorem R.qB (r:R B E w0 N σ a w G) {p:ab} (hx:σ.qB p=some σ'):∃G',R B E w0 N σ' a w G'/\σ'.env=σ.env:=by
 unfold St.qB at hx
 split at hx
 ·rename_i n k sz off
  split at hx
  ·rename_i cs hn
   split at hx
   ·rename_i xs ow σ1 ht
    injection hx with hx
    subst hx
    obtain⟨vs,v1,v2⟩:=r.hr.H5 hn
    obtain⟨yH,bg,a1,a2,a3,a5,a6,a7,a8,a9⟩:=r.hr.fi ht v1 (fun c hc m hm=>r.hr.gd n cs c m hn hc hm)
    have sY:HR B E w ⟨yH,G.g⟩ σ1.h σ.used []:=by
     cases ow with
     |true=>exact HR.wm (tk:=[]) (l:=bg) (by simpa using a5)
     |false=>simpa using a5
    have ni:=UA ht hn
    obtain⟨b1,b2⟩:=sY.Vx (w':=w) (cs':=xs.map .c) ni (Nat.le_refl _) (fun _ _ _=>rfl) (fun b _=>Cz.refl w b) (S:=fun _=>False) (fun b hb=>hb.elim) (ps:=bg)
     (by rw[<-a1,List.map_map];rfl) (fun j c hj=>by
      have:=v2 j c.val (by rw[<-a2,List.getElem?_map,hj];rfl)
      exact this) (fun pc aT=>⟨(a3 pc aT).1,fun b hb=>.inl ((a3 pc aT).2 b hb)⟩)
    have hk:=aR.trans (fun _ h=>h) a6 b2
    refine⟨_,r.step a7 (fun q hq=>by rw[show(σ1.cW n (.box (xs.map .c))).used=σ1.used from rfl,a8];exact hq) hk ?_ r.fr,a7⟩
    show HR B E w _ _ σ1.used []
    rw[a8]
    exact b1
   ·cases hx
  ·cases hx
 ·cases hx
theorem adO (r:R B E w0 N σ a w G) {t:TypeId} {x:Operand} {m:MO} {ag:Bool} {sz:Nat} {p:ab} {cs:List ab} (ho:o.op=.load t x) (hN:∀n,o.dst=some n->n<N)
  (hm:bd x m=true) (dO:qm P t ag sz=true) (hp:σ.ev m=.one p) (hf:σ.qB p=some σ') (hx:Am.loadAt σ'.h p sz=some cs):
  o.wp P a w (Nx B E w0 N (σ'.put o.dst (kM ag cs))) Q:=by
 obtain⟨G',r',e⟩:=r.qB hf
 refine Wx r' ho hN hm dO (p:=p) ?_ hx
 cases m with
 |t n=>simp only[St.ev] at hp⊢;rw[e];exact hp
 |k v=>exact hp
end
end Go.Am
