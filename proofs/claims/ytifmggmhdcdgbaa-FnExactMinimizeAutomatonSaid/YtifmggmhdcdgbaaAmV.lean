/- AmV: functions whose results may share, and that may change the cells of one pointer: what is said of them, and the caller's side of a call. No condition. -/
import Derived.Test.YtifmggmhdcdgbaaAmU
set_option linter.unusedVariables false
namespace Go.Am
structure Ko (w:World) (ds:List Dv) (vals:List Value) (pas:List PA):Prop where
 l1:vals.length=ds.length
 l2:pas.length=ds.length
 at_:∀(i:Nat) (d:Dv) (v:Value) (p:PA),ds[i]? =some d->vals[i]? =some v->pas[i]? =some p->yP w d v p
 kH:∀p∈pas,p.k=.ptr->dr w p.b/\∀q∈pas,∀pc∈q.ps,¬aR p.b pc
 one:∀(i j:Nat) (p q:PA),pas[i]? =some p->pas[j]? =some q->p.k=.ptr->q.k=.ptr->i=j
def zd (w:World) (pas:List PA) (b:Nat):Prop:=w.heap.size<=b\/∃q∈pas,∃pc∈q.ps,aR b pc
def U0 (pas:List PA):Ex:=⟨fun b=>∃p∈pas,p.k=.ptr/\b=p.b,fun _=>none,fun _ _ h=>(by cases h),fun _=>True⟩
def yA (p:PA):Value:=
 match p.k with
 |.one=>match p.ps with
  |[pc]=>pc.val
  |_=>.agg (p.ps.map PC.val).toArray
 |.agg=>.agg (p.ps.map PC.val).toArray
 |.ptr=>.pointer (some (ad p.b p.o))
def yB:List PA->Value
 |[p]=>yA p
 |l=>.tuple (l.map yA).toArray
def EV (w:World) (b o:Nat) (ps:List PC):Prop:=∀(j:Nat) (c:PC),ps[j]? =some c->w.cell? (ad b (o+j))=some c.val
structure Kn (w w':World) (pas aU:List PA) (qs:List PC):Prop where
 one:∀p∈aU,p.k=.one->p.ps.length=1
 ptr:∀p∈aU,p.k=.ptr->aU.length=1/\w.heap.size<=p.b/\dr w' p.b/\EV w' p.b p.o p.ps/\(∀pc∈p.ps,¬aR p.b pc)/\∀pc∈qs,¬aR p.b pc
 dV:∀p∈aU,∀pc∈p.ps,Good w' pc/\∀b,aR b pc->zd w pas b
 fr:Fr w.heap.size (U0 pas) w w'
 out:∀pc∈qs,Good w' pc/\∀b,aR b pc->zd w pas b
 at_:∀p∈pas,p.k=.ptr->EV w' p.b p.o qs
def xc (P:Program) (f:FuncId) (M:List Dv->Option (List Dv×List C)):Prop:=
 ∀ds rs out,M ds=some (rs,out)->∀(w:World) (vals:List Value) (pas:List PA),Ko w ds vals pas->Calls P f vals.toArray w fun e w'=>
  ∃(aU:List PA) (qs:List PC),aU.map (fun p=>(p.k,p.ps.map PC.er))=rs/\e=.returned (yB aU)/\qs.map PC.er=out/\Kn w w' pas aU qs
def EZ (P:Program) (T:bh):Prop:=∀f M,bh.nW T.vs f=some M->xc P f M
section
variable {B:Nat} {E:Ex} {w0 w w':World} {G G':Gh} {N:Nat} {h h':Nat->Option aq} {used used':Nat->Bool} {tk:List PC}
variable {P:Program} {o:Oper} {a:Act} {σ σ':St} {Q:Exit->Act->World->Prop}
theorem HR.ul {c:ah} {x:C} {v:Value} (hx:Am.ul c=some x) (hc:RC w G h c v):∃pc:PC,pc.er=x/\pc.val=v/\Good w pc/\∀b,aR b pc->G.Im b:=by
 cases c with
 |c y=>
  simp only[Am.ul] at hx
  injection hx with hx
  subst hx
  exact hc
 |nil sz=>
  simp only[Am.ul] at hx
  split at hx
  ·rename_i eO
   injection hx with hx
   subst hx
   have cI:v=.slice none 0 0:=hc
   subst cI
   refine⟨.list sz none 0 [],by simp[PC.dw],rfl,.nil _ _ _ eO,fun b hb=>?_⟩
   rw[aR.kA] at hb
   rcases hb with⟨hb,_⟩|⟨k,j,c,⟨e,he,_⟩,_⟩
   ·exact absurd rfl hb
   ·simp at he
  ·cases hx
 |_=>simp[Am.ul] at hx
theorem HR.mI:∀{cs:List ah} {xs:List C} {vs:List Value},Am.mI cs=some xs->cA w G h cs vs->∃ps:List PC,ps.map PC.er=xs/\ps.map PC.val=vs/\∀pc∈ps,Good w pc/\∀b,aR b pc->G.Im b
 |[],xs,vs,hx,hc=>by
  simp only[Am.mI] at hx
  injection hx with hx
  subst hx
  have:vs=[]:=List.eq_nil_of_length_eq_zero (by simpa using hc.1)
  subst this
  exact⟨[],rfl,rfl,by simp⟩
 |c::cs,xs,vs,hx,hc=>by
  simp only[Am.mI] at hx
  split at hx
  ·rename_i x ar e1 e2
   injection hx with hx
   subst hx
   match vs,hc.1 with
   |v::vs,hl=>
    obtain⟨pc,a1,a2,a3,a4⟩:=HR.ul e1 (hc.2 0 c v rfl rfl).2
    obtain⟨ps,b1,b2,b3⟩:=HR.mI (vs:=vs) e2 ⟨by simpa using hl,fun j c u h1 h2=>hc.2 (j+1) c u h1 h2⟩
    refine⟨pc::ps,by simp[a1,b1],by simp[a2,b2],fun q hq=>?_⟩
    cases hq with
    |head=>exact⟨a3,a4⟩
    |tail _ hq=>exact b3 q hq
  ·cases hx
theorem HR.KB (H:HR B E w G h used tk) {n:Nat} {cs:List ah} (hn:h n=some (.box cs)):∃vs:List Value,cA w G h cs vs/\∀(j:Nat) (v:Value),vs[j]? =some v->w.cell? (ad (G.g n).b ((G.g n).o+j))=some v:=by
 obtain⟨_,_,a3⟩:=H.box n cs hn
 have hj:∀j:Fin cs.length,∃v,w.cell? (ad (G.g n).b ((G.g n).o+j.1))=some v/\v.oneCell'=true/\RC w G h cs[j.1] v:=fun j=>a3 j.1 _ (List.getElem?_eq_getElem j.2)
 refine⟨List.ofFn fun j=>Classical.choose (hj j),⟨by simp,fun j c u hc hu=>?_⟩,fun j v hv=>?_⟩
 ·obtain⟨hl,e⟩:=List.getElem?_eq_some_iff.1 hc
  rw[List.getElem?_ofFn,dif_pos hl] at hu
  injection hu with hu
  subst hu e
  exact(Classical.choose_spec (hj ⟨j,hl⟩)).2
 ·by_cases hl:j<cs.length
  ·rw[List.getElem?_ofFn,dif_pos hl] at hv
   injection hv with hv
   subst hv
   exact(Classical.choose_spec (hj ⟨j,hl⟩)).1
  ·rw[List.getElem?_eq_none (by simp;omega)] at hv;cases hv
theorem ak0 {σ1:St} {c:ah} {x:C} {o:Bool} (hx:σ.fS c=some (x,o,σ1)) {n:Nat} {cs:List ah} (hn:σ.h n=some (.box cs)):σ1.h n=some (.box cs):=by
 cases c with
 |c y=>simp only[St.fS] at hx;injection hx with hx;injection hx with _ hx;injection hx with _ hx;subst hx;exact hn
 |nil sz=>
  simp only[St.fS] at hx
  split at hx
  ·injection hx with hx;injection hx with _ hx;injection hx with _ hx;subst hx;exact hn
  ·cases hx
 |sl q sz lo len=>
  simp only[St.fS] at hx
  split at hx
  ·rename_i gr m rs xs hq
   split at hx
   ·injection hx with hx;injection hx with _ hx;injection hx with _ hx;subst hx
    have aC:n≠q:=by rintro rfl;rw[hq] at hn;cases hn
    show av σ.h q none n=_
    rw[cd _ _ _ _ aC];exact hn
   ·cases hx
  ·cases hx
 |_=>simp[St.fS] at hx
theorem Z5:∀{l:List ah} {σ σ1:St} {xs:List C} {o:Bool},σ.gf l=some (xs,o,σ1)->∀{n:Nat} {cs:List ah},σ.h n=some (.box cs)->σ1.h n=some (.box cs)
 |[],σ,σ1,xs,o,hx,n,cs,hn=>by simp only[St.gf] at hx;injection hx with hx;injection hx with _ hx;injection hx with _ hx;subst hx;exact hn
 |c::l,σ,σ2,xs,o,hx,n,cs,hn=>by
  simp only[St.gf] at hx
  split at hx
  ·rename_i x o1 σ1 e1
   split at hx
   ·rename_i ar o2 TA e2
    injection hx with hx;injection hx with _ hx;injection hx with _ hx;subst hx
    exact Z5 e2 (ak0 e1 hn)
   ·cases hx
  ·cases hx
theorem Kv:∀{as:List aj} {σ σ1:St} {ds:List Dv} {ns:List Nat},σ.iu as=some (ds,ns,σ1)->∀{n:Nat} {cs:List ah},σ.h n=some (.box cs)->σ1.h n=some (.box cs)
 |[],σ,σ1,ds,ns,hx,n,cs,hn=>by simp only[St.iu] at hx;injection hx with hx;injection hx with _ hx;injection hx with _ hx;subst hx;exact hn
 |v::as,σ,σ2,ds,ns,hx,n,cs,hn=>by
  simp only[St.iu] at hx
  split at hx
  ·split at hx
   ·rename_i e
    injection hx with hx;injection hx with _ hx;injection hx with _ hx;subst hx
    exact Kv e hn
   ·cases hx
  ·split at hx
   ·split at hx
    ·rename_i e1
     split at hx
     ·rename_i e2
      injection hx with hx;injection hx with _ hx;injection hx with _ hx;subst hx
      exact Kv e2 (Z5 e1 hn)
     ·cases hx
    ·cases hx
   ·cases hx
def lE (pas:List PA):List PA:=pas.filter fun p=>decide (p.k=.ptr)
def TE (G:Gh) (h:Nat->Option aq) (p:PA) (n:Nat):Prop:=∃cs,h n=some (.box cs)/\p.b=(G.g n).b/\p.o=(G.g n).o/\p.ps.length=cs.length
theorem Ky {v:aj} {n:Nat} {xs:List C} (hx:m8 h v=some (n,xs)):∃sz cs,v=.one (.ptr n 0 sz 0)/\h n=some (.box cs)/\mI cs=some xs:=by
 unfold m8 at hx
 split at hx
 ·rename_i q k sz off
  split at hx
  ·rename_i hc
   obtain⟨rfl,rfl⟩:=hc
   split at hx
   ·rename_i cs hq
    split at hx
    ·rename_i ys e
     injection hx with hx
     injection hx with h1 h2
     subst h1 h2
     exact⟨sz,cs,rfl,hq,e⟩
    ·cases hx
   ·cases hx
  ·cases hx
 ·cases hx
theorem HR.iu:∀{as:List aj} {vals:List Value} {σ σ1:St} {G:Gh} {ds:List Dv} {ns:List Nat},HR B E w G σ.h σ.used []->σ.iu as=some (ds,ns,σ1)->vals.length=as.length->
  (∀(j:Nat) (x:aj) (v:Value),as[j]? =some x->vals[j]? =some v->RA w G σ.h x v)->(∀x∈as,∀m,x.ref m->σ.used m=true)->
  ∃(Im':Nat->Prop) (pas:List PA),pas.length=ds.length/\vals.length=ds.length/\(∀(i:Nat) (d:Dv) (v:Value) (p:PA),ds[i]? =some d->vals[i]? =some v->pas[i]? =some p->yP w d v p)/\
   (∀p∈pas,∀pc∈p.ps,∀b,aR b pc->Im' b)/\(lE pas).length=ns.length/\(∀(i:Nat) (p:PA) (n:Nat),(lE pas)[i]? =some p->ns[i]? =some n->TE G σ1.h p n)/\
   HR B E w ⟨Im',G.g⟩ σ1.h σ1.used []/\aY w G σ.h (fun n=>σ.used n=true) w ⟨Im',G.g⟩ σ1.h/\σ1.env=σ.env/\σ1.used=σ.used
 |[],vals,σ,σ1,G,ds,ns,H,hx,hl,hc,hr=>by
  simp only[St.iu] at hx
  injection hx with hx
  injection hx with h1 h2
  injection h2 with h2 h3
  subst h1 h2 h3
  exact⟨G.Im,[],rfl,by simpa using hl,by simp,by simp,rfl,by simp[lE],H,aY.refl _ _ _ _,rfl,rfl⟩
 |x::as,vals,σ,σ2,G,ds,ns,H,hx,hl,hc,hr=>by
  match vals,hl with
  |v::vals,hl=>
   simp only[St.iu] at hx
   split at hx
   ·rename_i n xs hp
    split at hx
    ·rename_i xo ka σ1 e
     injection hx with hx
     injection hx with h1 h2
     injection h2 with h2 h3
     subst h1 h2 h3
     obtain⟨sz,cs,rfl,hn,pY⟩:=Ky hp
     obtain⟨nl,un,_⟩:=H.box n cs hn
     obtain⟨vs,v1,v2⟩:=H.KB hn
     obtain⟨ps,p1,p2,p3⟩:=HR.mI pY v1
     have hv:v=.pointer (some (ad (G.g n).b (G.g n).o)):=by
      have h0:=hc 0 _ v rfl rfl
      rcases h0 with h0|h0
      ·cases h0
      ·have h1:RC w G σ.h (.ptr n 0 sz 0) v:=(h0.2 0 _ v rfl rfl).2
       simpa using(h1 (by rw[hn];simp)).2
     obtain⟨Im',pas,b1,b2,b3,b4,b5,b6,b7,b8,b9,rV⟩:=HR.iu (as:=as) (vals:=vals) H e (by simpa using hl) (fun j x v h1 h2=>hc (j+1) x v h1 h2) (fun x hx=>hr x (by simp[hx]))
     have hk:(Am.K.ptr=Am.K.ptr)=True:=by simp
     refine⟨Im',⟨.ptr,ps,(G.g n).b,(G.g n).o⟩::pas,by simp[b1],by simp[b2],fun i d u p hd hu fU=>?_,fun p fU pc bd b hb=>?_,by simp[lE];exact b5,fun i p m hi hm=>?_,b7,b8,b9,rV⟩
     ·cases i with
      |zero=>
       simp at hd hu fU
       subst hd hu fU
       refine⟨by rw[p1],fun pc bd=>(p3 pc bd).1,hv,un.lt,fun j c hj=>v2 j _ ?_⟩
       rw[<-p2,List.getElem?_map,hj];rfl
      |succ i=>exact b3 i d u p (by simpa using hd) (by simpa using hu) (by simpa using fU)
     ·cases fU with
      |head=>exact b8.im b ((p3 pc bd).2 b hb)
      |tail _ fU=>exact b4 p fU pc bd b hb
     ·cases i with
      |zero=>
       simp[lE] at hi hm
       subst hi hm
       refine⟨cs,Kv e hn,rfl,rfl,?_⟩
       have h1:ps.length=vs.length:=by rw[<-p2];simp
       exact h1.trans v1.1
      |succ i=>exact b6 i p m (by simpa[lE] using hi) (by simpa using hm)
    ·cases hx
   ·split at hx
    ·rename_i ag cs ez
     split at hx
     ·rename_i xs o σ1 e1
      split at hx
      ·rename_i xo ka TA e2
       injection hx with hx
       injection hx with h1 h2
       injection h2 with h2 h3
       subst h1 h2 h3
       have h0:=hc 0 x v rfl rfl
       have dh:∃vs:List Value,(if ag=true then v=.agg vs.toArray else vs=[v])/\cA w G σ.h cs vs:=by
        cases x with
        |one c=>
         have Ms:ag=false/\cs=[c]:=by cases c<;>simp[aj.cells?] at ez<;>exact⟨ez.1,ez.2.symm⟩
         obtain⟨rfl,rfl⟩:=Ms
         rcases h0 with h0|h0
         ·subst h0;simp[aj.cells?] at ez
         ·exact⟨[v],rfl,h0⟩
        |agg cs'=>
         simp[aj.cells?] at ez
         obtain⟨rfl,rfl⟩:=ez
         obtain⟨vs,e,h1⟩:∃vs:List Value,v=.agg vs.toArray/\cA w G σ.h cs' vs:=h0
         exact⟨vs,e,h1⟩
        |bk xs=>simp[aj.cells?] at ez
       obtain⟨vs,iJ,bQ⟩:=dh
       obtain⟨BN,bz,a1,a2,a3,a5,a6,a7,a8,a9⟩:=H.gf e1 bQ (fun c' cI m hm=>hr x (by simp) m (aj.zq ez cI hm))
       have zf:HR B E w ⟨BN,G.g⟩ σ1.h σ.used []:=by
        cases o with
        |true=>exact HR.yK (tk:=[]) (l:=bz) (by simpa using a5)
        |false=>simpa using a5
       rw[<-a8] at zf
       obtain⟨BO,pas,b1,b2,b3,b4,b5,b6,b7,b8,b9,rV⟩:=HR.iu (as:=as) (vals:=vals) (G:=⟨BN,G.g⟩) zf e2 (by simpa using hl)
        (fun j x v h1 h2=>(hc (j+1) x v h1 h2).eV a6 (fun m hm=>hr x (by simp[List.mem_of_getElem? h1]) m hm)) (fun x' eT m hm=>by rw[a8];exact hr x' (by simp[eT]) m hm)
       refine⟨BO,⟨if ag=true then .agg else .one,bz,0,0⟩::pas,by simp[b1],by simp[b2],fun i d u p hd hu fU=>?_,fun p fU pc bd b hb=>?_,?_,fun i p m hi hm=>?_,b7,
        aY.trans (fun n hn=>by rw[a8];exact hn) a6 b8,b9.trans a7,rV.trans a8⟩
       ·cases i with
        |zero=>
         simp at hd hu fU
         subst hd hu fU
         cases ag with
         |true=>exact⟨by simp[a1],fun pc bd=>(a3 pc bd).1,by simp only[if_true] at iJ⊢;rw[a2];exact iJ⟩
         |false=>exact⟨by simp[a1],fun pc bd=>(a3 pc bd).1,by simp only[Bool.false_eq_true,if_false] at iJ⊢;rw[a2];exact iJ⟩
        |succ i=>exact b3 i d u p (by simpa using hd) (by simpa using hu) (by simpa using fU)
       ·cases fU with
        |head=>exact b8.im b ((a3 pc bd).2 b hb)
        |tail _ fU=>exact b4 p fU pc bd b hb
       ·cases ag<;>simp[lE]<;>exact b5
       ·refine b6 i p m ?_ hm
        cases ag<;>simpa[lE] using hi
      ·cases hx
     ·cases hx
    ·cases hx
theorem HR.aaR (H:HR B E w G h used []) {n:Nat} {cs cs':List ah} (hn:h n=some (.box cs)) (bG:w.heap.size<=w'.heap.size) (hw:∀b,b<w.heap.size->b≠(G.g n).b->w'.heap[b]? =w.heap[b]?)
  (lM:∀b,b<w.heap.size->Cz w w' b) {S:Nat->Prop} (hS:∀b,S b->w.heap.size<=b/\b<w'.heap.size/\B<=b) {ps:List PC} (fI:cs'=ps.map fun pc=>ah.c pc.er)
  (cr:∀(j:Nat) (c:PC),ps[j]? =some c->w'.cell? (ad (G.g n).b ((G.g n).o+j))=some c.val) (gJ:∀pc∈ps,Good w' pc/\∀b,aR b pc->G.Im b\/S b):
  HR B E w' ⟨fun b=>G.Im b\/S b,G.g⟩ (av h n (some (.box cs'))) used []/\aY w G h (fun n=>used n=true) w' ⟨fun b=>G.Im b\/S b,G.g⟩ (av h n (some (.box cs'))):=by
 subst fI
 have bN:h n≠none:=by rw[hn];simp
 obtain⟨aO,sy,g7⟩:=H.box n cs hn
 obtain⟨q9,p9,ra⟩:=H.own n bN aO
 have vK:=H.jb n bN
 have kp:∀Gz:List ah,aY w G h (fun n=>used n=true) w' G (av h n (some (.box Gz))):=by
  intro Gz
  refine⟨fun _ h=>h,fun b hb x=>iE (hw b (H.fL b hb) (fun he=>q9 (he▸hb))) x,fun m hm h0=>?_,fun m gr sz xs hm h0=>?_⟩
  ·by_cases bC:m=n
   ·subst bC;exact⟨bN,rfl,rfl,rfl,rfl,rfl⟩
   ·rw[cd _ _ _ _ bC] at h0;exact⟨h0,rfl,rfl,rfl,rfl,rfl⟩
  ·by_cases bC:m=n
   ·subst bC;rw[bD] at h0;cases h0
   ·rw[cd _ _ _ _ bC] at h0;exact⟨⟨gr,xs,h0⟩,fun k j pc h1 h2=>⟨pc,h1,rfl,h2⟩⟩
 have hG:(⟨G.Im,av G.g n (G.g n)⟩:Gh)=G:=by rw[Es]
 have H1:HR B E w' ⟨G.Im,av G.g n (G.g n)⟩ (av h n (some (.box []))) used []:=by
  refine H.put (fun b hb aC=>hw b hb (aC aO)) bG (fun b hb hU=>(lM b hb).kH hU) (fun _ h=>h) vK (fun _=>⟨q9,p9,Nat.lt_of_lt_of_le ra bG⟩)
   (fun _ m hm h0 kS=>(H.inj m n h0 bN hm kS aO)) (fun _ m gr sz xs hm h0 b hb=>H.live m gr sz xs h0 b hb n bN aO) ?_ (by rw[hG];exact kp []) ?_
   (fun gr m sz xs hb=>by cases hb) (fun gr sz xs hb=>by cases hb) (fun gr m sz xs hb=>by cases hb) ?_
  ·intro Gz c m hb hc hm
   injection hb with hb
   subst hb
   cases hc
  ·exact⟨aO,(lM _ ra).kH sy,fun j c hj=>by simp at hj⟩
  ·intro _ _ b hb
   obtain⟨m,gr,mo,sz,xs,hm,h0,cl⟩:=hb
   exact H.se bN aO h0 cl
 rw[hG] at H1
 have M5:∀m,av h n (some (aq.box [])) m≠none->h m≠none:=fun m hm=>by
  by_cases bC:m=n
  ·subst bC;exact bN
  ·rwa[cd _ _ _ _ bC] at hm
 have H2:HR B E w' ⟨fun b=>G.Im b\/S b,G.g⟩ (av h n (some (.box []))) used []:=H1.qg S (fun b hb=>(hS b hb).2.1) (fun b hb q hq hl he=>by have:=(hS b hb).1;have:=(H.own q (M5 q hq) hl).2.2;omega)
  (fun b hb q gr sz xs hq hF=>by
   by_cases fm:q=n
   ·subst fm;rw[bD] at hq;cases hq
   ·rw[cd _ _ _ _ fm] at hq
    have:=(hS b hb).1;have:=H.qA hq hF;omega) (fun b hb=>.inl (hS b hb).2.2)
 have hn2:av h n (some (aq.box [])) n=some (.box []):=bD _ _ _
 have CT:av h n (some (aq.box [])) n≠none:=by rw[hn2];simp
 have Wt:av (av h n (some (aq.box []))) n (some (.box (ps.map fun pc=>ah.c pc.er)))=av h n (some (.box (ps.map fun pc=>ah.c pc.er))):=by
  funext m;simp only[jp];split<;>rfl
 have VM:(⟨fun b=>G.Im b\/S b,av G.g n (G.g n)⟩:Gh)=⟨fun b=>G.Im b\/S b,G.g⟩:=by rw[Es]
 have K2:aY w' ⟨fun b=>G.Im b\/S b,G.g⟩ (av h n (some (aq.box []))) (fun n=>used n=true) w' ⟨fun b=>G.Im b\/S b,G.g⟩ (av h n (some (.box (ps.map fun pc=>ah.c pc.er)))):=by
  refine⟨fun _ h=>h,fun _ _ _=>rfl,fun m hm h0=>?_,fun m gr sz xs hm h0=>?_⟩
  ·refine⟨?_,rfl,rfl,rfl,rfl,rfl⟩
   by_cases bC:m=n
   ·subst bC;exact CT
   ·rw[cd _ _ _ _ bC] at h0⊢;exact h0
  ·by_cases bC:m=n
   ·subst bC;rw[bD] at h0;cases h0
   ·rw[cd _ _ _ _ bC] at h0;exact⟨⟨gr,xs,by rw[cd _ _ _ _ bC];exact h0⟩,fun k j pc h1 h2=>⟨pc,h1,rfl,h2⟩⟩
 have H3:HR B E w' ⟨fun b=>G.Im b\/S b,av G.g n (G.g n)⟩ (av (av h n (some (aq.box []))) n (some (.box (ps.map fun pc=>ah.c pc.er)))) used []:=by
  refine H2.put (w':=w') (fun _ _ _=>rfl) (Nat.le_refl _) (fun _ _ hU=>hU) (fun _ h=>h) vK (fun _=>⟨fun hi=>(H2.own n CT aO).1 hi,p9,Nat.lt_of_lt_of_le ra bG⟩)
   (fun _ m hm h0 kS=>H2.inj m n h0 CT hm kS aO) (fun _ m gr sz xs hm h0 b hb=>H2.live m gr sz xs h0 b hb n CT aO) ?_ (by rw[VM,Wt];exact K2) ?_
   (fun gr m sz xs hb=>by cases hb) (fun gr sz xs hb=>by cases hb) (fun gr m sz xs hb=>by cases hb) ?_
  ·intro Gz c m hb hc hm
   injection hb with hb
   subst hb
   obtain⟨pc,_,rfl⟩:=List.mem_map.1 hc
   exact absurd hm id
  ·refine⟨aO,(lM _ ra).kH sy,fun j c hj=>?_⟩
   rw[List.getElem?_map] at hj
   cases hp:ps[j]? with
   |none=>rw[hp] at hj;cases hj
   |some pc=>
    rw[hp] at hj
    simp at hj
    subst hj
    obtain⟨g1,g2⟩:=gJ pc (List.mem_of_getElem? hp)
    exact⟨pc.val,cr j pc hp,PC.kI pc,pc,rfl,rfl,g1,g2⟩
  ·intro _ _ b hb
   obtain⟨m,gr,mo,sz,xs,hm,h0,cl⟩:=hb
   exact H2.se CT aO h0 cl
 rw[VM,Wt] at H3
 have K1:aY w G h (fun n=>used n=true) w' ⟨fun b=>G.Im b\/S b,G.g⟩ (av h n (some (aq.box []))):=aY.trans (fun _ h=>h) (kp []) (aY.qg S _)
 exact⟨H3,aY.trans (fun _ h=>h) K1 K2⟩
theorem PP {σ1:St} {ns:List Nat} {out:List C} (hx:σ.ry ns out=some σ1):(ns=[]/\out=[]/\σ1=σ)\/∃n cs,ns=[n]/\σ.h n=some (.box cs)/\cs.length=out.length/\σ1=σ.dv n (.box (out.map .c)):=by
 unfold St.ry at hx
 split at hx
 ·injection hx with hx;exact .inl ⟨rfl,rfl,hx.symm⟩
 ·rename_i n
  split at hx
  ·rename_i cs hn
   split at hx
   ·rename_i hl
    injection hx with hx
    exact .inr ⟨n,cs,rfl,hn,hl,hx.symm⟩
   ·cases hx
  ·cases hx
 ·cases hx
theorem UB {pas:List PA} {p:PA} (hp:p∈pas) (hk:p.k=.ptr):p∈lE pas:=List.mem_filter.2 ⟨hp,by simp[hk]⟩
theorem UC:∀{pas:List PA},(lE pas).length<=1->∀{i j:Nat} {p q:PA},pas[i]? =some p->pas[j]? =some q->p.k=.ptr->q.k=.ptr->i=j
 |[],_,i,_,_,_,hi,_,_,_=>by simp at hi
 |x::pas,hl,i,j,p,q,hi,hj,hp,hq=>by
  by_cases hx:x.k=.ptr
  ·have hz:(lE pas).length=0:=by
    simp[lE,hx] at hl⊢
    exact hl
   have ct:∀y∈pas,y.k≠ .ptr:=fun y hy hk=>by
    have:=UB hy hk
    rw[List.length_eq_zero_iff.1 hz] at this
    cases this
   cases i with
   |zero=>
    cases j with
    |zero=>rfl
    |succ j=>exact absurd hq (ct q (List.mem_of_getElem? (by simpa using hj)))
   |succ i=>exact absurd hp (ct p (List.mem_of_getElem? (by simpa using hi)))
  ·have dC:(lE pas).length<=1:=by simpa[lE,hx] using hl
   cases i with
   |zero=>simp at hi;subst hi;exact absurd hp hx
   |succ i=>
    cases j with
    |zero=>simp at hj;subst hj;exact absurd hq hx
    |succ j=>exact congrArg (·+1) (UC dC (by simpa using hi) (by simpa using hj) hp hq)
theorem K5:∀{aU:List PA} {ls:List (Bool×List ah)},gX (aU.map fun p=>(p.k,p.ps.map PC.er))=some ls->ls=aU.map (fun p=>(decide (p.k=.agg),p.ps.map fun pc=>ah.c pc.er))/\∀p∈aU,p.k≠ .ptr
 |[],ls,h=>by simp only[List.map_nil,gX] at h;injection h with h;exact⟨h.symm,by simp⟩
 |⟨k,ps,b,o⟩::aU,ls,h=>by
  cases k with
  |ptr=>simp[gX] at h
  |one=>
   simp only[List.map_cons,gX] at h
   split at h
   ·rename_i ym e
    injection h with h
    obtain⟨e1,e2⟩:=K5 e
    refine⟨by rw[<-h,e1,List.map_map];rfl,fun p hp=>?_⟩
    cases hp with
    |head=>simp
    |tail _ hp=>exact e2 p hp
   ·cases h
  |agg=>
   simp only[List.map_cons,gX] at h
   split at h
   ·rename_i ym e
    injection h with h
    obtain⟨e1,e2⟩:=K5 e
    refine⟨by rw[<-h,e1,List.map_map];rfl,fun p hp=>?_⟩
    cases hp with
    |head=>simp
    |tail _ hp=>exact e2 p hp
   ·cases h
theorem ajD {ls:List (Bool×List ah)} {aU:List PA} (hlen:ls.length=aU.length)
  (hv:∀(j:Nat) (x:Bool×List ah) (p:PA),ls[j]? =some x->aU[j]? =some p->RV w G h x.1 x.2 (yA p)):RA w G h (me ls) (yB aU):=by
 match ls,aU,hlen with
 |[],[],_=>exact⟨[],rfl,rfl,by simp⟩
 |[(ag,cs)],[p],_=>
  have h0:=hv 0 (ag,cs) p rfl rfl
  cases ag with
  |true=>exact h0
  |false=>
   have bQ:cA w G h cs [yA p]:=h0
   match cs,bQ.1 with
   |[c],_=>exact .inr h0
 |x::y::ls,p::q::aU,hl=>
  refine⟨(p::q::aU).map yA,rfl,by simpa using hl.symm,fun j x' u hj hu=>?_⟩
  rw[List.getElem?_map] at hu
  cases hp:(p::q::aU)[j]? with
  |none=>rw[hp] at hu;cases hu
  |some p'=>rw[hp] at hu;simp at hu;subst hu;exact hv j x' p' hj hp
theorem abT (r:R B E w0 N σ a w G) {T:bh} (hT:EZ P T) {f:FuncId} {as:List aj} {vals:List Value} {σ1:St} (hN:∀n,o.dst=some n->n<N)
  (bo:(execOp a.eval o).run P w=.ok (.enter f vals.toArray) w) (hl:vals.length=as.length)
  (xE:∀(j:Nat) (x:aj) (v:Value),as[j]? =some x->vals[j]? =some v->RA w G σ.h x v) (M6:∀x∈as,∀m,x.ref m->σ.used m=true)
  (hx:r9 T o.dst f as σ=some σ1):o.wp P a w (Nx B E w0 N σ1) Q:=by
 unfold r9 at hx
 split at hx
 ·rename_i ds ns oH M hba hM
  split at hx
  ·rename_i rs out tI
   split at hx
   ·rename_i m5 qa
    obtain⟨Im',pas,b1,b2,b3,b4,b5,b6,b7,b8,b9,rV⟩:=r.hr.iu hba hl xE M6
    have hns:ns.length<=1:=by
     rcases PP qa with⟨h1,_⟩|⟨n,cs,h1,_⟩<;>rw[h1]<;>simp
    have lL:∀p∈pas,p.k=.ptr->∃n,ns=[n]/\TE G oH.h p n:=by
     intro p hp hk
     obtain⟨i,hi⟩:=List.getElem?_of_mem (UB hp hk)
     have bX:i<ns.length:=by rw[<-b5];exact(List.getElem?_eq_some_iff.1 hi).1
     have hn:ns[i]? =some ns[i]:=List.getElem?_eq_getElem bX
     have h0:i=0:=by omega
     subst h0
     refine⟨_,?_,b6 0 p _ hi hn⟩
     match ns,bX,hns with
     |[n],_,_=>rfl
    have va:Ko w ds vals pas:=by
     refine⟨b2,b1,b3,fun p hp hk=>?_,fun i j p q hi hj hp hq=>UC (by omega) hi hj hp hq⟩
     obtain⟨n,_,cs,hn,e1,e2,e3⟩:=lL p hp hk
     obtain⟨nl,un,_⟩:=b7.box n cs hn
     have ho:=b7.own n (by rw[hn];simp) nl
     rw[e1]
     exact⟨un,fun q hq pc bd hb=>ho.1 (b4 q hq pc bd _ hb)⟩
    unfold Oper.wp
    rw[bo]
    refine(hT f M hM ds rs out tI w vals pas va).mono fun e w' ⟨aU,qs,p1,p2,p3,p4⟩=>?_
    subst p2
    have Wv:∀b,zd w pas b->Im' b\/w.heap.size<=b:=fun b hb=>by
     rcases hb with hb|⟨q,hq,pc,bd,hb⟩
     ·exact .inr hb
     ·exact .inl (b4 q hq pc bd b hb)
    let S:Nat->Prop:=fun b=>w.heap.size<=b/\((∃p∈aU,∃pc∈p.ps,aR b pc)\/∃pc∈qs,aR b pc)
    have hB:=r.fr.size
    have hS:∀b,S b->w.heap.size<=b/\b<w'.heap.size/\B<=b:=fun b ⟨h1,h2⟩=>by
     refine⟨h1,?_,Nat.le_trans hB h1⟩
     rcases h2 with⟨p,hp,pc,bd,hb⟩|⟨pc,bd,hb⟩
     ·exact(p4.dV p hp pc bd).1.lt hb
     ·exact(p4.out pc bd).1.lt hb
    have VI:∀p∈aU,∀pc∈p.ps,Good w' pc/\∀b,aR b pc->Im' b\/S b:=fun p hp pc bd=>by
     obtain⟨g1,g2⟩:=p4.dV p hp pc bd
     exact⟨g1,fun b hb=>(Wv b (g2 b hb)).imp id fun h1=>⟨h1,.inl ⟨p,hp,pc,bd,hb⟩⟩⟩
    have adF:∀pc∈qs,Good w' pc/\∀b,aR b pc->Im' b\/S b:=fun pc bd=>by
     obtain⟨g1,g2⟩:=p4.out pc bd
     exact⟨g1,fun b hb=>(Wv b (g2 b hb)).imp id fun h1=>⟨h1,.inr ⟨pc,bd,hb⟩⟩⟩
    have akK:HR B E w' ⟨fun b=>Im' b\/S b,G.g⟩ m5.h m5.used []/\aY w ⟨Im',G.g⟩ oH.h (fun n=>oH.used n=true) w' ⟨fun b=>Im' b\/S b,G.g⟩ m5.h/\m5.env=oH.env/\m5.used=oH.used/\Fr B E w0 w':=by
     rcases PP qa with⟨h1,h2,h3⟩|⟨n,cs,h1,h2,h3,h4⟩
     ·subst h3
      have ct:∀p∈pas,p.k≠ .ptr:=fun p hp hk=>by
       obtain⟨n,e,_⟩:=lL p hp hk
       rw[h1] at e;cases e
      have g0:∀b,b<w.heap.size->w'.heap[b]? =w.heap[b]? :=fun b hb=>p4.fr.block b hb (fun⟨p,hp,hk,_⟩=>ct p hp hk)
      have Hg:=b7.grow g0 p4.fr.size
      refine⟨Hg.qg S (fun b hb=>(hS b hb).2.1) (fun b hb q hq hl he=>by have:=(hS b hb).1;have:=(b7.own q hq hl).2.2;omega)
       (fun b hb q gr sz xs hq hF=>by have:=(hS b hb).1;have:=b7.qA hq hF;omega) (fun b hb=>.inl (hS b hb).2.2),
       aY.trans (fun _ h=>h) (aY.world (fun b hb=>g0 b (b7.fL b hb)) _) (aY.qg S _),rfl,rfl,r.fr.grow g0 p4.fr.size p4.fr.os p4.fr.tape p4.fr.output⟩
     ·subst h4
      obtain⟨p,hp,hk⟩:∃p∈pas,p.k=.ptr:=by
       have hlen:(lE pas).length=1:=by rw[b5,h1];rfl
       match hc:lE pas,hlen with
       |[p],_=>
        have hm:p∈lE pas:=by rw[hc];simp
        have:=List.mem_filter.1 hm
        exact⟨p,this.1,by simpa using this.2⟩
      obtain⟨n',e0,cs',bn,e1,e2,e3⟩:=lL p hp hk
      rw[h1] at e0
      injection e0 with e0
      subst e0
      have HB:∀q∈pas,q.k=.ptr->q=p:=fun q hq ML=>by
       obtain⟨i,hi⟩:=List.getElem?_of_mem hq
       obtain⟨j,hj⟩:=List.getElem?_of_mem hp
       have:=va.one i j q p hi hj ML hk
       subst this
       rw[hi] at hj
       injection hj
      have ho:=b7.own n (by rw[h2];simp) (b7.box n cs h2).1
      have g0:∀b,b<w.heap.size->b≠(G.g n).b->w'.heap[b]? =w.heap[b]? :=fun b hb aC=>p4.fr.block b hb (fun⟨q,hq,ML,VS⟩=>by
       rw[HB q hq ML,e1] at VS
       exact aC VS)
      have lM:∀b,b<w.heap.size->Cz w w' b:=fun b hb=>p4.fr.kH b hb
      obtain⟨Hb,Kb⟩:=b7.aaR (cs':=out.map .c) h2 p4.fr.size g0 lM hS (ps:=qs) (by rw[<-p3,List.map_map];rfl) (fun j c hj=>by
       have:=p4.at_ p hp hk j c hj
       rw[e1,e2] at this
       exact this) adF
      exact⟨Hb,Kb,rfl,rfl,r.fr.one ho.2.1 g0 p4.fr.size (lM _ ho.2.2) p4.fr.os p4.fr.tape p4.fr.output⟩
    obtain⟨H2,K2,v1,v2,xL⟩:=akK
    have K0:aY w G σ.h (fun n=>σ.used n=true) w' ⟨fun b=>Im' b\/S b,G.g⟩ m5.h:=aY.trans (fun n hn=>by rw[rV];exact hn) b8 K2
    have r2:R B E w0 N m5 a w' ⟨fun b=>Im' b\/S b,G.g⟩:=r.step (v1.trans b9) (fun m hm=>by rw[v2,rV];exact hm) K0 H2 xL
    have GC:∀{ls:List (Bool×List ah)},gX rs=some ls->σ1=m5.put o.dst (me ls)->(match(Ending.returned (yB aU)) with|.returned v=>Nx B E w0 N σ1 (a.put o.dst v) w'|_=>True):=by
     intro ls zV hs
     subst hs
     rw[<-p1] at zV
     obtain⟨rfl,hnp⟩:=K5 zV
     refine⟨_,r2.put (ajD (by simp) (fun j x p hj hp=>?_)) (fun q hq=>?_) hN⟩
     ·rw[List.getElem?_map,hp] at hj
      simp at hj
      subst hj
      have hm:=List.mem_of_getElem? hp
      have bQ:cA w' ⟨fun b=>Im' b\/S b,G.g⟩ m5.h (p.ps.map fun pc=>ah.c pc.er) (p.ps.map PC.val):=by
       refine⟨by simp,fun j c u hj hu=>?_⟩
       rw[List.getElem?_map] at hj hu
       cases mD:p.ps[j]? with
       |none=>rw[mD] at hj;cases hj
       |some pc=>
        rw[mD] at hj hu
        simp at hj hu
        subst hj hu
        obtain⟨g1,g2⟩:=VI p hm pc (List.mem_of_getElem? mD)
        exact⟨PC.kI pc,pc,rfl,rfl,g1,g2⟩
      have Hs:=p4.one p hm
      have V5:=hnp p hm
      obtain⟨k,ps,b,o'⟩:=p
      cases k with
      |ptr=>exact absurd rfl V5
      |agg=>exact⟨ps.map PC.val,rfl,bQ⟩
      |one=>
       have h2:=Hs rfl
       match ps,h2 with
       |[p],_=>exact bQ
     ·exfalso
      refine YM (fun x hx c hc hq=>?_) hq
      obtain⟨p,_,rfl⟩:=List.mem_map.1 hx
      obtain⟨pc,_,rfl⟩:=List.mem_map.1 hc
      exact hq
    unfold qM at hx
    split at hx
    ·rename_i cs
     split at hx
     ·rename_i q hq
      split at hx
      ·rename_i τ3 adX
       injection hx with hx
       subst hx
       obtain⟨u1,rfl⟩:=mJ adX
       obtain⟨p,rfl⟩:∃p,aU=[p]:=by
        have h1:aU.length=1:=by have:=congrArg List.length p1;simpa using this
        exact List.length_eq_one_iff.1 h1
       simp at p1
       obtain⟨hk,ez⟩:=p1
       obtain⟨_,q1,q2,q3,q4,q5⟩:=p4.ptr p (by simp) hk
       subst ez
       have Wa:oJ ⟨fun b=>Im' b\/S b,G.g⟩ m5.h p.b:=by
        refine⟨fun hi=>?_,fun m hm hl he=>?_,fun m gr mo sz xs hm hF=>?_⟩
        ·rcases hi with hi|⟨_,hi⟩
         ·have:=b7.fL _ hi;omega
         ·rcases hi with⟨p',be,pc,bd,hb⟩|⟨pc,bd,hb⟩
          ·simp at be;subst be;exact q4 pc bd hb
          ·exact q5 pc bd hb
        ·have hd:=H2.jb m hm
         obtain⟨k0,k1,k2,_⟩:=K2.name m (by rw[<-v2];exact hd) hm
         have dC:(G.g m).nl=false:=hl
         have:=(b7.own m k0 dC).2.2
         have Hk:(G.g m).b=p.b:=he
         have h7:(⟨Im',G.g⟩:Gh).g m=G.g m:=rfl
         rw[h7] at this
         omega
        ·have hd:=H2.jb m (by rw[hm];simp)
         have jZ:∃bi nC aK ar,oH.h m=some (.row bi nC aK ar):=by
          rcases PP qa with⟨h1,h2,h3⟩|⟨n,cs,h1,h2,h3,h4⟩
          ·subst h3;exact⟨_,_,_,_,hm⟩
          ·subst h4
           by_cases bC:m=n
           ·subst bC;have:av oH.h m (some (aq.box (out.map ah.c))) m=_:=hm;rw[bD] at this;cases this
           ·have:av oH.h n (some (aq.box (out.map ah.c))) m=_:=hm
            rw[cd _ _ _ _ bC] at this
            exact⟨_,_,_,_,this⟩
         obtain⟨bi,nC,aK,ar,bE⟩:=jZ
         have hF':aV p.b (G.g m).px:=hF
         have:=b7.qA bE hF'
         omega
       have Hn:HR B E w' ⟨fun b=>Im' b\/S b,av G.g q ⟨false,p.b,p.o,0,[],none⟩⟩ (av m5.h q (some (.box ((p.ps.map PC.er).map .c)))) (av m5.used q true) []:=by
        refine H2.insert (w':=w') u1 (fun _ _=>rfl) (Nat.le_refl _) (fun _=>⟨Wa,.inl (Nat.le_trans hB q1),q2.lt⟩) (fun cs' c m hb cI hm=>?_) ⟨rfl,q2,fun j c hj=>?_⟩ (fun gr m sz xs hb=>by cases hb) (fun gr sz xs hb=>by cases hb) (fun gr m sz xs hb=>by cases hb)
        ·injection hb with hb
         subst hb
         obtain⟨x,_,rfl⟩:=List.mem_map.1 cI
         exact absurd hm id
        ·rw[List.getElem?_map,List.getElem?_map] at hj
         cases hp:p.ps[j]? with
         |none=>rw[hp] at hj;cases hj
         |some pc=>
          rw[hp] at hj
          simp at hj
          subst hj
          obtain⟨g1,g2⟩:=VI p (by simp) pc (List.mem_of_getElem? hp)
          exact⟨pc.val,q3 j pc hp,PC.kI pc,pc,rfl,rfl,g1,g2⟩
       have r3:=r2.step (σ':={m5 with h:=av m5.h q (some (.box ((p.ps.map PC.er).map .c))),used:=av m5.used q true}) rfl (fun m hm=>qI q m hm) (aY.insert H2 u1 (fun _ _=>rfl)) Hn xL
       have hv:yB [p]=.pointer (some (ad p.b p.o)):=by
        obtain⟨k,ps,b,o'⟩:=p
        simp only at hk
        subst hk
        rfl
       rw[hv]
       exact⟨_,r3.put (RA.gp (c:=.ptr q 0 0 0) rfl (show av m5.h q _ q≠none->(av G.g q _ q).nl=false/\_=_ from fun _=>by simp[bD])) (fun m hm=>by have bE:m=q:=hm;subst bE;exact bD _ _ _) hN⟩
      ·cases hx
     ·cases hx
    ·split at hx
     ·rename_i ls zV
      injection hx with hx
      exact GC zV hx.symm
     ·cases hx
   ·cases hx
  ·cases hx
 ·cases hx
theorem abM (r:R B E w0 N σ a w G) {T:bh} (hT:EZ P T) {f:FuncId} {xs:Array Operand} {ms:List MO} {ts:Array TypeId} {σ1:St} (hN:∀n,o.dst=some n->n<N)
  (ho:o.op=.call {callee:=.value (.func f),args:=xs,argTypes:=ts}) (hf:bF P f=true) (hm:iw xs.toList ms=true)
  (hx:r9 T o.dst f (ms.map σ.ev) σ=some σ1):o.wp P a w (Nx B E w0 N σ1) Q:=by
 obtain⟨e1,e2⟩:=r.zE hm
 have M6:∀x∈ms.map σ.ev,∀m,x.ref m->σ.used m=true:=by
  have cP:∀{xs:List Operand} {ms:List MO},iw xs ms=true->∀x∈ms.map σ.ev,∀m,x.ref m->σ.used m=true:=by
   intro xs ms
   induction ms generalizing xs with
   |nil=>intro _ x hx;simp at hx
   |cons m0 ms ih=>
    intro hc x hx m hm
    cases xs with
    |nil=>simp[iw] at hc
    |cons y ys=>
     simp only[iw,Bool.and_eq_true] at hc
     simp only[List.map_cons,List.mem_cons] at hx
     rcases hx with rfl|hx
     ·exact(r.ev hc.1).2 m hm
     ·exact ih hc.2 x hx m hm
  exact cP hm
 refine abT r hT (vals:=xs.toList.map a.eval) hN ?_ (by simpa using e1) e2 M6 hx
 have he:(xs.toList.map a.eval).toArray=xs.map a.eval:=by apply Array.ext';simp
 rw[he]
 simp[execOp,ho,resolve,Deferred.ofValue,invoke,Act.eval,Be hf]
end
end Go.Am
