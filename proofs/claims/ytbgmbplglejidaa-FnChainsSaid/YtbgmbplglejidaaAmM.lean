/- AmM: functions that change lists of their arguments: what is said of them, and the caller's side of a call. No condition. -/
import Derived.Test.YtbgmbplglejidaaAm16
set_option linter.unusedVariables false
namespace Go.Am
def eo {α:Type}:List (Option Mode)->List α->List (Mode×α)
 |some m::fs,x::xs=>(m,x)::eo fs xs
 |none::fs,_::xs=>eo fs xs
 |_,_=>[]
def nB {α:Type}:List (Option Mode)->List α->List α
 |some _::fs,_::xs=>nB fs xs
 |none::fs,x::xs=>x::nB fs xs
 |[],xs=>xs
 |_,[]=>[]
def eC {α:Type}:aN->List (List α)->List (Mode×α)
 |s::sig,xs::r8=>eo s xs++eC sig r8
 |_,_=>[]
def pI {α:Type}:aN->List (List α)->List α
 |s::sig,xs::r8=>nB s xs++pI sig r8
 |[],r8=>r8.flatten
 |_,[]=>[]
theorem Ip {α β:Type} (f:α->β):∀(s:List (Option Mode)) (xs:List α),eo s (xs.map f)=(eo s xs).map fun x=>(x.1,f x.2)
 |some m::fs,x::xs=>by simp only[List.map_cons,eo,Ip f fs xs]
 |none::fs,x::xs=>by simp only[List.map_cons,eo,Ip f fs xs]
 |[],_=>by simp[eo]
 |some m::fs,[]=>rfl
 |none::fs,[]=>rfl
theorem Io {α β:Type} (f:α->β):∀(s:aN) (xs:List (List α)),eC s (xs.map fun l=>l.map f)=(eC s xs).map fun x=>(x.1,f x.2)
 |s::sig,xs::r8=>by simp only[List.map_cons,eC,List.map_append,Ip f s xs,Io f sig r8]
 |[],_=>by simp[eC]
 |s::sig,[]=>rfl
structure xA (w:World) (m:Mode) (pc:PC):Prop where
 sep:Sep pc
 un:∀b,aS b pc->dD w b
 dR:∃sz a cap xs,pc=.list sz a cap xs/\0<sz/\(∀b o,a=some (ad b o)->¬aV b xs)/\sB m (xs.map fun e=>e.map PC.er)=true
structure PA where
 k:K
 ps:List PC
 b:Nat
 o:Nat
def zz (w:World) (d:Dv) (v:Value) (p:PA):Prop:=
 d=(p.k,p.ps.map PC.er)/\(∀pc∈p.ps,Good w pc)/\
 match p.k with
 |.one=>p.ps.map PC.val=[v]
 |.agg=>v=.agg (p.ps.map PC.val).toArray
 |.ptr=>v=.pointer (some (ad p.b p.o))/\p.b<w.heap.size/\∀j c,p.ps[j]? =some c->w.cell? (ad p.b (p.o+j))=some c.val
structure CI (w:World) (sig:aN) (ds:List Dv) (vals:List Value) (pas:List PA):Prop where
 l1:vals.length=ds.length
 l2:pas.length=ds.length
 at_:∀(i:Nat) (d:Dv) (v:Value) (p:PA),ds[i]? =some d->vals[i]? =some v->pas[i]? =some p->zz w d v p
 ok:∀x∈eC sig (pas.map (·.ps)),xA w x.1 x.2
 m7:(eC sig (pas.map (·.ps))).Pairwise fun x y=>∀b,aS b x.2->¬aS b y.2
 free:∀pc∈pI sig (pas.map (·.ps)),∀x∈eC sig (pas.map (·.ps)),∀b,aS b pc->¬aS b x.2
 ptr:∀p∈pas,p.k=.ptr->∀x∈eC sig (pas.map (·.ps)),¬aS p.b x.2
 alP:∀(i:Nat) (p:PA) (s:List (Option Mode)),pas[i]? =some p->sig[i]? =some s->p.k=.ptr->s=[]
def Di (fl:List (Mode×PC)):Ex:=⟨fun b=>∃x∈fl,aS b x.2,fun _=>none,fun _ _ h=>(by cases h),fun _=>True⟩
structure tA (w:World) (m:Mode) (pc dg:PC):Prop where
 val:dg.val=pc.val
 eu:Good w dg
 sep:Sep dg
 sub:∀b,aS b dg->aS b pc
 flat:sB m (match dg.er with|.list _ xs=>xs|_=>[])=true
 live:∀sz a cap xs aJ a' sn aq,pc=.list sz a cap xs->dg=.list aJ a' sn aq->aJ=sz/\a'=a/\sn=cap/\aq.length=xs.length/\
  (m=.live->∀k j c,At xs k j c->c.gB=true->∃c',At aq k j c'/\c'.val=c.val/\c'.gB=true)
def pM (P:Program) (f:FuncId) (sig:aN) (M:List Dv->Option (List Dv×List C)):Prop:=
 ∀ds rs eV,M ds=some (rs,eV)->∀(w:World) (vals:List Value) (pas:List PA),CI w sig ds vals pas->Calls P f vals.toArray w fun e w'=>
  ∃aT:List (K×List PC),aT.map (fun p=>(p.1,p.2.map PC.er))=rs/\e=.returned (wV aT)/\(∀p∈aT,p.1≠ .ptr/\(p.1=.one->p.2.length=1))/\
   CO w' w.heap.size (aT.flatMap (·.2))/\Fr w.heap.size (Di (eC sig (pas.map (·.ps)))) w w'/\
   ∃qs:List PC,qs.map PC.er=eV/\qs.length=(eC sig (pas.map (·.ps))).length/\
    ∀(i:Nat) (x:Mode×PC) (q:PC),(eC sig (pas.map (·.ps)))[i]? =some x->qs[i]? =some q->tA w' x.1 x.2 q
section
variable {B:Nat} {E:Ex} {w0 w w':World} {G G':Gh} {N:Nat} {h h':Nat->Option ao} {used:Nat->Bool}
variable {P:Program} {o:Oper} {a:Act} {σ σ':St} {Q:Exit->Act->World->Prop}
def nv (sz:Nat) (p:PB):PC:=.list sz (if p.nl=true then p.na else some (ad p.b p.o)) p.cap p.px
theorem abr {gr:Bool} {m:Mode} {sz:Nat} {xs:List (List C)} {p:PB} (hr:tC B E w G gr m sz xs p):(nv sz p).er=.list sz xs:=by
 rw[nv,PC.dJ,hr.er]
theorem anE {gr:Bool} {m:Mode} {sz:Nat} {xs:List (List C)} {p:PB} (hr:tC B E w G gr m sz xs p) {v:Value} (hv:jq p sz 0 xs.length v):(nv sz p).val=v:=by
 have fL:p.px.length=xs.length:=by rw[hr.er];simp
 rcases hv with⟨hn,rfl,_,hl⟩|⟨hn,a,rfl,hc,ha⟩
 ·simp[nv,PC.val,hn,fL,hl]
 ·have:=ha (.inr rfl)
  subst this
  simp[nv,PC.val,hn,fL]
theorem anD {gr:Bool} {m:Mode} {sz:Nat} {xs:List (List C)} {p:PB} (hr:tC B E w G gr m sz xs p):Good w (nv sz p):=by
 unfold nv
 by_cases h0:p.px=[]
 ·rw[h0];exact .nil _ _ _ hr.pos
 ·have aL:p.nl=false:=by
   cases hq:p.nl with
   |false=>rfl
   |true=>exact absurd (hr.nl hq).1 h0
  obtain⟨a1,a2,a3⟩:=hr.dR aL
  rw[if_neg (by simp[aL])]
  exact .cons _ _ _ _ _ h0 a3 hr.pos a2.1 a2.2.1 a2.2.2
theorem RJ {sz:Nat} {p:PB} {b:Nat} (hn:p.nl=true->p.px=[]) (h:aS b (nv sz p)):(p.nl=false/\b=p.b)\/aV b p.px:=by
 unfold nv at h
 rw[aS.kq] at h
 rcases h with⟨h0,o,ho⟩|⟨k,j,c,hk,hb⟩
 ·cases hq:p.nl with
  |true=>exact absurd (hn hq) h0
  |false=>
   rw[hq] at ho
   simp at ho
   exact .inl ⟨rfl,(m4 ho).1.symm⟩
 ·exact .inr ⟨k,j,c,hk,hb⟩
def rq (G:Gh) (n b:Nat):Prop:=((G.g n).nl=false/\b=(G.g n).b)\/aV b (G.g n).px
structure sb (B:Nat) (E:Ex) (w:World) (G:Gh) (h:Nat->Option ao) (it:cM) (md:Mode) (pc:PC):Prop where
 ok:xA w md pc
 eu:Good w pc
 at_:match it with
  |.nil sz=>pc=.list sz none 0 []
  |.row n=>∃gr m sz xs,h n=some (.row gr m sz xs)/\m≠ .aD/\(md=.live->m=.live)/\pc=nv sz (G.g n)/\sB md xs=true
  |.nest n k off=>∃gr sz xs,h n=some (.row gr .live sz xs)/\md=.ae/\At (G.g n).px k off pc
theorem sb.m8 {it:cM} {md:Mode} {pc:PC} (H:HR B E w G h used []) (i:sb B E w G h it md pc) {b:Nat} (hb:aS b pc):
  ∃n gr m sz xs,it.dA=some n/\h n=some (.row gr m sz xs)/\m≠ .aD/\rq G n b/\((∀b,¬aV b (G.g n).px)\/m=.live):=by
 have ha:=i.at_
 cases it with
 |nil sz=>
  have ha:pc=.list sz none 0 []:=ha
  subst ha
  rw[aS.kq] at hb
  rcases hb with⟨hb,_⟩|⟨k,j,c,⟨e,he,_⟩,_⟩
  ·exact absurd rfl hb
  ·simp at he
 |row n=>
  obtain⟨gr,m,sz,xs,h1,h2,h3,rfl,h5⟩:=ha
  have hr:=H.row n gr m sz xs h1
  refine⟨n,gr,m,sz,xs,rfl,h1,h2,RJ (fun hq=>(hr.nl hq).1) hb,?_⟩
  cases md with
  |live=>exact .inr (h3 rfl)
  |aD=>cases h5
  |ae=>
   left
   intro b' aY
   have Iy:fZ xs=true:=h5
   rw[hr.er] at Iy
   obtain⟨k,j,c,⟨e,he,hj⟩,hc⟩:=aY
   have h6:=List.all_eq_true.1 Iy (e.map PC.er) (by simp only[List.mem_map];exact⟨e,List.mem_of_getElem? he,rfl⟩)
   have h7:=List.all_eq_true.1 h6 c.er (by simp only[List.mem_map];exact⟨c,List.mem_of_getElem? hj,rfl⟩)
   exact(Sep.kP h7).2 b' hc
 |nest n k off=>
  obtain⟨gr,sz,xs,h1,h2,h3⟩:=ha
  exact⟨n,gr,.live,sz,xs,rfl,h1,by simp,.inr ⟨k,off,pc,h3,hb⟩,.inr rfl⟩
theorem HR.DB (H:HR B E w G h used []) {n n':Nat} (aB:n≠n') {gr bk:Bool} {m m':Mode} {sz aJ:Nat} {xs aq:List (List C)} (h1:h n=some (.row gr m sz xs)) (h2:h n'=some (.row bk m' aJ aq))
  (bJ:(∀b,¬aV b (G.g n').px)\/m'=.live) {b:Nat} (hb:rq G n b):¬rq G n' b:=by
 have e1:h n≠none:=by rw[h1];simp
 have e2:h n'≠none:=by rw[h2];simp
 have own:∀{p q:Nat} {gr:Bool} {m:Mode} {sz:Nat} {xs:List (List C)},h p≠none->h q=some (.row gr m sz xs)->(G.g p).nl=false->¬aV (G.g p).b (G.g q).px:=by
  intro p q gr m sz xs hp hq hl hF
  have f0:=(H.row q gr m sz xs hq).mode
  cases m with
  |aD=>exact(H.own p hp hl).1 (f0 _ hF)
  |ae=>exact(H.own p hp hl).1 (f0.1 _ hF).1
  |live=>exact H.live q gr sz xs hq _ hF p hp hl rfl
 rintro(⟨l2,rfl⟩|b2)
 ·rcases hb with⟨l1,b1⟩|b1
  ·exact H.inj n n' e1 e2 aB l1 l2 b1.symm
  ·exact own e2 h1 l2 b1
 ·rcases hb with⟨l1,rfl⟩|b1
  ·exact own e1 h2 l1 b2
  ·rcases bJ with bJ|rfl
   ·exact bJ b b2
   ·have q2:=(H.row n' bk .live aJ aq h2).mode
    have q1:=(H.row n gr m sz xs h1).mode
    cases m with
    |aD=>exact(q2.1 b b2).1 (q1 b b1)
    |ae=>exact(q2.1 b b2).1 (q1.1 b b1).1
    |live=>exact H.fJ n n' gr .live sz xs bk .live aJ aq h1 h2 (by simp) (by simp) aB b b1 b2
theorem HR.item (H:HR B E w G h used []) {md:Mode} {c:ah} {it:cM} {x:C} {v:Value} (hx:rR h md c=some (it,x)) (hc:RC w G h c v):
  ∃pc:PC,pc.er=x/\pc.val=v/\sb B E w G h it md pc/\it.dA=c.dA:=by
 unfold rR at hx
 split at hx
 ·rename_i sz
  split at hx
  ·rename_i dL
   injection hx with hx
   injection hx with h1 h2
   subst h1 h2
   have cv:v=.slice none 0 0:=hc
   subst cv
   refine⟨.list sz none 0 [],by simp[PC.dJ],rfl,⟨⟨?_,?_,sz,none,0,[],rfl,dL.1,(fun b o h=>by cases h),?_⟩,.nil _ _ _ dL.1,rfl⟩,rfl⟩
   ·refine .list _ _ _ _ ?_ ?_ ?_
    ·rintro k j c ⟨e,he,_⟩;simp at he
    ·rintro b o k j c _ ⟨e,he,_⟩;simp at he
    ·rintro k j c k' j' c' b ⟨e,he,_⟩;simp at he
   ·intro b hb
    rw[aS.kq] at hb
    rcases hb with⟨hb,_⟩|⟨k,j,c,⟨e,he,_⟩,_⟩
    ·exact absurd rfl hb
    ·simp at he
   ·cases md with
    |aD=>exact absurd rfl dL.2
    |ae=>rfl
    |live=>rfl
  ·cases hx
 ·rename_i n sz lo len
  split at hx
  ·rename_i gr m rs xs hn
   split at hx
   ·rename_i cI
    obtain⟨hm,sI,rfl,rfl,rfl,jv⟩:=cI
    injection hx with hx
    injection hx with h1 h2
    subst h1 h2
    have bM:h n≠none:=by rw[hn];simp
    have hs:jq (G.g n) rs 0 xs.length v:=hc bM
    have hr:=H.row n gr m rs xs hn
    have rA:(∀b,aV b (G.g n).px->dD w b)/\ij (G.g n).px/\(∀b,aV b (G.g n).px->(G.g n).nl=false->b≠(G.g n).b):=by
     have cX:=hr.mode
     cases m with
     |aD=>exact absurd rfl hm
     |ae=>exact⟨fun b hb=>(cX.1 b hb).2.1,cX.2,fun b hb hl d9=>(H.own n bM hl).1 (d9▸(cX.1 b hb).1)⟩
     |live=>exact⟨fun b hb=>(cX.1 b hb).2.1,cX.2,fun b hb hl=>H.live n gr rs xs hn b hb n bM hl⟩
    obtain⟨o1,o2,o3⟩:=rA
    have Bh:∀b o,(if(G.g n).nl=true then(G.g n).na else some (ad (G.g n).b (G.g n).o))=some (ad b o)->¬aV b (G.g n).px:=by
     intro b o eQ hF
     cases hq:(G.g n).nl with
     |true=>rw[(hr.nl hq).1] at hF;obtain⟨k,j,c,⟨e,he,_⟩,_⟩:=hF;simp at he
     |false=>
      rw[hq] at eQ
      simp at eQ
      exact o3 b hF hq (m4 eQ).1.symm
    refine⟨nv rs (G.g n),abr hr,anE hr hs,⟨⟨.list _ _ _ _ o2.1 (fun b o k j c eQ hk hb=>Bh b o eQ ⟨k,j,c,hk,hb⟩) o2.2,fun b hb=>?_,rs,_,_,_,rfl,hr.pos,Bh,by rw[<-hr.er];exact jv⟩,anD hr,
     gr,m,rs,xs,hn,hm,sI,rfl,jv⟩,rfl⟩
    rcases RJ (fun hq=>(hr.nl hq).1) hb with⟨hl,rfl⟩|hF
    ·exact(hr.dR hl).1
    ·exact o1 b hF
   ·cases hx
  ·cases hx
 ·rename_i n k az off sz len
  split at hx
  ·rename_i gr rs xs hn
   split at hx
   ·rename_i cI
    obtain⟨rfl,rfl⟩:=cI
    split at hx
    ·rename_i s ys rE
     split at hx
     ·rename_i jv
      injection hx with hx
      injection hx with h1 h2
      subst h1 h2
      obtain⟨pc,p1,p2,p3⟩:=hc gr xs hn
      have hr:=H.row n gr .live rs xs hn
      have aL:(G.g n).nl=false:=by
       cases hq:(G.g n).nl with
       |false=>rfl
       |true=>obtain⟨e,he,_⟩:=p1;rw[(hr.nl hq).1] at he;simp at he
      have gO:Good w pc:=(hr.dR aL).2.1.2.2 _ _ _ p1
      have ud:pc.er=.list s ys:=by
       obtain⟨e,he,hj⟩:=p1
       rw[hr.er] at rE
       simp[he,hj] at rE
       exact rE
      have kc:=hr.mode.2.1 _ _ _ p1
      cases pc with
      |int k n=>cases p3
      |bool b=>cases p3
      |list s' a' sn px'=>
       rw[PC.dJ] at ud
       injection ud with g1 g2
       subst g1
       have ja:fZ (px'.map fun e=>e.map PC.er)=true:=by rw[g2];exact jv
       refine⟨_,by rw[PC.dJ,g2],p2,⟨⟨kc,fun b hb=>(hr.mode.1 b ⟨k,off,_,p1,hb⟩).2.1,s',a',sn,px',rfl,?_,fun b o _ hF=>?_,ja⟩,gO,gr,rs,xs,hn,rfl,p1⟩,rfl⟩
       ·cases gO with
        |nil _ _ _ h=>exact h
        |cons _ _ _ _ _ _ _ h=>exact h
       ·obtain⟨kk,jj,c,⟨e,he,hj⟩,hc⟩:=hF
        have h6:=List.all_eq_true.1 ja (e.map PC.er) (by simp only[List.mem_map];exact⟨e,List.mem_of_getElem? he,rfl⟩)
        have h7:=List.all_eq_true.1 h6 c.er (by simp only[List.mem_map];exact⟨c,List.mem_of_getElem? hj,rfl⟩)
        exact(Sep.kP h7).2 b hc
     ·cases hx
    ·cases hx
   ·cases hx
  ·cases hx
 ·cases hx
theorem HR.Vs (H:HR B E w G h used []) {c:ah} {x:C} {v:Value} (hx:Am.cg h c=some x) (hc:RC w G h c v):
  ∃pc:PC,pc.er=x/\pc.val=v/\Good w pc/\∀b,aS b pc->G.Im b\/∃n gr m sz xs,c.dA=some n/\h n=some (.row gr m sz xs)/\rq G n b:=by
 cases c with
 |c y=>
  simp only[Am.cg] at hx
  injection hx with hx
  subst hx
  obtain⟨pc,h1,h2,h3,h4⟩:=hc
  exact⟨pc,h1,h2,h3,fun b hb=>.inl (h4 b hb)⟩
 |nil sz=>
  simp only[Am.cg] at hx
  split at hx
  ·rename_i dL
   injection hx with hx
   subst hx
   have cv:v=.slice none 0 0:=hc
   subst cv
   refine⟨.list sz none 0 [],by simp[PC.dJ],rfl,.nil _ _ _ dL,fun b hb=>?_⟩
   rw[aS.kq] at hb
   rcases hb with⟨hb,_⟩|⟨k,j,c,⟨e,he,_⟩,_⟩
   ·exact absurd rfl hb
   ·simp at he
  ·cases hx
 |sl n sz lo len=>
  simp only[Am.cg] at hx
  split at hx
  ·rename_i gr m rs xs hn
   split at hx
   ·rename_i cI
    obtain⟨rfl,hl⟩:=cI
    injection hx with hx
    subst hx
    have hs:jq (G.g n) rs lo len v:=hc (by rw[hn];simp)
    obtain⟨a1,a2,a3,a4⟩:=E3 (H.row n gr m rs xs hn) hs hl
    exact⟨_,a1,a2,a3,fun b hb=>.inr ⟨n,gr,m,rs,xs,rfl,hn,a4 b hb⟩⟩
   ·cases hx
  ·cases hx
 |bz n k az off sz len=>
  simp only[Am.cg] at hx
  split at hx
  ·rename_i gr rs xs hn
   split at hx
   ·rename_i cI
    subst cI
    obtain⟨pc,p1,p2,p3⟩:=hc gr xs hn
    have hr:=H.row n gr .live rs xs hn
    have aL:(G.g n).nl=false:=by
     cases hq:(G.g n).nl with
     |false=>rfl
     |true=>obtain⟨e,he,_⟩:=p1;rw[(hr.nl hq).1] at he;simp at he
    refine⟨pc,?_,p2,(hr.dR aL).2.1.2.2 _ _ _ p1,fun b hb=>.inr ⟨n,gr,.live,rs,xs,rfl,hn,.inr ⟨k,off,pc,p1,hb⟩⟩⟩
    obtain⟨e,he,hj⟩:=p1
    rw[hr.er] at hx
    simp[he,hj] at hx
    exact hx
   ·cases hx
  ·cases hx
 |ptr _ _ _ _=>simp[Am.cg] at hx
 |cu _ _=>simp[Am.cg] at hx
 |fn _ _=>simp[Am.cg] at hx
 |cQ _ _ _ _ _ _=>simp[Am.cg] at hx
 |bm=>simp[Am.cg] at hx
theorem Zm {ns:List Nat} {n:Nat} {b:ao} (hx:dN h ns n=some b):h n=some b/\n∉ns:=by
 unfold dN at hx
 split at hx
 ·cases hx
 ·rename_i hc
  exact⟨hx,fun hm=>hc (by simpa using hm)⟩
theorem ac0 {ns:List Nat} {c:ah} {x:C} (hx:cg (dN h ns) c=some x):cg h c=some x/\∀n,c.dA=some n->n∉ns:=by
 cases c with
 |c y=>exact⟨hx,by intro n hn;cases hn⟩
 |nil sz=>exact⟨hx,by intro n hn;cases hn⟩
 |sl n sz lo len=>
  simp only[Am.cg] at hx
  split at hx
  ·rename_i gr m rs xs hn
   obtain⟨h1,h2⟩:=Zm hn
   exact⟨by simp only[Am.cg,h1];exact hx,by intro q hq;injection hq with hq;subst hq;exact h2⟩
  ·cases hx
 |bz n k az off sz len=>
  simp only[Am.cg] at hx
  split at hx
  ·rename_i gr rs xs hn
   obtain⟨h1,h2⟩:=Zm hn
   exact⟨by simp only[Am.cg,h1];exact hx,by intro q hq;injection hq with hq;subst hq;exact h2⟩
  ·cases hx
 |ptr _ _ _ _=>simp[Am.cg] at hx
 |cu _ _=>simp[Am.cg] at hx
 |fn _ _=>simp[Am.cg] at hx
 |cQ _ _ _ _ _ _=>simp[Am.cg] at hx
 |bm=>simp[Am.cg] at hx
def KO (G:Gh) (h:Nat->Option ao) (ns:List Nat) (pc:PC):Prop:=
 ∀b,aS b pc->G.Im b\/∃n gr m sz xs,n∉ns/\h n=some (.row gr m sz xs)/\rq G n b
structure me (B:Nat) (E:Ex) (w:World) (G:Gh) (h:Nat->Option ao) (its:List (cM×Mode)) (fl:List (Mode×PC)):Prop where
 len:its.length=fl.length
 at_:∀(i:Nat) (it:cM×Mode) (x:Mode×PC),its[i]? =some it->fl[i]? =some x->it.2=x.1/\sb B E w G h it.1 x.1 x.2
theorem me.nil:me B E w G h [] []:=⟨rfl,by intro i it x h;simp at h⟩
theorem me.cons {it:cM×Mode} {its:List (cM×Mode)} {x:Mode×PC} {fl:List (Mode×PC)} (h1:it.2=x.1) (h2:sb B E w G h it.1 x.1 x.2) (h3:me B E w G h its fl):me B E w G h (it::its) (x::fl):=by
 refine⟨by simp[h3.len],fun i yK x' hi hx=>?_⟩
 cases i with
 |zero=>simp at hi hx;subst hi;subst hx;exact⟨h1,h2⟩
 |succ i=>exact h3.at_ i yK x' (by simpa using hi) (by simpa using hx)
theorem me.append {its uI:List (cM×Mode)} {fl XU:List (Mode×PC)} (h1:me B E w G h its fl) (h2:me B E w G h uI XU):me B E w G h (its++uI) (fl++XU):=by
 refine⟨by simp[h1.len,h2.len],fun i it x hi hx=>?_⟩
 by_cases bG:i<its.length
 ·rw[List.getElem?_append_left bG] at hi
  rw[List.getElem?_append_left (by rw[<-h1.len];exact bG)] at hx
  exact h1.at_ i it x hi hx
 ·rw[List.getElem?_append_right (by omega)] at hi
  rw[List.getElem?_append_right (by rw[<-h1.len];omega)] at hx
  rw[h1.len] at hi
  exact h2.at_ _ it x hi hx
theorem HR.jE (H:HR B E w G h used []) {ns:List Nat}:∀{fs:List (Option Mode)} {cs:List ah} {xs:List C} {its:List (cM×Mode)} {vs:List Value},Am.jE h (dN h ns) fs cs=some (xs,its)->cN w G h cs vs->
  ∃ps:List PC,ps.map PC.er=xs/\ps.map PC.val=vs/\(∀pc∈ps,Good w pc)/\me B E w G h its (eo fs ps)/\its.filterMap (·.1.dA)=mR fs cs/\∀pc∈nB fs ps,KO G h ns pc
 |[],cs,xs,its,vs,hx,hc=>by
  simp only[Am.jE] at hx
  split at hx
  ·rename_i ys hy
   injection hx with hx
   injection hx with h1 h2
   subst h1 h2
   have cf:∀(cs:List ah) (xs:List C) (vs:List Value),Am.gG (dN h ns) cs=some xs->cN w G h cs vs->∃ps:List PC,ps.map PC.er=xs/\ps.map PC.val=vs/\(∀pc∈ps,Good w pc)/\∀pc∈ps,KO G h ns pc:=by
    intro cs
    induction cs with
    |nil=>
     intro xs vs hx hc
     simp only[Am.gG] at hx
     injection hx with hx
     subst hx
     have:vs=[]:=List.eq_nil_of_length_eq_zero (by simpa using hc.1)
     subst this
     exact⟨[],rfl,rfl,by simp,by simp⟩
    |cons c cs ih=>
     intro xs vs hx hc
     simp only[Am.gG] at hx
     split at hx
     ·rename_i x aq e1 e2
      injection hx with hx
      subst hx
      obtain⟨hlen,bQ⟩:=hc
      match vs,hlen with
      |v::vs,hlen=>
       obtain⟨v1,v2⟩:=ac0 e1
       obtain⟨pc,a1,a2,a3,a4⟩:=H.Vs v1 (bQ 0 c v rfl rfl).2
       obtain⟨ps,b1,b2,b3,b4⟩:=ih aq vs e2 ⟨by simpa using hlen,fun j c u h1 h2=>bQ (j+1) c u h1 h2⟩
       refine⟨pc::ps,by simp[a1,b1],by simp[a2,b2],fun q hq=>?_,fun q hq=>?_⟩
       ·cases hq with
        |head=>exact a3
        |tail _ hq=>exact b3 q hq
       ·cases hq with
        |head=>exact fun b hb=>(a4 b hb).imp id fun⟨n,gr,m,sz,xs,hn,h1,h2⟩=>⟨n,gr,m,sz,xs,v2 n hn,h1,h2⟩
        |tail _ hq=>exact b4 q hq
     ·cases hx
   obtain⟨ps,b1,b2,b3,b4⟩:=cf cs ys vs hy hc
   exact⟨ps,b1,b2,b3,by simpa[eo] using me.nil,by simp[mR],by simpa[nB] using b4⟩
  ·cases hx
 |f::fs,[],xs,its,vs,hx,hc=>by cases f<;>simp[Am.jE] at hx
 |none::fs,c::cs,xs,its,vs,hx,hc=>by
  simp only[Am.jE] at hx
  split at hx
  ·rename_i x aq uI e1 e2
   injection hx with hx
   injection hx with h1 h2
   subst h1 h2
   obtain⟨hlen,bQ⟩:=hc
   match vs,hlen with
   |v::vs,hlen=>
    obtain⟨v1,v2⟩:=ac0 e1
    obtain⟨pc,a1,a2,a3,a4⟩:=H.Vs v1 (bQ 0 c v rfl rfl).2
    obtain⟨ps,b1,b2,b3,b4,b5,b6⟩:=H.jE e2 (vs:=vs) ⟨by simpa using hlen,fun j c u h1 h2=>bQ (j+1) c u h1 h2⟩
    refine⟨pc::ps,by simp[a1,b1],by simp[a2,b2],fun q hq=>?_,by simpa[eo] using b4,by simpa[mR] using b5,fun q hq=>?_⟩
    ·cases hq with
     |head=>exact a3
     |tail _ hq=>exact b3 q hq
    ·simp only[nB] at hq
     cases hq with
     |head=>exact fun b hb=>(a4 b hb).imp id fun⟨n,gr,m,sz,xs,hn,h1,h2⟩=>⟨n,gr,m,sz,xs,v2 n hn,h1,h2⟩
     |tail _ hq=>exact b6 q hq
  ·cases hx
 |some md::fs,c::cs,xs,its,vs,hx,hc=>by
  simp only[Am.jE] at hx
  split at hx
  ·rename_i it x aq uI e1 e2
   injection hx with hx
   injection hx with h1 h2
   subst h1 h2
   obtain⟨hlen,bQ⟩:=hc
   match vs,hlen with
   |v::vs,hlen=>
    obtain⟨pc,a1,a2,a3,a4⟩:=H.item e1 (bQ 0 c v rfl rfl).2
    obtain⟨ps,b1,b2,b3,b4,b5,b6⟩:=H.jE e2 (vs:=vs) ⟨by simpa using hlen,fun j c u h1 h2=>bQ (j+1) c u h1 h2⟩
    refine⟨pc::ps,by simp[a1,b1],by simp[a2,b2],fun q hq=>?_,?_,?_,fun q hq=>b6 q (by simpa[nB] using hq)⟩
    ·cases hq with
     |head=>exact a3.eu
     |tail _ hq=>exact b3 q hq
    ·simp only[eo]
     exact me.cons rfl a3 b4
    ·simp only[mR,<-a4,<-b5]
     cases f7:it.dA with
     |none=>simp[f7]
     |some n=>simp[f7]
  ·cases hx
theorem HR.kO (H:HR B E w G h used []) {ns:List Nat}:∀{as:List (Bool×List ah)} {sig:aN} {ds:List Dv} {its:List (cM×Mode)} {vals:List Value},Am.kO h (dN h ns) sig as=some (ds,its)->vals.length=as.length->
  (∀(j:Nat) (x:Bool×List ah) (v:Value),as[j]? =some x->vals[j]? =some v->RV w G h x.1 x.2 v)->
  ∃pas:List PA,pas.length=ds.length/\vals.length=ds.length/\(∀(i:Nat) (d:Dv) (v:Value) (p:PA),ds[i]? =some d->vals[i]? =some v->pas[i]? =some p->zz w d v p)/\(∀p∈pas,p.k≠ .ptr)/\
   me B E w G h its (eC sig (pas.map (·.ps)))/\its.filterMap (·.1.dA)=jV sig as/\∀pc∈pI sig (pas.map (·.ps)),KO G h ns pc
 |[],sig,ds,its,vals,hx,hl,hc=>by
  simp only[Am.kO] at hx
  injection hx with hx
  injection hx with h1 h2
  subst h1 h2
  refine⟨[],rfl,by simpa using hl,by simp,by simp,?_,?_,?_⟩
  ·cases sig<;>exact me.nil
  ·cases sig<;>rfl
  ·cases sig<;>simp[pI]
 |(ag,cs)::as,sig,ds,its,vals,hx,hl,hc=>by
  simp only[Am.kO] at hx
  split at hx
  ·rename_i xs ZL tK ZM e1 e2
   injection hx with hx
   injection hx with h1 h2
   subst h1 h2
   match vals,hl with
   |v::vals,hl=>
    have h0:=hc 0 (ag,cs) v rfl rfl
    obtain⟨q1,q2,q3,q4,q5,q6,q7⟩:=H.kO e2 (as:=as) (vals:=vals) (by simpa using hl) (fun j x v h1 h2=>hc (j+1) x v h1 h2)
    obtain⟨vs,iJ,hR⟩:∃vs:List Value,(if ag=true then v=.agg vs.toArray else vs=[v])/\cN w G h cs vs:=by
     unfold RV at h0
     split at h0
     ·rename_i bo
      obtain⟨vs,e,hR⟩:=h0
      exact⟨vs,by rw[if_pos bo];exact e,hR⟩
     ·rename_i bo
      exact⟨[v],by rw[if_neg bo],h0⟩
    obtain⟨ps,p1,p2,p3,p4,p5,p6⟩:=H.jE e1 hR
    refine⟨⟨if ag=true then .agg else .one,ps,0,0⟩::q1,by simp[q2],by simp[q3],fun i d v' p hd hv hp=>?_,fun p hp=>?_,?_,?_,?_⟩
    ·cases i with
     |zero=>
      simp at hd hv hp
      subst hd hv hp
      cases ag with
      |true=>
       simp only[if_true] at iJ⊢
       exact⟨by rw[p1],p3,by simp only[p2];exact iJ⟩
      |false=>
       simp only[if_false,Bool.false_eq_true] at iJ⊢
       exact⟨by rw[p1],p3,by simp only[p2];exact iJ⟩
     |succ i=>exact q4 i d v' p (by simpa using hd) (by simpa using hv) (by simpa using hp)
    ·cases hp with
     |head=>cases ag<;>simp
     |tail _ hp=>exact q5 p hp
    ·cases sig with
     |nil=>
      have e3:eo (aN.hd ([]:aN)) ps=[]:=rfl
      rw[e3] at p4
      have e4:ZL=[]:=List.eq_nil_of_length_eq_zero p4.len
      subst e4
      have e5:eC (aN.tl ([]:aN)) (q1.map (·.ps))=[]:=rfl
      rw[e5] at q6
      have e6:ZM=[]:=List.eq_nil_of_length_eq_zero q6.len
      subst e6
      exact me.nil
     |cons s sig=>exact me.append p4 q6
    ·cases sig with
     |nil=>
      have e3:eo (aN.hd ([]:aN)) ps=[]:=rfl
      rw[e3] at p4
      have e4:ZL=[]:=List.eq_nil_of_length_eq_zero p4.len
      subst e4
      have e5:eC (aN.tl ([]:aN)) (q1.map (·.ps))=[]:=rfl
      rw[e5] at q6
      have e6:ZM=[]:=List.eq_nil_of_length_eq_zero q6.len
      subst e6
      rfl
     |cons s sig=>
      rw[List.filterMap_append,p5,q7.1]
      rfl
    ·intro pc aZ
     cases sig with
     |nil=>
      simp only[List.map_cons,pI,List.flatten_cons,List.mem_append] at aZ
      rcases aZ with aZ|aZ
      ·exact p6 pc aZ
      ·exact q7.2 pc (by simpa[pI,aN.tl] using aZ)
     |cons s sig=>
      simp only[List.map_cons,pI,List.mem_append] at aZ
      rcases aZ with aZ|aZ
      ·exact p6 pc aZ
      ·exact q7.2 pc aZ
  ·cases hx
end
end Go.Am
