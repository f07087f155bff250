/- AmM: functions that change lists of their arguments: what is said of them, and the caller's side of a call. No condition. -/
import Derived.Test.YtifmggmhdcdgbaaAm16
set_option linter.unusedVariables false
namespace Go.Am
def dO {α:Type}:List (Option Mode)->List α->List (Mode×α)
 |some m::fs,x::xs=>(m,x)::dO fs xs
 |none::fs,_::xs=>dO fs xs
 |_,_=>[]
def nk {α:Type}:List (Option Mode)->List α->List α
 |some _::fs,_::xs=>nk fs xs
 |none::fs,x::xs=>x::nk fs xs
 |[],xs=>xs
 |_,[]=>[]
def eg {α:Type}:be->List (List α)->List (Mode×α)
 |s::sig,xs::rT=>dO s xs++eg sig rT
 |_,_=>[]
def pj {α:Type}:be->List (List α)->List α
 |s::sig,xs::rT=>nk s xs++pj sig rT
 |[],rT=>rT.flatten
 |_,[]=>[]
theorem Ij {α β:Type} (f:α->β):∀(s:List (Option Mode)) (xs:List α),dO s (xs.map f)=(dO s xs).map fun x=>(x.1,f x.2)
 |some m::fs,x::xs=>by simp only[List.map_cons,dO,Ij f fs xs]
 |none::fs,x::xs=>by simp only[List.map_cons,dO,Ij f fs xs]
 |[],_=>by simp[dO]
 |some m::fs,[]=>rfl
 |none::fs,[]=>rfl
theorem Ii {α β:Type} (f:α->β):∀(s:be) (xs:List (List α)),eg s (xs.map fun l=>l.map f)=(eg s xs).map fun x=>(x.1,f x.2)
 |s::sig,xs::rT=>by simp only[List.map_cons,eg,List.map_append,Ij f s xs,Ii f sig rT]
 |[],_=>by simp[eg]
 |s::sig,[]=>rfl
structure xS (w:World) (m:Mode) (pc:PC):Prop where
 sep:Sep pc
 un:∀b,aP b pc->dr w b
 dD:∃sz a cap xs,pc=.list sz a cap xs/\0<sz/\(∀b o,a=some (ad b o)->¬aS b xs)/\sq m (xs.map fun e=>e.map PC.er)=true
structure PA where
 k:K
 ps:List PC
 b:Nat
 o:Nat
def zF (w:World) (d:Dv) (v:Value) (p:PA):Prop:=
 d=(p.k,p.ps.map PC.er)/\(∀pc∈p.ps,Good w pc)/\
 match p.k with
 |.one=>p.ps.map PC.val=[v]
 |.agg=>v=.agg (p.ps.map PC.val).toArray
 |.ptr=>v=.pointer (some (ad p.b p.o))/\p.b<w.heap.size/\∀j c,p.ps[j]? =some c->w.cell? (ad p.b (p.o+j))=some c.val
structure LW (w:World) (sig:be) (ds:List Dv) (vals:List Value) (pas:List PA):Prop where
 l1:vals.length=ds.length
 l2:pas.length=ds.length
 at_:∀(i:Nat) (d:Dv) (v:Value) (p:PA),ds[i]? =some d->vals[i]? =some v->pas[i]? =some p->zF w d v p
 ok:∀x∈eg sig (pas.map (·.ps)),xS w x.1 x.2
 mI:(eg sig (pas.map (·.ps))).Pairwise fun x y=>∀b,aP b x.2->¬aP b y.2
 free:∀pc∈pj sig (pas.map (·.ps)),∀x∈eg sig (pas.map (·.ps)),∀b,aP b pc->¬aP b x.2
 ptr:∀p∈pas,p.k=.ptr->∀x∈eg sig (pas.map (·.ps)),¬aP p.b x.2
 alX:∀(i:Nat) (p:PA) (s:List (Option Mode)),pas[i]? =some p->sig[i]? =some s->p.k=.ptr->s=[]
def MT (fl:List (Mode×PC)):Ex:=⟨fun b=>∃x∈fl,aP b x.2,fun _=>none,fun _ _ h=>(by cases h),fun _=>True⟩
structure vG (w:World) (m:Mode) (pc c6:PC):Prop where
 val:c6.val=pc.val
 eD:Good w c6
 sep:Sep c6
 sub:∀b,aP b c6->aP b pc
 flat:sq m (match c6.er with|.list _ xs=>xs|_=>[])=true
 live:∀sz a cap xs aK a' sd av,pc=.list sz a cap xs->c6=.list aK a' sd av->aK=sz/\a'=a/\sd=cap/\av.length=xs.length/\
  (m=.live->∀k j c,At xs k j c->c.gk=true->∃c',At av k j c'/\c'.val=c.val/\c'.gk=true)
def r5 (P:Program) (f:FuncId) (sig:be) (M:List Dv->Option (List Dv×List C)):Prop:=
 ∀ds rs ew,M ds=some (rs,ew)->∀(w:World) (vals:List Value) (pas:List PA),LW w sig ds vals pas->Calls P f vals.toArray w fun e w'=>
  ∃aR:List (K×List PC),aR.map (fun p=>(p.1,p.2.map PC.er))=rs/\e=.returned (xi aR)/\(∀p∈aR,p.1≠ .ptr/\(p.1=.one->p.2.length=1))/\
   CW w' w.heap.size (aR.flatMap (·.2))/\Fr w.heap.size (MT (eg sig (pas.map (·.ps)))) w w'/\
   ∃qs:List PC,qs.map PC.er=ew/\qs.length=(eg sig (pas.map (·.ps))).length/\
    ∀(i:Nat) (x:Mode×PC) (q:PC),(eg sig (pas.map (·.ps)))[i]? =some x->qs[i]? =some q->vG w' x.1 x.2 q
section
variable {B:Nat} {E:Ex} {w0 w w':World} {G G':Gh} {N:Nat} {h h':Nat->Option ar} {used:Nat->Bool}
variable {P:Program} {o:Oper} {a:Act} {σ σ':St} {Q:Exit->Act->World->Prop}
def pd (sz:Nat) (p:PB):PC:=.list sz (if p.nl=true then p.na else some (ad p.b p.o)) p.cap p.px
theorem ang {gr:Bool} {m:Mode} {sz:Nat} {xs:List (List C)} {p:PB} (hr:tW B E w G gr m sz xs p):(pd sz p).er=.list sz xs:=by
 rw[pd,PC.dz,hr.er]
theorem ani {gr:Bool} {m:Mode} {sz:Nat} {xs:List (List C)} {p:PB} (hr:tW B E w G gr m sz xs p) {v:Value} (hv:jF p sz 0 xs.length v):(pd sz p).val=v:=by
 have fx:p.px.length=xs.length:=by rw[hr.er];simp
 rcases hv with⟨hn,rfl,_,hl⟩|⟨hn,a,rfl,hc,ha⟩
 ·simp[pd,PC.val,hn,fx,hl]
 ·have:=ha (.inr rfl)
  subst this
  simp[pd,PC.val,hn,fx]
theorem anh {gr:Bool} {m:Mode} {sz:Nat} {xs:List (List C)} {p:PB} (hr:tW B E w G gr m sz xs p):Good w (pd sz p):=by
 unfold pd
 by_cases h0:p.px=[]
 ·rw[h0];exact .nil _ _ _ hr.pos
 ·have aM:p.nl=false:=by
   cases hq:p.nl with
   |false=>rfl
   |true=>exact absurd (hr.nl hq).1 h0
  obtain⟨a1,a2,a3⟩:=hr.dD aM
  rw[if_neg (by simp[aM])]
  exact .cons _ _ _ _ _ h0 a3 hr.pos a2.1 a2.2.1 a2.2.2
theorem R7 {sz:Nat} {p:PB} {b:Nat} (hn:p.nl=true->p.px=[]) (h:aP b (pd sz p)):(p.nl=false/\b=p.b)\/aS b p.px:=by
 unfold pd at h
 rw[aP.ka] at h
 rcases h with⟨h0,o,ho⟩|⟨k,j,c,hk,hb⟩
 ·cases hq:p.nl with
  |true=>exact absurd (hn hq) h0
  |false=>
   rw[hq] at ho
   simp at ho
   exact .inl ⟨rfl,(nz ho).1.symm⟩
 ·exact .inr ⟨k,j,c,hk,hb⟩
def su (G:Gh) (n b:Nat):Prop:=((G.g n).nl=false/\b=(G.g n).b)\/aS b (G.g n).px
structure rZ (B:Nat) (E:Ex) (w:World) (G:Gh) (h:Nat->Option ar) (it:cZ) (md:Mode) (pc:PC):Prop where
 ok:xS w md pc
 eD:Good w pc
 at_:match it with
  |.nil sz=>pc=.list sz none 0 []
  |.row n=>∃gr m sz xs,h n=some (.row gr m sz xs)/\m≠ .aA/\(md=.live->m=.live)/\pc=pd sz (G.g n)/\sq md xs=true
  |.nest n k off=>∃gr sz xs,h n=some (.row gr .live sz xs)/\md=.ab/\At (G.g n).px k off pc
theorem rZ.nJ {it:cZ} {md:Mode} {pc:PC} (H:HR B E w G h used []) (i:rZ B E w G h it md pc) {b:Nat} (hb:aP b pc):
  ∃n gr m sz xs,it.dE=some n/\h n=some (.row gr m sz xs)/\m≠ .aA/\su G n b/\((∀b,¬aS b (G.g n).px)\/m=.live):=by
 have ha:=i.at_
 cases it with
 |nil sz=>
  have ha:pc=.list sz none 0 []:=ha
  subst ha
  rw[aP.ka] at hb
  rcases hb with⟨hb,_⟩|⟨k,j,c,⟨e,he,_⟩,_⟩
  ·exact absurd rfl hb
  ·simp at he
 |row n=>
  obtain⟨gr,m,sz,xs,h1,h2,h3,rfl,h5⟩:=ha
  have hr:=H.row n gr m sz xs h1
  refine⟨n,gr,m,sz,xs,rfl,h1,h2,R7 (fun hq=>(hr.nl hq).1) hb,?_⟩
  cases md with
  |live=>exact .inr (h3 rfl)
  |aA=>cases h5
  |ab=>
   left
   intro b' aT
   have Is:fN xs=true:=h5
   rw[hr.er] at Is
   obtain⟨k,j,c,⟨e,he,hj⟩,hc⟩:=aT
   have h6:=List.all_eq_true.1 Is (e.map PC.er) (by simp only[List.mem_map];exact⟨e,List.mem_of_getElem? he,rfl⟩)
   have h7:=List.all_eq_true.1 h6 c.er (by simp only[List.mem_map];exact⟨c,List.mem_of_getElem? hj,rfl⟩)
   exact(Sep.kK h7).2 b' hc
 |nest n k off=>
  obtain⟨gr,sz,xs,h1,h2,h3⟩:=ha
  exact⟨n,gr,.live,sz,xs,rfl,h1,by simp,.inr ⟨k,off,pc,h3,hb⟩,.inr rfl⟩
theorem HR.Io (H:HR B E w G h used []) {n n':Nat} (ax:n≠n') {gr bk:Bool} {m m':Mode} {sz aK:Nat} {xs av:List (List C)} (h1:h n=some (.row gr m sz xs)) (h2:h n'=some (.row bk m' aK av))
  (bB:(∀b,¬aS b (G.g n').px)\/m'=.live) {b:Nat} (hb:su G n b):¬su G n' b:=by
 have e1:h n≠none:=by rw[h1];simp
 have e2:h n'≠none:=by rw[h2];simp
 have own:∀{p q:Nat} {gr:Bool} {m:Mode} {sz:Nat} {xs:List (List C)},h p≠none->h q=some (.row gr m sz xs)->(G.g p).nl=false->¬aS (G.g p).b (G.g q).px:=by
  intro p q gr m sz xs hp hq hl hF
  have gD:=(H.row q gr m sz xs hq).mode
  cases m with
  |aA=>exact(H.own p hp hl).1 (gD _ hF)
  |ab=>exact(H.own p hp hl).1 (gD.1 _ hF).1
  |live=>exact H.live q gr sz xs hq _ hF p hp hl rfl
 rintro(⟨l2,rfl⟩|b2)
 ·rcases hb with⟨l1,b1⟩|b1
  ·exact H.inj n n' e1 e2 ax l1 l2 b1.symm
  ·exact own e2 h1 l2 b1
 ·rcases hb with⟨l1,rfl⟩|b1
  ·exact own e1 h2 l1 b2
  ·rcases bB with bB|rfl
   ·exact bB b b2
   ·have q2:=(H.row n' bk .live aK av h2).mode
    have q1:=(H.row n gr m sz xs h1).mode
    cases m with
    |aA=>exact(q2.1 b b2).1 (q1 b b1)
    |ab=>exact(q2.1 b b2).1 (q1.1 b b1).1
    |live=>exact H.fv n n' gr .live sz xs bk .live aK av h1 h2 (by simp) (by simp) ax b b1 b2
theorem HR.item (H:HR B E w G h used []) {md:Mode} {c:ai} {it:cZ} {x:C} {v:Value} (hx:y6 h md c=some (it,x)) (hc:RC w G h c v):
  ∃pc:PC,pc.er=x/\pc.val=v/\rZ B E w G h it md pc/\it.dE=c.dE:=by
 unfold y6 at hx
 split at hx
 ·rename_i sz
  split at hx
  ·rename_i eE
   injection hx with hx
   injection hx with h1 h2
   subst h1 h2
   have cj:v=.slice none 0 0:=hc
   subst cj
   refine⟨.list sz none 0 [],by simp[PC.dz],rfl,⟨⟨?_,?_,sz,none,0,[],rfl,eE.1,(fun b o h=>by cases h),?_⟩,.nil _ _ _ eE.1,rfl⟩,rfl⟩
   ·refine .list _ _ _ _ ?_ ?_ ?_
    ·rintro k j c ⟨e,he,_⟩;simp at he
    ·rintro b o k j c _ ⟨e,he,_⟩;simp at he
    ·rintro k j c k' j' c' b ⟨e,he,_⟩;simp at he
   ·intro b hb
    rw[aP.ka] at hb
    rcases hb with⟨hb,_⟩|⟨k,j,c,⟨e,he,_⟩,_⟩
    ·exact absurd rfl hb
    ·simp at he
   ·cases md with
    |aA=>exact absurd rfl eE.2
    |ab=>rfl
    |live=>rfl
  ·cases hx
 ·rename_i n sz lo len
  split at hx
  ·rename_i gr m rs xs hn
   split at hx
   ·rename_i cu
    obtain⟨hm,sB,rfl,rfl,rfl,jn⟩:=cu
    injection hx with hx
    injection hx with h1 h2
    subst h1 h2
    have bJ:h n≠none:=by rw[hn];simp
    have hs:jF (G.g n) rs 0 xs.length v:=hc bJ
    have hr:=H.row n gr m rs xs hn
    have rn:(∀b,aS b (G.g n).px->dr w b)/\g7 (G.g n).px/\(∀b,aS b (G.g n).px->(G.g n).nl=false->b≠(G.g n).b):=by
     have cJ:=hr.mode
     cases m with
     |aA=>exact absurd rfl hm
     |ab=>exact⟨fun b hb=>(cJ.1 b hb).2.1,cJ.2,fun b hb hl dm=>(H.own n bJ hl).1 (dm▸(cJ.1 b hb).1)⟩
     |live=>exact⟨fun b hb=>(cJ.1 b hb).2.1,cJ.2,fun b hb hl=>H.live n gr rs xs hn b hb n bJ hl⟩
    obtain⟨o1,o2,o3⟩:=rn
    have AU:∀b o,(if(G.g n).nl=true then(G.g n).na else some (ad (G.g n).b (G.g n).o))=some (ad b o)->¬aS b (G.g n).px:=by
     intro b o eK hF
     cases hq:(G.g n).nl with
     |true=>rw[(hr.nl hq).1] at hF;obtain⟨k,j,c,⟨e,he,_⟩,_⟩:=hF;simp at he
     |false=>
      rw[hq] at eK
      simp at eK
      exact o3 b hF hq (nz eK).1.symm
    refine⟨pd rs (G.g n),ang hr,ani hr hs,⟨⟨.list _ _ _ _ o2.1 (fun b o k j c eK hk hb=>AU b o eK ⟨k,j,c,hk,hb⟩) o2.2,fun b hb=>?_,rs,_,_,_,rfl,hr.pos,AU,by rw[<-hr.er];exact jn⟩,anh hr,
     gr,m,rs,xs,hn,hm,sB,rfl,jn⟩,rfl⟩
    rcases R7 (fun hq=>(hr.nl hq).1) hb with⟨hl,rfl⟩|hF
    ·exact(hr.dD hl).1
    ·exact o1 b hF
   ·cases hx
  ·cases hx
 ·rename_i n k az off sz len
  split at hx
  ·rename_i gr rs xs hn
   split at hx
   ·rename_i cu
    obtain⟨rfl,rfl⟩:=cu
    split at hx
    ·rename_i s ys rr
     split at hx
     ·rename_i jn
      injection hx with hx
      injection hx with h1 h2
      subst h1 h2
      obtain⟨pc,p1,p2,p3⟩:=hc gr xs hn
      have hr:=H.row n gr .live rs xs hn
      have aM:(G.g n).nl=false:=by
       cases hq:(G.g n).nl with
       |false=>rfl
       |true=>obtain⟨e,he,_⟩:=p1;rw[(hr.nl hq).1] at he;simp at he
      have gC:Good w pc:=(hr.dD aM).2.1.2.2 _ _ _ p1
      have uw:pc.er=.list s ys:=by
       obtain⟨e,he,hj⟩:=p1
       rw[hr.er] at rr
       simp[he,hj] at rr
       exact rr
      have j4:=hr.mode.2.1 _ _ _ p1
      cases pc with
      |int k n=>cases p3
      |bool b=>cases p3
      |list s' a' sd px'=>
       rw[PC.dz] at uw
       injection uw with g1 g2
       subst g1
       have iY:fN (px'.map fun e=>e.map PC.er)=true:=by rw[g2];exact jn
       refine⟨_,by rw[PC.dz,g2],p2,⟨⟨j4,fun b hb=>(hr.mode.1 b ⟨k,off,_,p1,hb⟩).2.1,s',a',sd,px',rfl,?_,fun b o _ hF=>?_,iY⟩,gC,gr,rs,xs,hn,rfl,p1⟩,rfl⟩
       ·cases gC with
        |nil _ _ _ h=>exact h
        |cons _ _ _ _ _ _ _ h=>exact h
       ·obtain⟨kk,jj,c,⟨e,he,hj⟩,hc⟩:=hF
        have h6:=List.all_eq_true.1 iY (e.map PC.er) (by simp only[List.mem_map];exact⟨e,List.mem_of_getElem? he,rfl⟩)
        have h7:=List.all_eq_true.1 h6 c.er (by simp only[List.mem_map];exact⟨c,List.mem_of_getElem? hj,rfl⟩)
        exact(Sep.kK h7).2 b hc
     ·cases hx
    ·cases hx
   ·cases hx
  ·cases hx
 ·cases hx
theorem HR.U8 (H:HR B E w G h used []) {c:ai} {x:C} {v:Value} (hx:Am.bR h c=some x) (hc:RC w G h c v):
  ∃pc:PC,pc.er=x/\pc.val=v/\Good w pc/\∀b,aP b pc->G.Im b\/∃n gr m sz xs,c.dE=some n/\h n=some (.row gr m sz xs)/\su G n b:=by
 cases c with
 |c y=>
  simp only[Am.bR] at hx
  injection hx with hx
  subst hx
  obtain⟨pc,h1,h2,h3,h4⟩:=hc
  exact⟨pc,h1,h2,h3,fun b hb=>.inl (h4 b hb)⟩
 |nil sz=>
  simp only[Am.bR] at hx
  split at hx
  ·rename_i eE
   injection hx with hx
   subst hx
   have cj:v=.slice none 0 0:=hc
   subst cj
   refine⟨.list sz none 0 [],by simp[PC.dz],rfl,.nil _ _ _ eE,fun b hb=>?_⟩
   rw[aP.ka] at hb
   rcases hb with⟨hb,_⟩|⟨k,j,c,⟨e,he,_⟩,_⟩
   ·exact absurd rfl hb
   ·simp at he
  ·cases hx
 |sl n sz lo len=>
  simp only[Am.bR] at hx
  split at hx
  ·rename_i gr m rs xs hn
   split at hx
   ·rename_i cu
    obtain⟨rfl,hl⟩:=cu
    injection hx with hx
    subst hx
    have hs:jF (G.g n) rs lo len v:=hc (by rw[hn];simp)
    obtain⟨a1,a2,a3,a4⟩:=Fj (H.row n gr m rs xs hn) hs hl
    exact⟨_,a1,a2,a3,fun b hb=>.inr ⟨n,gr,m,rs,xs,rfl,hn,a4 b hb⟩⟩
   ·cases hx
  ·cases hx
 |bx n k az off sz len=>
  simp only[Am.bR] at hx
  split at hx
  ·rename_i gr rs xs hn
   split at hx
   ·rename_i cu
    subst cu
    obtain⟨pc,p1,p2,p3⟩:=hc gr xs hn
    have hr:=H.row n gr .live rs xs hn
    have aM:(G.g n).nl=false:=by
     cases hq:(G.g n).nl with
     |false=>rfl
     |true=>obtain⟨e,he,_⟩:=p1;rw[(hr.nl hq).1] at he;simp at he
    refine⟨pc,?_,p2,(hr.dD aM).2.1.2.2 _ _ _ p1,fun b hb=>.inr ⟨n,gr,.live,rs,xs,rfl,hn,.inr ⟨k,off,pc,p1,hb⟩⟩⟩
    obtain⟨e,he,hj⟩:=p1
    rw[hr.er] at hx
    simp[he,hj] at hx
    exact hx
   ·cases hx
  ·cases hx
 |ptr _ _ _ _=>simp[Am.bR] at hx
 |ca _ _=>simp[Am.bR] at hx
 |fn _ _=>simp[Am.bR] at hx
 |cD _ _ _ _ _ _=>simp[Am.bR] at hx
 |bh=>simp[Am.bR] at hx
theorem Yu {ns:List Nat} {n:Nat} {b:ar} (hx:eF h ns n=some b):h n=some b/\n∉ns:=by
 unfold eF at hx
 split at hx
 ·cases hx
 ·rename_i hc
  exact⟨hx,fun hm=>hc (by simpa using hm)⟩
theorem acH {ns:List Nat} {c:ai} {x:C} (hx:bR (eF h ns) c=some x):bR h c=some x/\∀n,c.dE=some n->n∉ns:=by
 cases c with
 |c y=>exact⟨hx,by intro n hn;cases hn⟩
 |nil sz=>exact⟨hx,by intro n hn;cases hn⟩
 |sl n sz lo len=>
  simp only[Am.bR] at hx
  split at hx
  ·rename_i gr m rs xs hn
   obtain⟨h1,h2⟩:=Yu hn
   exact⟨by simp only[Am.bR,h1];exact hx,by intro q hq;injection hq with hq;subst hq;exact h2⟩
  ·cases hx
 |bx n k az off sz len=>
  simp only[Am.bR] at hx
  split at hx
  ·rename_i gr rs xs hn
   obtain⟨h1,h2⟩:=Yu hn
   exact⟨by simp only[Am.bR,h1];exact hx,by intro q hq;injection hq with hq;subst hq;exact h2⟩
  ·cases hx
 |ptr _ _ _ _=>simp[Am.bR] at hx
 |ca _ _=>simp[Am.bR] at hx
 |fn _ _=>simp[Am.bR] at hx
 |cD _ _ _ _ _ _=>simp[Am.bR] at hx
 |bh=>simp[Am.bR] at hx
def Lv (G:Gh) (h:Nat->Option ar) (ns:List Nat) (pc:PC):Prop:=
 ∀b,aP b pc->G.Im b\/∃n gr m sz xs,n∉ns/\h n=some (.row gr m sz xs)/\su G n b
structure lP (B:Nat) (E:Ex) (w:World) (G:Gh) (h:Nat->Option ar) (its:List (cZ×Mode)) (fl:List (Mode×PC)):Prop where
 len:its.length=fl.length
 at_:∀(i:Nat) (it:cZ×Mode) (x:Mode×PC),its[i]? =some it->fl[i]? =some x->it.2=x.1/\rZ B E w G h it.1 x.1 x.2
theorem lP.nil:lP B E w G h [] []:=⟨rfl,by intro i it x h;simp at h⟩
theorem lP.cons {it:cZ×Mode} {its:List (cZ×Mode)} {x:Mode×PC} {fl:List (Mode×PC)} (h1:it.2=x.1) (h2:rZ B E w G h it.1 x.1 x.2) (h3:lP B E w G h its fl):lP B E w G h (it::its) (x::fl):=by
 refine⟨by simp[h3.len],fun i yX x' hi hx=>?_⟩
 cases i with
 |zero=>simp at hi hx;subst hi;subst hx;exact⟨h1,h2⟩
 |succ i=>exact h3.at_ i yX x' (by simpa using hi) (by simpa using hx)
theorem lP.append {its uS:List (cZ×Mode)} {fl Xf:List (Mode×PC)} (h1:lP B E w G h its fl) (h2:lP B E w G h uS Xf):lP B E w G h (its++uS) (fl++Xf):=by
 refine⟨by simp[h1.len,h2.len],fun i it x hi hx=>?_⟩
 by_cases bH:i<its.length
 ·rw[List.getElem?_append_left bH] at hi
  rw[List.getElem?_append_left (by rw[<-h1.len];exact bH)] at hx
  exact h1.at_ i it x hi hx
 ·rw[List.getElem?_append_right (by omega)] at hi
  rw[List.getElem?_append_right (by rw[<-h1.len];omega)] at hx
  rw[h1.len] at hi
  exact h2.at_ _ it x hi hx
theorem HR.mz (H:HR B E w G h used []) {ns:List Nat}:∀{fs:List (Option Mode)} {cs:List ai} {xs:List C} {its:List (cZ×Mode)} {vs:List Value},Am.mz h (eF h ns) fs cs=some (xs,its)->cA w G h cs vs->
  ∃ps:List PC,ps.map PC.er=xs/\ps.map PC.val=vs/\(∀pc∈ps,Good w pc)/\lP B E w G h its (dO fs ps)/\its.filterMap (·.1.dE)=tx fs cs/\∀pc∈nk fs ps,Lv G h ns pc
 |[],cs,xs,its,vs,hx,hc=>by
  simp only[Am.mz] at hx
  split at hx
  ·rename_i ys hy
   injection hx with hx
   injection hx with h1 h2
   subst h1 h2
   have cr:∀(cs:List ai) (xs:List C) (vs:List Value),Am.gx (eF h ns) cs=some xs->cA w G h cs vs->∃ps:List PC,ps.map PC.er=xs/\ps.map PC.val=vs/\(∀pc∈ps,Good w pc)/\∀pc∈ps,Lv G h ns pc:=by
    intro cs
    induction cs with
    |nil=>
     intro xs vs hx hc
     simp only[Am.gx] at hx
     injection hx with hx
     subst hx
     have:vs=[]:=List.eq_nil_of_length_eq_zero (by simpa using hc.1)
     subst this
     exact⟨[],rfl,rfl,by simp,by simp⟩
    |cons c cs ih=>
     intro xs vs hx hc
     simp only[Am.gx] at hx
     split at hx
     ·rename_i x av e1 e2
      injection hx with hx
      subst hx
      obtain⟨hlen,bI⟩:=hc
      match vs,hlen with
      |v::vs,hlen=>
       obtain⟨v1,v2⟩:=acH e1
       obtain⟨pc,a1,a2,a3,a4⟩:=H.U8 v1 (bI 0 c v rfl rfl).2
       obtain⟨ps,b1,b2,b3,b4⟩:=ih av vs e2 ⟨by simpa using hlen,fun j c u h1 h2=>bI (j+1) c u h1 h2⟩
       refine⟨pc::ps,by simp[a1,b1],by simp[a2,b2],fun q hq=>?_,fun q hq=>?_⟩
       ·cases hq with
        |head=>exact a3
        |tail _ hq=>exact b3 q hq
       ·cases hq with
        |head=>exact fun b hb=>(a4 b hb).imp id fun⟨n,gr,m,sz,xs,hn,h1,h2⟩=>⟨n,gr,m,sz,xs,v2 n hn,h1,h2⟩
        |tail _ hq=>exact b4 q hq
     ·cases hx
   obtain⟨ps,b1,b2,b3,b4⟩:=cr cs ys vs hy hc
   exact⟨ps,b1,b2,b3,by simpa[dO] using lP.nil,by simp[tx],by simpa[nk] using b4⟩
  ·cases hx
 |f::fs,[],xs,its,vs,hx,hc=>by cases f<;>simp[Am.mz] at hx
 |none::fs,c::cs,xs,its,vs,hx,hc=>by
  simp only[Am.mz] at hx
  split at hx
  ·rename_i x av uS e1 e2
   injection hx with hx
   injection hx with h1 h2
   subst h1 h2
   obtain⟨hlen,bI⟩:=hc
   match vs,hlen with
   |v::vs,hlen=>
    obtain⟨v1,v2⟩:=acH e1
    obtain⟨pc,a1,a2,a3,a4⟩:=H.U8 v1 (bI 0 c v rfl rfl).2
    obtain⟨ps,b1,b2,b3,b4,b5,b6⟩:=H.mz e2 (vs:=vs) ⟨by simpa using hlen,fun j c u h1 h2=>bI (j+1) c u h1 h2⟩
    refine⟨pc::ps,by simp[a1,b1],by simp[a2,b2],fun q hq=>?_,by simpa[dO] using b4,by simpa[tx] using b5,fun q hq=>?_⟩
    ·cases hq with
     |head=>exact a3
     |tail _ hq=>exact b3 q hq
    ·simp only[nk] at hq
     cases hq with
     |head=>exact fun b hb=>(a4 b hb).imp id fun⟨n,gr,m,sz,xs,hn,h1,h2⟩=>⟨n,gr,m,sz,xs,v2 n hn,h1,h2⟩
     |tail _ hq=>exact b6 q hq
  ·cases hx
 |some md::fs,c::cs,xs,its,vs,hx,hc=>by
  simp only[Am.mz] at hx
  split at hx
  ·rename_i it x av uS e1 e2
   injection hx with hx
   injection hx with h1 h2
   subst h1 h2
   obtain⟨hlen,bI⟩:=hc
   match vs,hlen with
   |v::vs,hlen=>
    obtain⟨pc,a1,a2,a3,a4⟩:=H.item e1 (bI 0 c v rfl rfl).2
    obtain⟨ps,b1,b2,b3,b4,b5,b6⟩:=H.mz e2 (vs:=vs) ⟨by simpa using hlen,fun j c u h1 h2=>bI (j+1) c u h1 h2⟩
    refine⟨pc::ps,by simp[a1,b1],by simp[a2,b2],fun q hq=>?_,?_,?_,fun q hq=>b6 q (by simpa[nk] using hq)⟩
    ·cases hq with
     |head=>exact a3.eD
     |tail _ hq=>exact b3 q hq
    ·simp only[dO]
     exact lP.cons rfl a3 b4
    ·simp only[tx,<-a4,<-b5]
     cases fP:it.dE with
     |none=>simp[fP]
     |some n=>simp[fP]
  ·cases hx
theorem HR.oW (H:HR B E w G h used []) {ns:List Nat}:∀{as:List (Bool×List ai)} {sig:be} {ds:List Dv} {its:List (cZ×Mode)} {vals:List Value},Am.oW h (eF h ns) sig as=some (ds,its)->vals.length=as.length->
  (∀(j:Nat) (x:Bool×List ai) (v:Value),as[j]? =some x->vals[j]? =some v->RV w G h x.1 x.2 v)->
  ∃pas:List PA,pas.length=ds.length/\vals.length=ds.length/\(∀(i:Nat) (d:Dv) (v:Value) (p:PA),ds[i]? =some d->vals[i]? =some v->pas[i]? =some p->zF w d v p)/\(∀p∈pas,p.k≠ .ptr)/\
   lP B E w G h its (eg sig (pas.map (·.ps)))/\its.filterMap (·.1.dE)=n6 sig as/\∀pc∈pj sig (pas.map (·.ps)),Lv G h ns pc
 |[],sig,ds,its,vals,hx,hl,hc=>by
  simp only[Am.oW] at hx
  injection hx with hx
  injection hx with h1 h2
  subst h1 h2
  refine⟨[],rfl,by simpa using hl,by simp,by simp,?_,?_,?_⟩
  ·cases sig<;>exact lP.nil
  ·cases sig<;>rfl
  ·cases sig<;>simp[pj]
 |(ag,cs)::as,sig,ds,its,vals,hx,hl,hc=>by
  simp only[Am.oW] at hx
  split at hx
  ·rename_i xs Zn yg Zo e1 e2
   injection hx with hx
   injection hx with h1 h2
   subst h1 h2
   match vals,hl with
   |v::vals,hl=>
    have h0:=hc 0 (ag,cs) v rfl rfl
    obtain⟨q1,q2,q3,q4,q5,q6,q7⟩:=H.oW e2 (as:=as) (vals:=vals) (by simpa using hl) (fun j x v h1 h2=>hc (j+1) x v h1 h2)
    obtain⟨vs,iz,hR⟩:∃vs:List Value,(if ag=true then v=.agg vs.toArray else vs=[v])/\cA w G h cs vs:=by
     unfold RV at h0
     split at h0
     ·rename_i br
      obtain⟨vs,e,hR⟩:=h0
      exact⟨vs,by rw[if_pos br];exact e,hR⟩
     ·rename_i br
      exact⟨[v],by rw[if_neg br],h0⟩
    obtain⟨ps,p1,p2,p3,p4,p5,p6⟩:=H.mz e1 hR
    refine⟨⟨if ag=true then .agg else .one,ps,0,0⟩::q1,by simp[q2],by simp[q3],fun i d v' p hd hv hp=>?_,fun p hp=>?_,?_,?_,?_⟩
    ·cases i with
     |zero=>
      simp at hd hv hp
      subst hd hv hp
      cases ag with
      |true=>
       simp only[if_true] at iz⊢
       exact⟨by rw[p1],p3,by simp only[p2];exact iz⟩
      |false=>
       simp only[if_false,Bool.false_eq_true] at iz⊢
       exact⟨by rw[p1],p3,by simp only[p2];exact iz⟩
     |succ i=>exact q4 i d v' p (by simpa using hd) (by simpa using hv) (by simpa using hp)
    ·cases hp with
     |head=>cases ag<;>simp
     |tail _ hp=>exact q5 p hp
    ·cases sig with
     |nil=>
      have e3:dO (be.hd ([]:be)) ps=[]:=rfl
      rw[e3] at p4
      have e4:Zn=[]:=List.eq_nil_of_length_eq_zero p4.len
      subst e4
      have e5:eg (be.tl ([]:be)) (q1.map (·.ps))=[]:=rfl
      rw[e5] at q6
      have e6:Zo=[]:=List.eq_nil_of_length_eq_zero q6.len
      subst e6
      exact lP.nil
     |cons s sig=>exact lP.append p4 q6
    ·cases sig with
     |nil=>
      have e3:dO (be.hd ([]:be)) ps=[]:=rfl
      rw[e3] at p4
      have e4:Zn=[]:=List.eq_nil_of_length_eq_zero p4.len
      subst e4
      have e5:eg (be.tl ([]:be)) (q1.map (·.ps))=[]:=rfl
      rw[e5] at q6
      have e6:Zo=[]:=List.eq_nil_of_length_eq_zero q6.len
      subst e6
      rfl
     |cons s sig=>
      rw[List.filterMap_append,p5,q7.1]
      rfl
    ·intro pc aZ
     cases sig with
     |nil=>
      simp only[List.map_cons,pj,List.flatten_cons,List.mem_append] at aZ
      rcases aZ with aZ|aZ
      ·exact p6 pc aZ
      ·exact q7.2 pc (by simpa[pj,be.tl] using aZ)
     |cons s sig=>
      simp only[List.map_cons,pj,List.mem_append] at aZ
      rcases aZ with aZ|aZ
      ·exact p6 pc aZ
      ·exact q7.2 pc aZ
  ·cases hx
end
end Go.Am
