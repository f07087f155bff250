/- AmM: functions that change lists of their arguments: what is said of them, and the caller's side of a call. No condition. -/
import Derived.Test.YtbgmbplglejidaaAm16
set_option linter.unusedVariables false
namespace Go.Am
def eC {α:Type}:List (Option Mode)->List α->List (Mode×α)
 |some m::fs,x::xs=>(m,x)::eC fs xs
 |none::fs,_::xs=>eC fs xs
 |_,_=>[]
def oA {α:Type}:List (Option Mode)->List α->List α
 |some _::fs,_::xs=>oA fs xs
 |none::fs,x::xs=>x::oA fs xs
 |[],xs=>xs
 |_,[]=>[]
def eJ {α:Type}:aQ->List (List α)->List (Mode×α)
 |s::sig,xs::sQ=>eC s xs++eJ sig sQ
 |_,_=>[]
def qt {α:Type}:aQ->List (List α)->List α
 |s::sig,xs::sQ=>oA s xs++qt sig sQ
 |[],sQ=>sQ.flatten
 |_,[]=>[]
theorem JJ {α β:Type} (f:α->β):∀(s:List (Option Mode)) (xs:List α),eC s (xs.map f)=(eC s xs).map fun x=>(x.1,f x.2)
 |some m::fs,x::xs=>by simp only[List.map_cons,eC,JJ f fs xs]
 |none::fs,x::xs=>by simp only[List.map_cons,eC,JJ f fs xs]
 |[],_=>by simp[eC]
 |some m::fs,[]=>rfl
 |none::fs,[]=>rfl
theorem JI {α β:Type} (f:α->β):∀(s:aQ) (xs:List (List α)),eJ s (xs.map fun l=>l.map f)=(eJ s xs).map fun x=>(x.1,f x.2)
 |s::sig,xs::sQ=>by simp only[List.map_cons,eJ,List.map_append,JJ f s xs,JI f sig sQ]
 |[],_=>by simp[eJ]
 |s::sig,[]=>rfl
structure yn (w:World) (m:Mode) (pc:PC):Prop where
 sep:Sep pc
 un:∀b,aX b pc->dK w b
 dW:∃sz a cap xs,pc=.list sz a cap xs/\0<sz/\(∀b o,a=some (ad b o)->¬aZ b xs)/\tj m (xs.map fun e=>e.map PC.er)=true
structure PA where
 k:K
 ps:List PC
 b:Nat
 o:Nat
def AL (w:World) (d:Dv) (v:Value) (p:PA):Prop:=
 d=(p.k,p.ps.map PC.er)/\(∀pc∈p.ps,Good w pc)/\
 match p.k with
 |.one=>p.ps.map PC.val=[v]
 |.agg=>v=.agg (p.ps.map PC.val).toArray
 |.ptr=>v=.pointer (some (ad p.b p.o))/\p.b<w.heap.size/\∀j c,p.ps[j]? =some c->w.cell? (ad p.b (p.o+j))=some c.val
structure D4 (w:World) (sig:aQ) (ds:List Dv) (vals:List Value) (pas:List PA):Prop where
 l1:vals.length=ds.length
 l2:pas.length=ds.length
 at_:∀(i:Nat) (d:Dv) (v:Value) (p:PA),ds[i]? =some d->vals[i]? =some v->pas[i]? =some p->AL w d v p
 ok:∀x∈eJ sig (pas.map (·.ps)),yn w x.1 x.2
 nM:(eJ sig (pas.map (·.ps))).Pairwise fun x y=>∀b,aX b x.2->¬aX b y.2
 free:∀pc∈qt sig (pas.map (·.ps)),∀x∈eJ sig (pas.map (·.ps)),∀b,aX b pc->¬aX b x.2
 ptr:∀p∈pas,p.k=.ptr->∀x∈eJ sig (pas.map (·.ps)),¬aX p.b x.2
 apb:∀(i:Nat) (p:PA) (s:List (Option Mode)),pas[i]? =some p->sig[i]? =some s->p.k=.ptr->s=[]
def EI (fl:List (Mode×PC)):Ex:=⟨fun b=>∃x∈fl,aX b x.2,fun _=>none,fun _ _ h=>(by cases h),fun _=>True⟩
structure ur (w:World) (m:Mode) (pc dq:PC):Prop where
 val:dq.val=pc.val
 eD:Good w dq
 sep:Sep dq
 sub:∀b,aX b dq->aX b pc
 flat:tj m (match dq.er with|.list _ xs=>xs|_=>[])=true
 live:∀sz a cap xs aJ a' ta au,pc=.list sz a cap xs->dq=.list aJ a' ta au->aJ=sz/\a'=a/\ta=cap/\au.length=xs.length/\
  (m=.live->∀k j c,At xs k j c->c.gW=true->∃c',At au k j c'/\c'.val=c.val/\c'.gW=true)
def qw (P:Program) (f:FuncId) (sig:aQ) (M:List Dv->Option (List Dv×List C)):Prop:=
 ∀ds rs fb,M ds=some (rs,fb)->∀(w:World) (vals:List Value) (pas:List PA),D4 w sig ds vals pas->Calls P f vals.toArray w fun e w'=>
  ∃aY:List (K×List PC),aY.map (fun p=>(p.1,p.2.map PC.er))=rs/\e=.returned (xM aY)/\(∀p∈aY,p.1≠ .ptr/\(p.1=.one->p.2.length=1))/\
   Ea w' w.heap.size (aY.flatMap (·.2))/\Fr w.heap.size (EI (eJ sig (pas.map (·.ps)))) w w'/\
   ∃qs:List PC,qs.map PC.er=fb/\qs.length=(eJ sig (pas.map (·.ps))).length/\
    ∀(i:Nat) (x:Mode×PC) (q:PC),(eJ sig (pas.map (·.ps)))[i]? =some x->qs[i]? =some q->ur w' x.1 x.2 q
section
variable {B:Nat} {E:Ex} {w0 w w':World} {G G':Gh} {N:Nat} {h h':Nat->Option ar} {used:Nat->Bool}
variable {P:Program} {o:Oper} {a:Act} {σ σ':St} {Q:Exit->Act->World->Prop}
def ou (sz:Nat) (p:PB):PC:=.list sz (if p.nl=true then p.na else some (ad p.b p.o)) p.cap p.px
theorem ac4 {gr:Bool} {m:Mode} {sz:Nat} {xs:List (List C)} {p:PB} (hr:uv B E w G gr m sz xs p):(ou sz p).er=.list sz xs:=by
 rw[ou,PC.dR,hr.er]
theorem aq3 {gr:Bool} {m:Mode} {sz:Nat} {xs:List (List C)} {p:PB} (hr:uv B E w G gr m sz xs p) {v:Value} (hv:jO p sz 0 xs.length v):(ou sz p).val=v:=by
 have fZ:p.px.length=xs.length:=by rw[hr.er];simp
 rcases hv with⟨hn,rfl,_,hl⟩|⟨hn,a,rfl,hc,ha⟩
 ·simp[ou,PC.val,hn,fZ,hl]
 ·have:=ha (.inr rfl)
  subst this
  simp[ou,PC.val,hn,fZ]
theorem aq2 {gr:Bool} {m:Mode} {sz:Nat} {xs:List (List C)} {p:PB} (hr:uv B E w G gr m sz xs p):Good w (ou sz p):=by
 unfold ou
 by_cases h0:p.px=[]
 ·rw[h0];exact .nil _ _ _ hr.pos
 ·have aN:p.nl=false:=by
   cases hq:p.nl with
   |false=>rfl
   |true=>exact absurd (hr.nl hq).1 h0
  obtain⟨a1,a2,a3⟩:=hr.dW aN
  rw[if_neg (by simp[aN])]
  exact .cons _ _ _ _ _ h0 a3 hr.pos a2.1 a2.2.1 a2.2.2
theorem TG {sz:Nat} {p:PB} {b:Nat} (hn:p.nl=true->p.px=[]) (h:aX b (ou sz p)):(p.nl=false/\b=p.b)\/aZ b p.px:=by
 unfold ou at h
 rw[aX.lm] at h
 rcases h with⟨h0,o,ho⟩|⟨k,j,c,hk,hb⟩
 ·cases hq:p.nl with
  |true=>exact absurd (hn hq) h0
  |false=>
   rw[hq] at ho
   simp at ho
   exact .inl ⟨rfl,(nG ho).1.symm⟩
 ·exact .inr ⟨k,j,c,hk,hb⟩
def r5 (G:Gh) (n b:Nat):Prop:=((G.g n).nl=false/\b=(G.g n).b)\/aZ b (G.g n).px
structure sV (B:Nat) (E:Ex) (w:World) (G:Gh) (h:Nat->Option ar) (it:cY) (md:Mode) (pc:PC):Prop where
 ok:yn w md pc
 eD:Good w pc
 at_:match it with
  |.nil sz=>pc=.list sz none 0 []
  |.row n=>∃gr m sz xs,h n=some (.row gr m sz xs)/\m≠ .aG/\(md=.live->m=.live)/\pc=ou sz (G.g n)/\tj md xs=true
  |.nest n k off=>∃gr sz xs,h n=some (.row gr .live sz xs)/\md=.ae/\At (G.g n).px k off pc
theorem sV.nO {it:cY} {md:Mode} {pc:PC} (H:HR B E w G h used []) (i:sV B E w G h it md pc) {b:Nat} (hb:aX b pc):
  ∃n gr m sz xs,it.dJ=some n/\h n=some (.row gr m sz xs)/\m≠ .aG/\r5 G n b/\((∀b,¬aZ b (G.g n).px)\/m=.live):=by
 have ha:=i.at_
 cases it with
 |nil sz=>
  have ha:pc=.list sz none 0 []:=ha
  subst ha
  rw[aX.lm] at hb
  rcases hb with⟨hb,_⟩|⟨k,j,c,⟨e,he,_⟩,_⟩
  ·exact absurd rfl hb
  ·simp at he
 |row n=>
  obtain⟨gr,m,sz,xs,h1,h2,h3,rfl,h5⟩:=ha
  have hr:=H.row n gr m sz xs h1
  refine⟨n,gr,m,sz,xs,rfl,h1,h2,TG (fun hq=>(hr.nl hq).1) hb,?_⟩
  cases md with
  |live=>exact .inr (h3 rfl)
  |aG=>cases h5
  |ae=>
   left
   intro b' be
   have JR:gv xs=true:=h5
   rw[hr.er] at JR
   obtain⟨k,j,c,⟨e,he,hj⟩,hc⟩:=be
   have h6:=List.all_eq_true.1 JR (e.map PC.er) (by simp only[List.mem_map];exact⟨e,List.mem_of_getElem? he,rfl⟩)
   have h7:=List.all_eq_true.1 h6 c.er (by simp only[List.mem_map];exact⟨c,List.mem_of_getElem? hj,rfl⟩)
   exact(Sep.lS h7).2 b' hc
 |nest n k off=>
  obtain⟨gr,sz,xs,h1,h2,h3⟩:=ha
  exact⟨n,gr,.live,sz,xs,rfl,h1,by simp,.inr ⟨k,off,pc,h3,hb⟩,.inr rfl⟩
theorem HR.EW (H:HR B E w G h used []) {n n':Nat} (aD:n≠n') {gr bo:Bool} {m m':Mode} {sz aJ:Nat} {xs au:List (List C)} (h1:h n=some (.row gr m sz xs)) (h2:h n'=some (.row bo m' aJ au))
  (bO:(∀b,¬aZ b (G.g n').px)\/m'=.live) {b:Nat} (hb:r5 G n b):¬r5 G n' b:=by
 have e1:h n≠none:=by rw[h1];simp
 have e2:h n'≠none:=by rw[h2];simp
 have own:∀{p q:Nat} {gr:Bool} {m:Mode} {sz:Nat} {xs:List (List C)},h p≠none->h q=some (.row gr m sz xs)->(G.g p).nl=false->¬aZ (G.g p).b (G.g q).px:=by
  intro p q gr m sz xs hp hq hl hF
  have gx:=(H.row q gr m sz xs hq).mode
  cases m with
  |aG=>exact(H.own p hp hl).1 (gx _ hF)
  |ae=>exact(H.own p hp hl).1 (gx.1 _ hF).1
  |live=>exact H.live q gr sz xs hq _ hF p hp hl rfl
 rintro(⟨l2,rfl⟩|b2)
 ·rcases hb with⟨l1,b1⟩|b1
  ·exact H.inj n n' e1 e2 aD l1 l2 b1.symm
  ·exact own e2 h1 l2 b1
 ·rcases hb with⟨l1,rfl⟩|b1
  ·exact own e1 h2 l1 b2
  ·rcases bO with bO|rfl
   ·exact bO b b2
   ·have q2:=(H.row n' bo .live aJ au h2).mode
    have q1:=(H.row n gr m sz xs h1).mode
    cases m with
    |aG=>exact(q2.1 b b2).1 (q1 b b1)
    |ae=>exact(q2.1 b b2).1 (q1.1 b b1).1
    |live=>exact H.fV n n' gr .live sz xs bo .live aJ au h1 h2 (by simp) (by simp) aD b b1 b2
theorem HR.item (H:HR B E w G h used []) {md:Mode} {c:aj} {it:cY} {x:C} {v:Value} (hx:sC h md c=some (it,x)) (hc:RC w G h c v):
  ∃pc:PC,pc.er=x/\pc.val=v/\sV B E w G h it md pc/\it.dJ=c.dJ:=by
 unfold sC at hx
 split at hx
 ·rename_i sz
  split at hx
  ·rename_i dU
   injection hx with hx
   injection hx with h1 h2
   subst h1 h2
   have cA:v=.slice none 0 0:=hc
   subst cA
   refine⟨.list sz none 0 [],by simp[PC.dR],rfl,⟨⟨?_,?_,sz,none,0,[],rfl,dU.1,(fun b o h=>by cases h),?_⟩,.nil _ _ _ dU.1,rfl⟩,rfl⟩
   ·refine .list _ _ _ _ ?_ ?_ ?_
    ·rintro k j c ⟨e,he,_⟩;simp at he
    ·rintro b o k j c _ ⟨e,he,_⟩;simp at he
    ·rintro k j c k' j' c' b ⟨e,he,_⟩;simp at he
   ·intro b hb
    rw[aX.lm] at hb
    rcases hb with⟨hb,_⟩|⟨k,j,c,⟨e,he,_⟩,_⟩
    ·exact absurd rfl hb
    ·simp at he
   ·cases md with
    |aG=>exact absurd rfl dU.2
    |ae=>rfl
    |live=>rfl
  ·cases hx
 ·rename_i n sz lo len
  split at hx
  ·rename_i gr m rs xs hn
   split at hx
   ·rename_i cV
    obtain⟨hm,tv,rfl,rfl,rfl,jR⟩:=cV
    injection hx with hx
    injection hx with h1 h2
    subst h1 h2
    have bS:h n≠none:=by rw[hn];simp
    have hs:jO (G.g n) rs 0 xs.length v:=hc bS
    have hr:=H.row n gr m rs xs hn
    have si:(∀b,aZ b (G.g n).px->dK w b)/\iI (G.g n).px/\(∀b,aZ b (G.g n).px->(G.g n).nl=false->b≠(G.g n).b):=by
     have dd:=hr.mode
     cases m with
     |aG=>exact absurd rfl hm
     |ae=>exact⟨fun b hb=>(dd.1 b hb).2.1,dd.2,fun b hb hl ez=>(H.own n bS hl).1 (ez▸(dd.1 b hb).1)⟩
     |live=>exact⟨fun b hb=>(dd.1 b hb).2.1,dd.2,fun b hb hl=>H.live n gr rs xs hn b hb n bS hl⟩
    obtain⟨o1,o2,o3⟩:=si
    have Co:∀b o,(if(G.g n).nl=true then(G.g n).na else some (ad (G.g n).b (G.g n).o))=some (ad b o)->¬aZ b (G.g n).px:=by
     intro b o e8 hF
     cases hq:(G.g n).nl with
     |true=>rw[(hr.nl hq).1] at hF;obtain⟨k,j,c,⟨e,he,_⟩,_⟩:=hF;simp at he
     |false=>
      rw[hq] at e8
      simp at e8
      exact o3 b hF hq (nG e8).1.symm
    refine⟨ou rs (G.g n),ac4 hr,aq3 hr hs,⟨⟨.list _ _ _ _ o2.1 (fun b o k j c e8 hk hb=>Co b o e8 ⟨k,j,c,hk,hb⟩) o2.2,fun b hb=>?_,rs,_,_,_,rfl,hr.pos,Co,by rw[<-hr.er];exact jR⟩,aq2 hr,
     gr,m,rs,xs,hn,hm,tv,rfl,jR⟩,rfl⟩
    rcases TG (fun hq=>(hr.nl hq).1) hb with⟨hl,rfl⟩|hF
    ·exact(hr.dW hl).1
    ·exact o1 b hF
   ·cases hx
  ·cases hx
 ·rename_i n k aE off sz len
  split at hx
  ·rename_i gr rs xs hn
   split at hx
   ·rename_i cV
    obtain⟨rfl,rfl⟩:=cV
    split at hx
    ·rename_i s ys sq
     split at hx
     ·rename_i jR
      injection hx with hx
      injection hx with h1 h2
      subst h1 h2
      obtain⟨pc,p1,p2,p3⟩:=hc gr xs hn
      have hr:=H.row n gr .live rs xs hn
      have aN:(G.g n).nl=false:=by
       cases hq:(G.g n).nl with
       |false=>rfl
       |true=>obtain⟨e,he,_⟩:=p1;rw[(hr.nl hq).1] at he;simp at he
      have ie:Good w pc:=(hr.dW aN).2.1.2.2 _ _ _ p1
      have uZ:pc.er=.list s ys:=by
       obtain⟨e,he,hj⟩:=p1
       rw[hr.er] at sq
       simp[he,hj] at sq
       exact sq
      have kS:=hr.mode.2.1 _ _ _ p1
      cases pc with
      |int k n=>cases p3
      |bool b=>cases p3
      |list s' a' ta px'=>
       rw[PC.dR] at uZ
       injection uZ with g1 g2
       subst g1
       have jA:gv (px'.map fun e=>e.map PC.er)=true:=by rw[g2];exact jR
       refine⟨_,by rw[PC.dR,g2],p2,⟨⟨kS,fun b hb=>(hr.mode.1 b ⟨k,off,_,p1,hb⟩).2.1,s',a',ta,px',rfl,?_,fun b o _ hF=>?_,jA⟩,ie,gr,rs,xs,hn,rfl,p1⟩,rfl⟩
       ·cases ie with
        |nil _ _ _ h=>exact h
        |cons _ _ _ _ _ _ _ h=>exact h
       ·obtain⟨kk,jj,c,⟨e,he,hj⟩,hc⟩:=hF
        have h6:=List.all_eq_true.1 jA (e.map PC.er) (by simp only[List.mem_map];exact⟨e,List.mem_of_getElem? he,rfl⟩)
        have h7:=List.all_eq_true.1 h6 c.er (by simp only[List.mem_map];exact⟨c,List.mem_of_getElem? hj,rfl⟩)
        exact(Sep.lS h7).2 b hc
     ·cases hx
    ·cases hx
   ·cases hx
  ·cases hx
 ·cases hx
theorem HR.Xj (H:HR B E w G h used []) {c:aj} {x:C} {v:Value} (hx:Am.cq h c=some x) (hc:RC w G h c v):
  ∃pc:PC,pc.er=x/\pc.val=v/\Good w pc/\∀b,aX b pc->G.Im b\/∃n gr m sz xs,c.dJ=some n/\h n=some (.row gr m sz xs)/\r5 G n b:=by
 cases c with
 |c y=>
  simp only[Am.cq] at hx
  injection hx with hx
  subst hx
  obtain⟨pc,h1,h2,h3,h4⟩:=hc
  exact⟨pc,h1,h2,h3,fun b hb=>.inl (h4 b hb)⟩
 |nil sz=>
  simp only[Am.cq] at hx
  split at hx
  ·rename_i dU
   injection hx with hx
   subst hx
   have cA:v=.slice none 0 0:=hc
   subst cA
   refine⟨.list sz none 0 [],by simp[PC.dR],rfl,.nil _ _ _ dU,fun b hb=>?_⟩
   rw[aX.lm] at hb
   rcases hb with⟨hb,_⟩|⟨k,j,c,⟨e,he,_⟩,_⟩
   ·exact absurd rfl hb
   ·simp at he
  ·cases hx
 |sl n sz lo len=>
  simp only[Am.cq] at hx
  split at hx
  ·rename_i gr m rs xs hn
   split at hx
   ·rename_i cV
    obtain⟨rfl,hl⟩:=cV
    injection hx with hx
    subst hx
    have hs:jO (G.g n) rs lo len v:=hc (by rw[hn];simp)
    obtain⟨a1,a2,a3,a4⟩:=Gr (H.row n gr m rs xs hn) hs hl
    exact⟨_,a1,a2,a3,fun b hb=>.inr ⟨n,gr,m,rs,xs,rfl,hn,a4 b hb⟩⟩
   ·cases hx
  ·cases hx
 |bE n k aE off sz len=>
  simp only[Am.cq] at hx
  split at hx
  ·rename_i gr rs xs hn
   split at hx
   ·rename_i cV
    subst cV
    obtain⟨pc,p1,p2,p3⟩:=hc gr xs hn
    have hr:=H.row n gr .live rs xs hn
    have aN:(G.g n).nl=false:=by
     cases hq:(G.g n).nl with
     |false=>rfl
     |true=>obtain⟨e,he,_⟩:=p1;rw[(hr.nl hq).1] at he;simp at he
    refine⟨pc,?_,p2,(hr.dW aN).2.1.2.2 _ _ _ p1,fun b hb=>.inr ⟨n,gr,.live,rs,xs,rfl,hn,.inr ⟨k,off,pc,p1,hb⟩⟩⟩
    obtain⟨e,he,hj⟩:=p1
    rw[hr.er] at hx
    simp[he,hj] at hx
    exact hx
   ·cases hx
  ·cases hx
 |ptr _ _ _ _=>simp[Am.cq] at hx
 |cH _ _=>simp[Am.cq] at hx
 |fn _ _=>simp[Am.cq] at hx
 |c7 _ _ _ _ _ _=>simp[Am.cq] at hx
 |bq=>simp[Am.cq] at hx
theorem aaL {ns:List Nat} {n:Nat} {b:ar} (hx:dS h ns n=some b):h n=some b/\n∉ns:=by
 unfold dS at hx
 split at hx
 ·cases hx
 ·rename_i hc
  exact⟨hx,fun hm=>hc (by simpa using hm)⟩
theorem aeM {ns:List Nat} {c:aj} {x:C} (hx:cq (dS h ns) c=some x):cq h c=some x/\∀n,c.dJ=some n->n∉ns:=by
 cases c with
 |c y=>exact⟨hx,by intro n hn;cases hn⟩
 |nil sz=>exact⟨hx,by intro n hn;cases hn⟩
 |sl n sz lo len=>
  simp only[Am.cq] at hx
  split at hx
  ·rename_i gr m rs xs hn
   obtain⟨h1,h2⟩:=aaL hn
   exact⟨by simp only[Am.cq,h1];exact hx,by intro q hq;injection hq with hq;subst hq;exact h2⟩
  ·cases hx
 |bE n k aE off sz len=>
  simp only[Am.cq] at hx
  split at hx
  ·rename_i gr rs xs hn
   obtain⟨h1,h2⟩:=aaL hn
   exact⟨by simp only[Am.cq,h1];exact hx,by intro q hq;injection hq with hq;subst hq;exact h2⟩
  ·cases hx
 |ptr _ _ _ _=>simp[Am.cq] at hx
 |cH _ _=>simp[Am.cq] at hx
 |fn _ _=>simp[Am.cq] at hx
 |c7 _ _ _ _ _ _=>simp[Am.cq] at hx
 |bq=>simp[Am.cq] at hx
def Me (G:Gh) (h:Nat->Option ar) (ns:List Nat) (pc:PC):Prop:=
 ∀b,aX b pc->G.Im b\/∃n gr m sz xs,n∉ns/\h n=some (.row gr m sz xs)/\r5 G n b
structure mT (B:Nat) (E:Ex) (w:World) (G:Gh) (h:Nat->Option ar) (its:List (cY×Mode)) (fl:List (Mode×PC)):Prop where
 len:its.length=fl.length
 at_:∀(i:Nat) (it:cY×Mode) (x:Mode×PC),its[i]? =some it->fl[i]? =some x->it.2=x.1/\sV B E w G h it.1 x.1 x.2
theorem mT.nil:mT B E w G h [] []:=⟨rfl,by intro i it x h;simp at h⟩
theorem mT.cons {it:cY×Mode} {its:List (cY×Mode)} {x:Mode×PC} {fl:List (Mode×PC)} (h1:it.2=x.1) (h2:sV B E w G h it.1 x.1 x.2) (h3:mT B E w G h its fl):mT B E w G h (it::its) (x::fl):=by
 refine⟨by simp[h3.len],fun i zI x' hi hx=>?_⟩
 cases i with
 |zero=>simp at hi hx;subst hi;subst hx;exact⟨h1,h2⟩
 |succ i=>exact h3.at_ i zI x' (by simpa using hi) (by simpa using hx)
theorem mT.append {its vn:List (cY×Mode)} {fl ZN:List (Mode×PC)} (h1:mT B E w G h its fl) (h2:mT B E w G h vn ZN):mT B E w G h (its++vn) (fl++ZN):=by
 refine⟨by simp[h1.len,h2.len],fun i it x hi hx=>?_⟩
 by_cases bK:i<its.length
 ·rw[List.getElem?_append_left bK] at hi
  rw[List.getElem?_append_left (by rw[<-h1.len];exact bK)] at hx
  exact h1.at_ i it x hi hx
 ·rw[List.getElem?_append_right (by omega)] at hi
  rw[List.getElem?_append_right (by rw[<-h1.len];omega)] at hx
  rw[h1.len] at hi
  exact h2.at_ _ it x hi hx
theorem HR.j4 (H:HR B E w G h used []) {ns:List Nat}:∀{fs:List (Option Mode)} {cs:List aj} {xs:List C} {its:List (cY×Mode)} {vs:List Value},Am.j4 h (dS h ns) fs cs=some (xs,its)->cZ w G h cs vs->
  ∃ps:List PC,ps.map PC.er=xs/\ps.map PC.val=vs/\(∀pc∈ps,Good w pc)/\mT B E w G h its (eC fs ps)/\its.filterMap (·.1.dJ)=nu fs cs/\∀pc∈oA fs ps,Me G h ns pc
 |[],cs,xs,its,vs,hx,hc=>by
  simp only[Am.j4] at hx
  split at hx
  ·rename_i ys hy
   injection hx with hx
   injection hx with h1 h2
   subst h1 h2
   have bZ:∀(cs:List aj) (xs:List C) (vs:List Value),Am.g7 (dS h ns) cs=some xs->cZ w G h cs vs->∃ps:List PC,ps.map PC.er=xs/\ps.map PC.val=vs/\(∀pc∈ps,Good w pc)/\∀pc∈ps,Me G h ns pc:=by
    intro cs
    induction cs with
    |nil=>
     intro xs vs hx hc
     simp only[Am.g7] at hx
     injection hx with hx
     subst hx
     have:vs=[]:=List.eq_nil_of_length_eq_zero (by simpa using hc.1)
     subst this
     exact⟨[],rfl,rfl,by simp,by simp⟩
    |cons c cs ih=>
     intro xs vs hx hc
     simp only[Am.g7] at hx
     split at hx
     ·rename_i x au e1 e2
      injection hx with hx
      subst hx
      obtain⟨hlen,bU⟩:=hc
      match vs,hlen with
      |v::vs,hlen=>
       obtain⟨v1,v2⟩:=aeM e1
       obtain⟨pc,a1,a2,a3,a4⟩:=H.Xj v1 (bU 0 c v rfl rfl).2
       obtain⟨ps,b1,b2,b3,b4⟩:=ih au vs e2 ⟨by simpa using hlen,fun j c u h1 h2=>bU (j+1) c u h1 h2⟩
       refine⟨pc::ps,by simp[a1,b1],by simp[a2,b2],fun q hq=>?_,fun q hq=>?_⟩
       ·cases hq with
        |head=>exact a3
        |tail _ hq=>exact b3 q hq
       ·cases hq with
        |head=>exact fun b hb=>(a4 b hb).imp id fun⟨n,gr,m,sz,xs,hn,h1,h2⟩=>⟨n,gr,m,sz,xs,v2 n hn,h1,h2⟩
        |tail _ hq=>exact b4 q hq
     ·cases hx
   obtain⟨ps,b1,b2,b3,b4⟩:=bZ cs ys vs hy hc
   exact⟨ps,b1,b2,b3,by simpa[eC] using mT.nil,by simp[nu],by simpa[oA] using b4⟩
  ·cases hx
 |f::fs,[],xs,its,vs,hx,hc=>by cases f<;>simp[Am.j4] at hx
 |none::fs,c::cs,xs,its,vs,hx,hc=>by
  simp only[Am.j4] at hx
  split at hx
  ·rename_i x au vn e1 e2
   injection hx with hx
   injection hx with h1 h2
   subst h1 h2
   obtain⟨hlen,bU⟩:=hc
   match vs,hlen with
   |v::vs,hlen=>
    obtain⟨v1,v2⟩:=aeM e1
    obtain⟨pc,a1,a2,a3,a4⟩:=H.Xj v1 (bU 0 c v rfl rfl).2
    obtain⟨ps,b1,b2,b3,b4,b5,b6⟩:=H.j4 e2 (vs:=vs) ⟨by simpa using hlen,fun j c u h1 h2=>bU (j+1) c u h1 h2⟩
    refine⟨pc::ps,by simp[a1,b1],by simp[a2,b2],fun q hq=>?_,by simpa[eC] using b4,by simpa[nu] using b5,fun q hq=>?_⟩
    ·cases hq with
     |head=>exact a3
     |tail _ hq=>exact b3 q hq
    ·simp only[oA] at hq
     cases hq with
     |head=>exact fun b hb=>(a4 b hb).imp id fun⟨n,gr,m,sz,xs,hn,h1,h2⟩=>⟨n,gr,m,sz,xs,v2 n hn,h1,h2⟩
     |tail _ hq=>exact b6 q hq
  ·cases hx
 |some md::fs,c::cs,xs,its,vs,hx,hc=>by
  simp only[Am.j4] at hx
  split at hx
  ·rename_i it x au vn e1 e2
   injection hx with hx
   injection hx with h1 h2
   subst h1 h2
   obtain⟨hlen,bU⟩:=hc
   match vs,hlen with
   |v::vs,hlen=>
    obtain⟨pc,a1,a2,a3,a4⟩:=H.item e1 (bU 0 c v rfl rfl).2
    obtain⟨ps,b1,b2,b3,b4,b5,b6⟩:=H.j4 e2 (vs:=vs) ⟨by simpa using hlen,fun j c u h1 h2=>bU (j+1) c u h1 h2⟩
    refine⟨pc::ps,by simp[a1,b1],by simp[a2,b2],fun q hq=>?_,?_,?_,fun q hq=>b6 q (by simpa[oA] using hq)⟩
    ·cases hq with
     |head=>exact a3.eD
     |tail _ hq=>exact b3 q hq
    ·simp only[eC]
     exact mT.cons rfl a3 b4
    ·simp only[nu,<-a4,<-b5]
     cases gy:it.dJ with
     |none=>simp[gy]
     |some n=>simp[gy]
  ·cases hx
theorem HR.lR (H:HR B E w G h used []) {ns:List Nat}:∀{as:List (Bool×List aj)} {sig:aQ} {ds:List Dv} {its:List (cY×Mode)} {vals:List Value},Am.lR h (dS h ns) sig as=some (ds,its)->vals.length=as.length->
  (∀(j:Nat) (x:Bool×List aj) (v:Value),as[j]? =some x->vals[j]? =some v->RV w G h x.1 x.2 v)->
  ∃pas:List PA,pas.length=ds.length/\vals.length=ds.length/\(∀(i:Nat) (d:Dv) (v:Value) (p:PA),ds[i]? =some d->vals[i]? =some v->pas[i]? =some p->AL w d v p)/\(∀p∈pas,p.k≠ .ptr)/\
   mT B E w G h its (eJ sig (pas.map (·.ps)))/\its.filterMap (·.1.dJ)=kG sig as/\∀pc∈qt sig (pas.map (·.ps)),Me G h ns pc
 |[],sig,ds,its,vals,hx,hl,hc=>by
  simp only[Am.lR] at hx
  injection hx with hx
  injection hx with h1 h2
  subst h1 h2
  refine⟨[],rfl,by simpa using hl,by simp,by simp,?_,?_,?_⟩
  ·cases sig<;>exact mT.nil
  ·cases sig<;>rfl
  ·cases sig<;>simp[qt]
 |(ag,cs)::as,sig,ds,its,vals,hx,hl,hc=>by
  simp only[Am.lR] at hx
  split at hx
  ·rename_i xs abl uH abm e1 e2
   injection hx with hx
   injection hx with h1 h2
   subst h1 h2
   match vals,hl with
   |v::vals,hl=>
    have h0:=hc 0 (ag,cs) v rfl rfl
    obtain⟨q1,q2,q3,q4,q5,q6,q7⟩:=H.lR e2 (as:=as) (vals:=vals) (by simpa using hl) (fun j x v h1 h2=>hc (j+1) x v h1 h2)
    obtain⟨vs,jg,hR⟩:∃vs:List Value,(if ag=true then v=.agg vs.toArray else vs=[v])/\cZ w G h cs vs:=by
     unfold RV at h0
     split at h0
     ·rename_i bu
      obtain⟨vs,e,hR⟩:=h0
      exact⟨vs,by rw[if_pos bu];exact e,hR⟩
     ·rename_i bu
      exact⟨[v],by rw[if_neg bu],h0⟩
    obtain⟨ps,p1,p2,p3,p4,p5,p6⟩:=H.j4 e1 hR
    refine⟨⟨if ag=true then .agg else .one,ps,0,0⟩::q1,by simp[q2],by simp[q3],fun i d v' p hd hv hp=>?_,fun p hp=>?_,?_,?_,?_⟩
    ·cases i with
     |zero=>
      simp at hd hv hp
      subst hd hv hp
      cases ag with
      |true=>
       simp only[if_true] at jg⊢
       exact⟨by rw[p1],p3,by simp only[p2];exact jg⟩
      |false=>
       simp only[if_false,Bool.false_eq_true] at jg⊢
       exact⟨by rw[p1],p3,by simp only[p2];exact jg⟩
     |succ i=>exact q4 i d v' p (by simpa using hd) (by simpa using hv) (by simpa using hp)
    ·cases hp with
     |head=>cases ag<;>simp
     |tail _ hp=>exact q5 p hp
    ·cases sig with
     |nil=>
      have e3:eC (aQ.hd ([]:aQ)) ps=[]:=rfl
      rw[e3] at p4
      have e4:abl=[]:=List.eq_nil_of_length_eq_zero p4.len
      subst e4
      have e5:eJ (aQ.tl ([]:aQ)) (q1.map (·.ps))=[]:=rfl
      rw[e5] at q6
      have e6:abm=[]:=List.eq_nil_of_length_eq_zero q6.len
      subst e6
      exact mT.nil
     |cons s sig=>exact mT.append p4 q6
    ·cases sig with
     |nil=>
      have e3:eC (aQ.hd ([]:aQ)) ps=[]:=rfl
      rw[e3] at p4
      have e4:abl=[]:=List.eq_nil_of_length_eq_zero p4.len
      subst e4
      have e5:eJ (aQ.tl ([]:aQ)) (q1.map (·.ps))=[]:=rfl
      rw[e5] at q6
      have e6:abm=[]:=List.eq_nil_of_length_eq_zero q6.len
      subst e6
      rfl
     |cons s sig=>
      rw[List.filterMap_append,p5,q7.1]
      rfl
    ·intro pc bc
     cases sig with
     |nil=>
      simp only[List.map_cons,qt,List.flatten_cons,List.mem_append] at bc
      rcases bc with bc|bc
      ·exact p6 pc bc
      ·exact q7.2 pc (by simpa[qt,aQ.tl] using bc)
     |cons s sig=>
      simp only[List.map_cons,qt,List.mem_append] at bc
      rcases bc with bc|bc
      ·exact p6 pc bc
      ·exact q7.2 pc bc
  ·cases hx
end
end Go.Am
