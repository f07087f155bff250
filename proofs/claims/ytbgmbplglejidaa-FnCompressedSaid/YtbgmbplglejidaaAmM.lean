/- AmM: functions that change lists of their arguments: what is said of them, and the caller's side of a call. No condition. -/
import Derived.Test.YtbgmbplglejidaaAm16
set_option linter.unusedVariables false
namespace Go.Am
def ez {α:Type}:List (Option Mode)->List α->List (Mode×α)
 |some m::fs,x::xs=>(m,x)::ez fs xs
 |none::fs,_::xs=>ez fs xs
 |_,_=>[]
def n9 {α:Type}:List (Option Mode)->List α->List α
 |some _::fs,_::xs=>n9 fs xs
 |none::fs,x::xs=>x::n9 fs xs
 |[],xs=>xs
 |_,[]=>[]
def eI {α:Type}:aP->List (List α)->List (Mode×α)
 |s::sig,xs::sJ=>ez s xs++eI sig sJ
 |_,_=>[]
def qi {α:Type}:aP->List (List α)->List α
 |s::sig,xs::sJ=>n9 s xs++qi sig sJ
 |[],sJ=>sJ.flatten
 |_,[]=>[]
theorem I6 {α β:Type} (f:α->β):∀(s:List (Option Mode)) (xs:List α),ez s (xs.map f)=(ez s xs).map fun x=>(x.1,f x.2)
 |some m::fs,x::xs=>by simp only[List.map_cons,ez,I6 f fs xs]
 |none::fs,x::xs=>by simp only[List.map_cons,ez,I6 f fs xs]
 |[],_=>by simp[ez]
 |some m::fs,[]=>rfl
 |none::fs,[]=>rfl
theorem I5 {α β:Type} (f:α->β):∀(s:aP) (xs:List (List α)),eI s (xs.map fun l=>l.map f)=(eI s xs).map fun x=>(x.1,f x.2)
 |s::sig,xs::sJ=>by simp only[List.map_cons,eI,List.map_append,I6 f s xs,I5 f sig sJ]
 |[],_=>by simp[eI]
 |s::sig,[]=>rfl
structure xO (w:World) (m:Mode) (pc:PC):Prop where
 sep:Sep pc
 un:∀b,aT b pc->dH w b
 dV:∃sz a cap xs,pc=.list sz a cap xs/\0<sz/\(∀b o,a=some (ad b o)->¬aX b xs)/\s8 m (xs.map fun e=>e.map PC.er)=true
structure PA where
 k:K
 ps:List PC
 b:Nat
 o:Nat
def zZ (w:World) (d:Dv) (v:Value) (p:PA):Prop:=
 d=(p.k,p.ps.map PC.er)/\(∀pc∈p.ps,Good w pc)/\
 match p.k with
 |.one=>p.ps.map PC.val=[v]
 |.agg=>v=.agg (p.ps.map PC.val).toArray
 |.ptr=>v=.pointer (some (ad p.b p.o))/\p.b<w.heap.size/\∀j c,p.ps[j]? =some c->w.cell? (ad p.b (p.o+j))=some c.val
structure Df (w:World) (sig:aP) (ds:List Dv) (vals:List Value) (pas:List PA):Prop where
 l1:vals.length=ds.length
 l2:pas.length=ds.length
 at_:∀(i:Nat) (d:Dv) (v:Value) (p:PA),ds[i]? =some d->vals[i]? =some v->pas[i]? =some p->zZ w d v p
 ok:∀x∈eI sig (pas.map (·.ps)),xO w x.1 x.2
 nF:(eI sig (pas.map (·.ps))).Pairwise fun x y=>∀b,aT b x.2->¬aT b y.2
 free:∀pc∈qi sig (pas.map (·.ps)),∀x∈eI sig (pas.map (·.ps)),∀b,aT b pc->¬aT b x.2
 ptr:∀p∈pas,p.k=.ptr->∀x∈eI sig (pas.map (·.ps)),¬aT p.b x.2
 amj:∀(i:Nat) (p:PA) (s:List (Option Mode)),pas[i]? =some p->sig[i]? =some s->p.k=.ptr->s=[]
def DX (fl:List (Mode×PC)):Ex:=⟨fun b=>∃x∈fl,aT b x.2,fun _=>none,fun _ _ h=>(by cases h),fun _=>True⟩
structure tS (w:World) (m:Mode) (pc dn:PC):Prop where
 val:dn.val=pc.val
 eA:Good w dn
 sep:Sep dn
 sub:∀b,aT b dn->aT b pc
 flat:s8 m (match dn.er with|.list _ xs=>xs|_=>[])=true
 live:∀sz a cap xs aJ a' sU aq,pc=.list sz a cap xs->dn=.list aJ a' sU aq->aJ=sz/\a'=a/\sU=cap/\aq.length=xs.length/\
  (m=.live->∀k j c,At xs k j c->c.gL=true->∃c',At aq k j c'/\c'.val=c.val/\c'.gL=true)
def qp (P:Program) (f:FuncId) (sig:aP) (M:List Dv->Option (List Dv×List C)):Prop:=
 ∀ds rs eZ,M ds=some (rs,eZ)->∀(w:World) (vals:List Value) (pas:List PA),Df w sig ds vals pas->Calls P f vals.toArray w fun e w'=>
  ∃aW:List (K×List PC),aW.map (fun p=>(p.1,p.2.map PC.er))=rs/\e=.returned (xd aW)/\(∀p∈aW,p.1≠ .ptr/\(p.1=.one->p.2.length=1))/\
   Dl w' w.heap.size (aW.flatMap (·.2))/\Fr w.heap.size (DX (eI sig (pas.map (·.ps)))) w w'/\
   ∃qs:List PC,qs.map PC.er=eZ/\qs.length=(eI sig (pas.map (·.ps))).length/\
    ∀(i:Nat) (x:Mode×PC) (q:PC),(eI sig (pas.map (·.ps)))[i]? =some x->qs[i]? =some q->tS w' x.1 x.2 q
section
variable {B:Nat} {E:Ex} {w0 w w':World} {G G':Gh} {N:Nat} {h h':Nat->Option ao} {used:Nat->Bool}
variable {P:Program} {o:Oper} {a:Act} {σ σ':St} {Q:Exit->Act->World->Prop}
def n3 (sz:Nat) (p:PB):PC:=.list sz (if p.nl=true then p.na else some (ad p.b p.o)) p.cap p.px
theorem ace {gr:Bool} {m:Mode} {sz:Nat} {xs:List (List C)} {p:PB} (hr:tU B E w G gr m sz xs p):(n3 sz p).er=.list sz xs:=by
 rw[n3,PC.dO,hr.er]
theorem an6 {gr:Bool} {m:Mode} {sz:Nat} {xs:List (List C)} {p:PB} (hr:tU B E w G gr m sz xs p) {v:Value} (hv:jA p sz 0 xs.length v):(n3 sz p).val=v:=by
 have fL:p.px.length=xs.length:=by rw[hr.er];simp
 rcases hv with⟨hn,rfl,_,hl⟩|⟨hn,a,rfl,hc,ha⟩
 ·simp[n3,PC.val,hn,fL,hl]
 ·have:=ha (.inr rfl)
  subst this
  simp[n3,PC.val,hn,fL]
theorem an5 {gr:Bool} {m:Mode} {sz:Nat} {xs:List (List C)} {p:PB} (hr:tU B E w G gr m sz xs p):Good w (n3 sz p):=by
 unfold n3
 by_cases h0:p.px=[]
 ·rw[h0];exact .nil _ _ _ hr.pos
 ·have aL:p.nl=false:=by
   cases hq:p.nl with
   |false=>rfl
   |true=>exact absurd (hr.nl hq).1 h0
  obtain⟨a1,a2,a3⟩:=hr.dV aL
  rw[if_neg (by simp[aL])]
  exact .cons _ _ _ _ _ h0 a3 hr.pos a2.1 a2.2.1 a2.2.2
theorem SF {sz:Nat} {p:PB} {b:Nat} (hn:p.nl=true->p.px=[]) (h:aT b (n3 sz p)):(p.nl=false/\b=p.b)\/aX b p.px:=by
 unfold n3 at h
 rw[aT.kI] at h
 rcases h with⟨h0,o,ho⟩|⟨k,j,c,hk,hb⟩
 ·cases hq:p.nl with
  |true=>exact absurd (hn hq) h0
  |false=>
   rw[hq] at ho
   simp at ho
   exact .inl ⟨rfl,(nD ho).1.symm⟩
 ·exact .inr ⟨k,j,c,hk,hb⟩
def rZ (G:Gh) (n b:Nat):Prop:=((G.g n).nl=false/\b=(G.g n).b)\/aX b (G.g n).px
structure sM (B:Nat) (E:Ex) (w:World) (G:Gh) (h:Nat->Option ao) (it:cR) (md:Mode) (pc:PC):Prop where
 ok:xO w md pc
 eA:Good w pc
 at_:match it with
  |.nil sz=>pc=.list sz none 0 []
  |.row n=>∃gr m sz xs,h n=some (.row gr m sz xs)/\m≠ .aF/\(md=.live->m=.live)/\pc=n3 sz (G.g n)/\s8 md xs=true
  |.nest n k off=>∃gr sz xs,h n=some (.row gr .live sz xs)/\md=.ab/\At (G.g n).px k off pc
theorem sM.nG {it:cR} {md:Mode} {pc:PC} (H:HR B E w G h used []) (i:sM B E w G h it md pc) {b:Nat} (hb:aT b pc):
  ∃n gr m sz xs,it.dF=some n/\h n=some (.row gr m sz xs)/\m≠ .aF/\rZ G n b/\((∀b,¬aX b (G.g n).px)\/m=.live):=by
 have ha:=i.at_
 cases it with
 |nil sz=>
  have ha:pc=.list sz none 0 []:=ha
  subst ha
  rw[aT.kI] at hb
  rcases hb with⟨hb,_⟩|⟨k,j,c,⟨e,he,_⟩,_⟩
  ·exact absurd rfl hb
  ·simp at he
 |row n=>
  obtain⟨gr,m,sz,xs,h1,h2,h3,rfl,h5⟩:=ha
  have hr:=H.row n gr m sz xs h1
  refine⟨n,gr,m,sz,xs,rfl,h1,h2,SF (fun hq=>(hr.nl hq).1) hb,?_⟩
  cases md with
  |live=>exact .inr (h3 rfl)
  |aF=>cases h5
  |ab=>
   left
   intro b' aY
   have Jg:ga xs=true:=h5
   rw[hr.er] at Jg
   obtain⟨k,j,c,⟨e,he,hj⟩,hc⟩:=aY
   have h6:=List.all_eq_true.1 Jg (e.map PC.er) (by simp only[List.mem_map];exact⟨e,List.mem_of_getElem? he,rfl⟩)
   have h7:=List.all_eq_true.1 h6 c.er (by simp only[List.mem_map];exact⟨c,List.mem_of_getElem? hj,rfl⟩)
   exact(Sep.lF h7).2 b' hc
 |nest n k off=>
  obtain⟨gr,sz,xs,h1,h2,h3⟩:=ha
  exact⟨n,gr,.live,sz,xs,rfl,h1,by simp,.inr ⟨k,off,pc,h3,hb⟩,.inr rfl⟩
theorem HR.Ee (H:HR B E w G h used []) {n n':Nat} (aC:n≠n') {gr bm:Bool} {m m':Mode} {sz aJ:Nat} {xs aq:List (List C)} (h1:h n=some (.row gr m sz xs)) (h2:h n'=some (.row bm m' aJ aq))
  (bM:(∀b,¬aX b (G.g n').px)\/m'=.live) {b:Nat} (hb:rZ G n b):¬rZ G n' b:=by
 have e1:h n≠none:=by rw[h1];simp
 have e2:h n'≠none:=by rw[h2];simp
 have own:∀{p q:Nat} {gr:Bool} {m:Mode} {sz:Nat} {xs:List (List C)},h p≠none->h q=some (.row gr m sz xs)->(G.g p).nl=false->¬aX (G.g p).b (G.g q).px:=by
  intro p q gr m sz xs hp hq hl hF
  have gf:=(H.row q gr m sz xs hq).mode
  cases m with
  |aF=>exact(H.own p hp hl).1 (gf _ hF)
  |ab=>exact(H.own p hp hl).1 (gf.1 _ hF).1
  |live=>exact H.live q gr sz xs hq _ hF p hp hl rfl
 rintro(⟨l2,rfl⟩|b2)
 ·rcases hb with⟨l1,b1⟩|b1
  ·exact H.inj n n' e1 e2 aC l1 l2 b1.symm
  ·exact own e2 h1 l2 b1
 ·rcases hb with⟨l1,rfl⟩|b1
  ·exact own e1 h2 l1 b2
  ·rcases bM with bM|rfl
   ·exact bM b b2
   ·have q2:=(H.row n' bm .live aJ aq h2).mode
    have q1:=(H.row n gr m sz xs h1).mode
    cases m with
    |aF=>exact(q2.1 b b2).1 (q1 b b1)
    |ab=>exact(q2.1 b b2).1 (q1.1 b b1).1
    |live=>exact H.fI n n' gr .live sz xs bm .live aJ aq h1 h2 (by simp) (by simp) aC b b1 b2
theorem HR.item (H:HR B E w G h used []) {md:Mode} {c:ah} {it:cR} {x:C} {v:Value} (hx:sy h md c=some (it,x)) (hc:RC w G h c v):
  ∃pc:PC,pc.er=x/\pc.val=v/\sM B E w G h it md pc/\it.dF=c.dF:=by
 unfold sy at hx
 split at hx
 ·rename_i sz
  split at hx
  ·rename_i dR
   injection hx with hx
   injection hx with h1 h2
   subst h1 h2
   have cC:v=.slice none 0 0:=hc
   subst cC
   refine⟨.list sz none 0 [],by simp[PC.dO],rfl,⟨⟨?_,?_,sz,none,0,[],rfl,dR.1,(fun b o h=>by cases h),?_⟩,.nil _ _ _ dR.1,rfl⟩,rfl⟩
   ·refine .list _ _ _ _ ?_ ?_ ?_
    ·rintro k j c ⟨e,he,_⟩;simp at he
    ·rintro b o k j c _ ⟨e,he,_⟩;simp at he
    ·rintro k j c k' j' c' b ⟨e,he,_⟩;simp at he
   ·intro b hb
    rw[aT.kI] at hb
    rcases hb with⟨hb,_⟩|⟨k,j,c,⟨e,he,_⟩,_⟩
    ·exact absurd rfl hb
    ·simp at he
   ·cases md with
    |aF=>exact absurd rfl dR.2
    |ab=>rfl
    |live=>rfl
  ·cases hx
 ·rename_i n sz lo len
  split at hx
  ·rename_i gr m rs xs hn
   split at hx
   ·rename_i cM
    obtain⟨hm,tg,rfl,rfl,rfl,jF⟩:=cM
    injection hx with hx
    injection hx with h1 h2
    subst h1 h2
    have bP:h n≠none:=by rw[hn];simp
    have hs:jA (G.g n) rs 0 xs.length v:=hc bP
    have hr:=H.row n gr m rs xs hn
    have sd:(∀b,aX b (G.g n).px->dH w b)/\iy (G.g n).px/\(∀b,aX b (G.g n).px->(G.g n).nl=false->b≠(G.g n).b):=by
     have c6:=hr.mode
     cases m with
     |aF=>exact absurd rfl hm
     |ab=>exact⟨fun b hb=>(c6.1 b hb).2.1,c6.2,fun b hb hl ef=>(H.own n bP hl).1 (ef▸(c6.1 b hb).1)⟩
     |live=>exact⟨fun b hb=>(c6.1 b hb).2.1,c6.2,fun b hb hl=>H.live n gr rs xs hn b hb n bP hl⟩
    obtain⟨o1,o2,o3⟩:=sd
    have BJ:∀b o,(if(G.g n).nl=true then(G.g n).na else some (ad (G.g n).b (G.g n).o))=some (ad b o)->¬aX b (G.g n).px:=by
     intro b o eV hF
     cases hq:(G.g n).nl with
     |true=>rw[(hr.nl hq).1] at hF;obtain⟨k,j,c,⟨e,he,_⟩,_⟩:=hF;simp at he
     |false=>
      rw[hq] at eV
      simp at eV
      exact o3 b hF hq (nD eV).1.symm
    refine⟨n3 rs (G.g n),ace hr,an6 hr hs,⟨⟨.list _ _ _ _ o2.1 (fun b o k j c eV hk hb=>BJ b o eV ⟨k,j,c,hk,hb⟩) o2.2,fun b hb=>?_,rs,_,_,_,rfl,hr.pos,BJ,by rw[<-hr.er];exact jF⟩,an5 hr,
     gr,m,rs,xs,hn,hm,tg,rfl,jF⟩,rfl⟩
    rcases SF (fun hq=>(hr.nl hq).1) hb with⟨hl,rfl⟩|hF
    ·exact(hr.dV hl).1
    ·exact o1 b hF
   ·cases hx
  ·cases hx
 ·rename_i n k aA off sz len
  split at hx
  ·rename_i gr rs xs hn
   split at hx
   ·rename_i cM
    obtain⟨rfl,rfl⟩:=cM
    split at hx
    ·rename_i s ys sj
     split at hx
     ·rename_i jF
      injection hx with hx
      injection hx with h1 h2
      subst h1 h2
      obtain⟨pc,p1,p2,p3⟩:=hc gr xs hn
      have hr:=H.row n gr .live rs xs hn
      have aL:(G.g n).nl=false:=by
       cases hq:(G.g n).nl with
       |false=>rfl
       |true=>obtain⟨e,he,_⟩:=p1;rw[(hr.nl hq).1] at he;simp at he
      have hJ:Good w pc:=(hr.dV aL).2.1.2.2 _ _ _ p1
      have uC:pc.er=.list s ys:=by
       obtain⟨e,he,hj⟩:=p1
       rw[hr.er] at sj
       simp[he,hj] at sj
       exact sj
      have ky:=hr.mode.2.1 _ _ _ p1
      cases pc with
      |int k n=>cases p3
      |bool b=>cases p3
      |list s' a' sU px'=>
       rw[PC.dO] at uC
       injection uC with g1 g2
       subst g1
       have jh:ga (px'.map fun e=>e.map PC.er)=true:=by rw[g2];exact jF
       refine⟨_,by rw[PC.dO,g2],p2,⟨⟨ky,fun b hb=>(hr.mode.1 b ⟨k,off,_,p1,hb⟩).2.1,s',a',sU,px',rfl,?_,fun b o _ hF=>?_,jh⟩,hJ,gr,rs,xs,hn,rfl,p1⟩,rfl⟩
       ·cases hJ with
        |nil _ _ _ h=>exact h
        |cons _ _ _ _ _ _ _ h=>exact h
       ·obtain⟨kk,jj,c,⟨e,he,hj⟩,hc⟩:=hF
        have h6:=List.all_eq_true.1 jh (e.map PC.er) (by simp only[List.mem_map];exact⟨e,List.mem_of_getElem? he,rfl⟩)
        have h7:=List.all_eq_true.1 h6 c.er (by simp only[List.mem_map];exact⟨c,List.mem_of_getElem? hj,rfl⟩)
        exact(Sep.lF h7).2 b hc
     ·cases hx
    ·cases hx
   ·cases hx
  ·cases hx
 ·cases hx
theorem HR.Wa (H:HR B E w G h used []) {c:ah} {x:C} {v:Value} (hx:Am.cq h c=some x) (hc:RC w G h c v):
  ∃pc:PC,pc.er=x/\pc.val=v/\Good w pc/\∀b,aT b pc->G.Im b\/∃n gr m sz xs,c.dF=some n/\h n=some (.row gr m sz xs)/\rZ G n b:=by
 cases c with
 |c y=>
  simp only[Am.cq] at hx
  injection hx with hx
  subst hx
  obtain⟨pc,h1,h2,h3,h4⟩:=hc
  exact⟨pc,h1,h2,h3,fun b hb=>.inl (h4 b hb)⟩
 |nil sz=>
  simp only[Am.cq] at hx
  split at hx
  ·rename_i dR
   injection hx with hx
   subst hx
   have cC:v=.slice none 0 0:=hc
   subst cC
   refine⟨.list sz none 0 [],by simp[PC.dO],rfl,.nil _ _ _ dR,fun b hb=>?_⟩
   rw[aT.kI] at hb
   rcases hb with⟨hb,_⟩|⟨k,j,c,⟨e,he,_⟩,_⟩
   ·exact absurd rfl hb
   ·simp at he
  ·cases hx
 |sl n sz lo len=>
  simp only[Am.cq] at hx
  split at hx
  ·rename_i gr m rs xs hn
   split at hx
   ·rename_i cM
    obtain⟨rfl,hl⟩:=cM
    injection hx with hx
    subst hx
    have hs:jA (G.g n) rs lo len v:=hc (by rw[hn];simp)
    obtain⟨a1,a2,a3,a4⟩:=FK (H.row n gr m rs xs hn) hs hl
    exact⟨_,a1,a2,a3,fun b hb=>.inr ⟨n,gr,m,rs,xs,rfl,hn,a4 b hb⟩⟩
   ·cases hx
  ·cases hx
 |bx n k aA off sz len=>
  simp only[Am.cq] at hx
  split at hx
  ·rename_i gr rs xs hn
   split at hx
   ·rename_i cM
    subst cM
    obtain⟨pc,p1,p2,p3⟩:=hc gr xs hn
    have hr:=H.row n gr .live rs xs hn
    have aL:(G.g n).nl=false:=by
     cases hq:(G.g n).nl with
     |false=>rfl
     |true=>obtain⟨e,he,_⟩:=p1;rw[(hr.nl hq).1] at he;simp at he
    refine⟨pc,?_,p2,(hr.dV aL).2.1.2.2 _ _ _ p1,fun b hb=>.inr ⟨n,gr,.live,rs,xs,rfl,hn,.inr ⟨k,off,pc,p1,hb⟩⟩⟩
    obtain⟨e,he,hj⟩:=p1
    rw[hr.er] at hx
    simp[he,hj] at hx
    exact hx
   ·cases hx
  ·cases hx
 |ptr _ _ _ _=>simp[Am.cq] at hx
 |cB _ _=>simp[Am.cq] at hx
 |fn _ _=>simp[Am.cq] at hx
 |cV _ _ _ _ _ _=>simp[Am.cq] at hx
 |bn=>simp[Am.cq] at hx
theorem Z7 {ns:List Nat} {n:Nat} {b:ao} (hx:dQ h ns n=some b):h n=some b/\n∉ns:=by
 unfold dQ at hx
 split at hx
 ·cases hx
 ·rename_i hc
  exact⟨hx,fun hm=>hc (by simpa using hm)⟩
theorem adS {ns:List Nat} {c:ah} {x:C} (hx:cq (dQ h ns) c=some x):cq h c=some x/\∀n,c.dF=some n->n∉ns:=by
 cases c with
 |c y=>exact⟨hx,by intro n hn;cases hn⟩
 |nil sz=>exact⟨hx,by intro n hn;cases hn⟩
 |sl n sz lo len=>
  simp only[Am.cq] at hx
  split at hx
  ·rename_i gr m rs xs hn
   obtain⟨h1,h2⟩:=Z7 hn
   exact⟨by simp only[Am.cq,h1];exact hx,by intro q hq;injection hq with hq;subst hq;exact h2⟩
  ·cases hx
 |bx n k aA off sz len=>
  simp only[Am.cq] at hx
  split at hx
  ·rename_i gr rs xs hn
   obtain⟨h1,h2⟩:=Z7 hn
   exact⟨by simp only[Am.cq,h1];exact hx,by intro q hq;injection hq with hq;subst hq;exact h2⟩
  ·cases hx
 |ptr _ _ _ _=>simp[Am.cq] at hx
 |cB _ _=>simp[Am.cq] at hx
 |fn _ _=>simp[Am.cq] at hx
 |cV _ _ _ _ _ _=>simp[Am.cq] at hx
 |bn=>simp[Am.cq] at hx
def LC (G:Gh) (h:Nat->Option ao) (ns:List Nat) (pc:PC):Prop:=
 ∀b,aT b pc->G.Im b\/∃n gr m sz xs,n∉ns/\h n=some (.row gr m sz xs)/\rZ G n b
structure mN (B:Nat) (E:Ex) (w:World) (G:Gh) (h:Nat->Option ao) (its:List (cR×Mode)) (fl:List (Mode×PC)):Prop where
 len:its.length=fl.length
 at_:∀(i:Nat) (it:cR×Mode) (x:Mode×PC),its[i]? =some it->fl[i]? =some x->it.2=x.1/\sM B E w G h it.1 x.1 x.2
theorem mN.nil:mN B E w G h [] []:=⟨rfl,by intro i it x h;simp at h⟩
theorem mN.cons {it:cR×Mode} {its:List (cR×Mode)} {x:Mode×PC} {fl:List (Mode×PC)} (h1:it.2=x.1) (h2:sM B E w G h it.1 x.1 x.2) (h3:mN B E w G h its fl):mN B E w G h (it::its) (x::fl):=by
 refine⟨by simp[h3.len],fun i y6 x' hi hx=>?_⟩
 cases i with
 |zero=>simp at hi hx;subst hi;subst hx;exact⟨h1,h2⟩
 |succ i=>exact h3.at_ i y6 x' (by simpa using hi) (by simpa using hx)
theorem mN.append {its uY:List (cR×Mode)} {fl YH:List (Mode×PC)} (h1:mN B E w G h its fl) (h2:mN B E w G h uY YH):mN B E w G h (its++uY) (fl++YH):=by
 refine⟨by simp[h1.len,h2.len],fun i it x hi hx=>?_⟩
 by_cases bH:i<its.length
 ·rw[List.getElem?_append_left bH] at hi
  rw[List.getElem?_append_left (by rw[<-h1.len];exact bH)] at hx
  exact h1.at_ i it x hi hx
 ·rw[List.getElem?_append_right (by omega)] at hi
  rw[List.getElem?_append_right (by rw[<-h1.len];omega)] at hx
  rw[h1.len] at hi
  exact h2.at_ _ it x hi hx
theorem HR.jN (H:HR B E w G h used []) {ns:List Nat}:∀{fs:List (Option Mode)} {cs:List ah} {xs:List C} {its:List (cR×Mode)} {vs:List Value},Am.jN h (dQ h ns) fs cs=some (xs,its)->cT w G h cs vs->
  ∃ps:List PC,ps.map PC.er=xs/\ps.map PC.val=vs/\(∀pc∈ps,Good w pc)/\mN B E w G h its (ez fs ps)/\its.filterMap (·.1.dF)=nk fs cs/\∀pc∈n9 fs ps,LC G h ns pc
 |[],cs,xs,its,vs,hx,hc=>by
  simp only[Am.jN] at hx
  split at hx
  ·rename_i ys hy
   injection hx with hx
   injection hx with h1 h2
   subst h1 h2
   have ca:∀(cs:List ah) (xs:List C) (vs:List Value),Am.gU (dQ h ns) cs=some xs->cT w G h cs vs->∃ps:List PC,ps.map PC.er=xs/\ps.map PC.val=vs/\(∀pc∈ps,Good w pc)/\∀pc∈ps,LC G h ns pc:=by
    intro cs
    induction cs with
    |nil=>
     intro xs vs hx hc
     simp only[Am.gU] at hx
     injection hx with hx
     subst hx
     have:vs=[]:=List.eq_nil_of_length_eq_zero (by simpa using hc.1)
     subst this
     exact⟨[],rfl,rfl,by simp,by simp⟩
    |cons c cs ih=>
     intro xs vs hx hc
     simp only[Am.gU] at hx
     split at hx
     ·rename_i x aq e1 e2
      injection hx with hx
      subst hx
      obtain⟨hlen,bU⟩:=hc
      match vs,hlen with
      |v::vs,hlen=>
       obtain⟨v1,v2⟩:=adS e1
       obtain⟨pc,a1,a2,a3,a4⟩:=H.Wa v1 (bU 0 c v rfl rfl).2
       obtain⟨ps,b1,b2,b3,b4⟩:=ih aq vs e2 ⟨by simpa using hlen,fun j c u h1 h2=>bU (j+1) c u h1 h2⟩
       refine⟨pc::ps,by simp[a1,b1],by simp[a2,b2],fun q hq=>?_,fun q hq=>?_⟩
       ·cases hq with
        |head=>exact a3
        |tail _ hq=>exact b3 q hq
       ·cases hq with
        |head=>exact fun b hb=>(a4 b hb).imp id fun⟨n,gr,m,sz,xs,hn,h1,h2⟩=>⟨n,gr,m,sz,xs,v2 n hn,h1,h2⟩
        |tail _ hq=>exact b4 q hq
     ·cases hx
   obtain⟨ps,b1,b2,b3,b4⟩:=ca cs ys vs hy hc
   exact⟨ps,b1,b2,b3,by simpa[ez] using mN.nil,by simp[nk],by simpa[n9] using b4⟩
  ·cases hx
 |f::fs,[],xs,its,vs,hx,hc=>by cases f<;>simp[Am.jN] at hx
 |none::fs,c::cs,xs,its,vs,hx,hc=>by
  simp only[Am.jN] at hx
  split at hx
  ·rename_i x aq uY e1 e2
   injection hx with hx
   injection hx with h1 h2
   subst h1 h2
   obtain⟨hlen,bU⟩:=hc
   match vs,hlen with
   |v::vs,hlen=>
    obtain⟨v1,v2⟩:=adS e1
    obtain⟨pc,a1,a2,a3,a4⟩:=H.Wa v1 (bU 0 c v rfl rfl).2
    obtain⟨ps,b1,b2,b3,b4,b5,b6⟩:=H.jN e2 (vs:=vs) ⟨by simpa using hlen,fun j c u h1 h2=>bU (j+1) c u h1 h2⟩
    refine⟨pc::ps,by simp[a1,b1],by simp[a2,b2],fun q hq=>?_,by simpa[ez] using b4,by simpa[nk] using b5,fun q hq=>?_⟩
    ·cases hq with
     |head=>exact a3
     |tail _ hq=>exact b3 q hq
    ·simp only[n9] at hq
     cases hq with
     |head=>exact fun b hb=>(a4 b hb).imp id fun⟨n,gr,m,sz,xs,hn,h1,h2⟩=>⟨n,gr,m,sz,xs,v2 n hn,h1,h2⟩
     |tail _ hq=>exact b6 q hq
  ·cases hx
 |some md::fs,c::cs,xs,its,vs,hx,hc=>by
  simp only[Am.jN] at hx
  split at hx
  ·rename_i it x aq uY e1 e2
   injection hx with hx
   injection hx with h1 h2
   subst h1 h2
   obtain⟨hlen,bU⟩:=hc
   match vs,hlen with
   |v::vs,hlen=>
    obtain⟨pc,a1,a2,a3,a4⟩:=H.item e1 (bU 0 c v rfl rfl).2
    obtain⟨ps,b1,b2,b3,b4,b5,b6⟩:=H.jN e2 (vs:=vs) ⟨by simpa using hlen,fun j c u h1 h2=>bU (j+1) c u h1 h2⟩
    refine⟨pc::ps,by simp[a1,b1],by simp[a2,b2],fun q hq=>?_,?_,?_,fun q hq=>b6 q (by simpa[n9] using hq)⟩
    ·cases hq with
     |head=>exact a3.eA
     |tail _ hq=>exact b3 q hq
    ·simp only[ez]
     exact mN.cons rfl a3 b4
    ·simp only[nk,<-a4,<-b5]
     cases gh:it.dF with
     |none=>simp[gh]
     |some n=>simp[gh]
  ·cases hx
theorem HR.lE (H:HR B E w G h used []) {ns:List Nat}:∀{as:List (Bool×List ah)} {sig:aP} {ds:List Dv} {its:List (cR×Mode)} {vals:List Value},Am.lE h (dQ h ns) sig as=some (ds,its)->vals.length=as.length->
  (∀(j:Nat) (x:Bool×List ah) (v:Value),as[j]? =some x->vals[j]? =some v->RV w G h x.1 x.2 v)->
  ∃pas:List PA,pas.length=ds.length/\vals.length=ds.length/\(∀(i:Nat) (d:Dv) (v:Value) (p:PA),ds[i]? =some d->vals[i]? =some v->pas[i]? =some p->zZ w d v p)/\(∀p∈pas,p.k≠ .ptr)/\
   mN B E w G h its (eI sig (pas.map (·.ps)))/\its.filterMap (·.1.dF)=kf sig as/\∀pc∈qi sig (pas.map (·.ps)),LC G h ns pc
 |[],sig,ds,its,vals,hx,hl,hc=>by
  simp only[Am.lE] at hx
  injection hx with hx
  injection hx with h1 h2
  subst h1 h2
  refine⟨[],rfl,by simpa using hl,by simp,by simp,?_,?_,?_⟩
  ·cases sig<;>exact mN.nil
  ·cases sig<;>rfl
  ·cases sig<;>simp[qi]
 |(ag,cs)::as,sig,ds,its,vals,hx,hl,hc=>by
  simp only[Am.lE] at hx
  split at hx
  ·rename_i xs aav ue aaw e1 e2
   injection hx with hx
   injection hx with h1 h2
   subst h1 h2
   match vals,hl with
   |v::vals,hl=>
    have h0:=hc 0 (ag,cs) v rfl rfl
    obtain⟨q1,q2,q3,q4,q5,q6,q7⟩:=H.lE e2 (as:=as) (vals:=vals) (by simpa using hl) (fun j x v h1 h2=>hc (j+1) x v h1 h2)
    obtain⟨vs,iP,hR⟩:∃vs:List Value,(if ag=true then v=.agg vs.toArray else vs=[v])/\cT w G h cs vs:=by
     unfold RV at h0
     split at h0
     ·rename_i br
      obtain⟨vs,e,hR⟩:=h0
      exact⟨vs,by rw[if_pos br];exact e,hR⟩
     ·rename_i br
      exact⟨[v],by rw[if_neg br],h0⟩
    obtain⟨ps,p1,p2,p3,p4,p5,p6⟩:=H.jN e1 hR
    refine⟨⟨if ag=true then .agg else .one,ps,0,0⟩::q1,by simp[q2],by simp[q3],fun i d v' p hd hv hp=>?_,fun p hp=>?_,?_,?_,?_⟩
    ·cases i with
     |zero=>
      simp at hd hv hp
      subst hd hv hp
      cases ag with
      |true=>
       simp only[if_true] at iP⊢
       exact⟨by rw[p1],p3,by simp only[p2];exact iP⟩
      |false=>
       simp only[if_false,Bool.false_eq_true] at iP⊢
       exact⟨by rw[p1],p3,by simp only[p2];exact iP⟩
     |succ i=>exact q4 i d v' p (by simpa using hd) (by simpa using hv) (by simpa using hp)
    ·cases hp with
     |head=>cases ag<;>simp
     |tail _ hp=>exact q5 p hp
    ·cases sig with
     |nil=>
      have e3:ez (aP.hd ([]:aP)) ps=[]:=rfl
      rw[e3] at p4
      have e4:aav=[]:=List.eq_nil_of_length_eq_zero p4.len
      subst e4
      have e5:eI (aP.tl ([]:aP)) (q1.map (·.ps))=[]:=rfl
      rw[e5] at q6
      have e6:aaw=[]:=List.eq_nil_of_length_eq_zero q6.len
      subst e6
      exact mN.nil
     |cons s sig=>exact mN.append p4 q6
    ·cases sig with
     |nil=>
      have e3:ez (aP.hd ([]:aP)) ps=[]:=rfl
      rw[e3] at p4
      have e4:aav=[]:=List.eq_nil_of_length_eq_zero p4.len
      subst e4
      have e5:eI (aP.tl ([]:aP)) (q1.map (·.ps))=[]:=rfl
      rw[e5] at q6
      have e6:aaw=[]:=List.eq_nil_of_length_eq_zero q6.len
      subst e6
      rfl
     |cons s sig=>
      rw[List.filterMap_append,p5,q7.1]
      rfl
    ·intro pc aU
     cases sig with
     |nil=>
      simp only[List.map_cons,qi,List.flatten_cons,List.mem_append] at aU
      rcases aU with aU|aU
      ·exact p6 pc aU
      ·exact q7.2 pc (by simpa[qi,aP.tl] using aU)
     |cons s sig=>
      simp only[List.map_cons,qi,List.mem_append] at aU
      rcases aU with aU|aU
      ·exact p6 pc aU
      ·exact q7.2 pc aU
  ·cases hx
end
end Go.Am
