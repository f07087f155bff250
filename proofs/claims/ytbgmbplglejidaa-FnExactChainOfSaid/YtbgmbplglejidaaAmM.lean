/- AmM: functions that change lists of their arguments: what is said of them, and the caller's side of a call. No condition. -/
import Derived.Test.YtbgmbplglejidaaAm16
set_option linter.unusedVariables false
namespace Go.Am
def eu {α:Type}:List (Option Mode)->List α->List (Mode×α)
 |some m::fs,x::xs=>(m,x)::eu fs xs
 |none::fs,_::xs=>eu fs xs
 |_,_=>[]
def nB {α:Type}:List (Option Mode)->List α->List α
 |some _::fs,_::xs=>nB fs xs
 |none::fs,x::xs=>x::nB fs xs
 |[],xs=>xs
 |_,[]=>[]
def eB {α:Type}:aN->List (List α)->List (Mode×α)
 |s::sig,xs::r8=>eu s xs++eB sig r8
 |_,_=>[]
def pE {α:Type}:aN->List (List α)->List α
 |s::sig,xs::r8=>nB s xs++pE sig r8
 |[],r8=>r8.flatten
 |_,[]=>[]
theorem Ix {α β:Type} (f:α->β):∀(s:List (Option Mode)) (xs:List α),eu s (xs.map f)=(eu s xs).map fun x=>(x.1,f x.2)
 |some m::fs,x::xs=>by simp only[List.map_cons,eu,Ix f fs xs]
 |none::fs,x::xs=>by simp only[List.map_cons,eu,Ix f fs xs]
 |[],_=>by simp[eu]
 |some m::fs,[]=>rfl
 |none::fs,[]=>rfl
theorem Iw {α β:Type} (f:α->β):∀(s:aN) (xs:List (List α)),eB s (xs.map fun l=>l.map f)=(eB s xs).map fun x=>(x.1,f x.2)
 |s::sig,xs::r8=>by simp only[List.map_cons,eB,List.map_append,Ix f s xs,Iw f sig r8]
 |[],_=>by simp[eB]
 |s::sig,[]=>rfl
structure xP (w:World) (m:Mode) (pc:PC):Prop where
 sep:Sep pc
 un:∀b,aT b pc->dD w b
 dT:∃sz a cap xs,pc=.list sz a cap xs/\0<sz/\(∀b o,a=some (ad b o)->¬aX b xs)/\sJ m (xs.map fun e=>e.map PC.er)=true
structure PA where
 k:K
 ps:List PC
 b:Nat
 o:Nat
def zB (w:World) (d:Dv) (v:Value) (p:PA):Prop:=
 d=(p.k,p.ps.map PC.er)/\(∀pc∈p.ps,Good w pc)/\
 match p.k with
 |.one=>p.ps.map PC.val=[v]
 |.agg=>v=.agg (p.ps.map PC.val).toArray
 |.ptr=>v=.pointer (some (ad p.b p.o))/\p.b<w.heap.size/\∀j c,p.ps[j]? =some c->w.cell? (ad p.b (p.o+j))=some c.val
structure CK (w:World) (sig:aN) (ds:List Dv) (vals:List Value) (pas:List PA):Prop where
 l1:vals.length=ds.length
 l2:pas.length=ds.length
 at_:∀(i:Nat) (d:Dv) (v:Value) (p:PA),ds[i]? =some d->vals[i]? =some v->pas[i]? =some p->zB w d v p
 ok:∀x∈eB sig (pas.map (·.ps)),xP w x.1 x.2
 m4:(eB sig (pas.map (·.ps))).Pairwise fun x y=>∀b,aT b x.2->¬aT b y.2
 free:∀pc∈pE sig (pas.map (·.ps)),∀x∈eB sig (pas.map (·.ps)),∀b,aT b pc->¬aT b x.2
 ptr:∀p∈pas,p.k=.ptr->∀x∈eB sig (pas.map (·.ps)),¬aT p.b x.2
 anm:∀(i:Nat) (p:PA) (s:List (Option Mode)),pas[i]? =some p->sig[i]? =some s->p.k=.ptr->s=[]
def Dj (fl:List (Mode×PC)):Ex:=⟨fun b=>∃x∈fl,aT b x.2,fun _=>none,fun _ _ h=>(by cases h),fun _=>True⟩
structure tH (w:World) (m:Mode) (pc di:PC):Prop where
 val:di.val=pc.val
 dH:Good w di
 sep:Sep di
 sub:∀b,aT b di->aT b pc
 flat:sJ m (match di.er with|.list _ xs=>xs|_=>[])=true
 live:∀sz a cap xs aL a' sA ar,pc=.list sz a cap xs->di=.list aL a' sA ar->aL=sz/\a'=a/\sA=cap/\ar.length=xs.length/\
  (m=.live->∀k j c,At xs k j c->c.gx=true->∃c',At ar k j c'/\c'.val=c.val/\c'.gx=true)
def kA (P:Program) (f:FuncId) (sig:aN) (M:List Dv->Option (List Dv×List C)):Prop:=
 ∀ds rs eI,M ds=some (rs,eI)->∀(w:World) (vals:List Value) (pas:List PA),CK w sig ds vals pas->Calls P f vals.toArray w fun e w'=>
  ∃aV:List (K×List PC),aV.map (fun p=>(p.1,p.2.map PC.er))=rs/\e=.returned (xd aV)/\(∀p∈aV,p.1≠ .ptr/\(p.1=.one->p.2.length=1))/\
   CP w' w.heap.size (aV.flatMap (·.2))/\Fr w.heap.size (Dj (eB sig (pas.map (·.ps)))) w w'/\
   ∃qs:List PC,qs.map PC.er=eI/\qs.length=(eB sig (pas.map (·.ps))).length/\
    ∀(i:Nat) (x:Mode×PC) (q:PC),(eB sig (pas.map (·.ps)))[i]? =some x->qs[i]? =some q->tH w' x.1 x.2 q
section
variable {B:Nat} {E:Ex} {w0 w w':World} {G G':Gh} {N:Nat} {h h':Nat->Option aq} {used:Nat->Bool}
variable {P:Program} {o:Oper} {a:Act} {σ σ':St} {Q:Exit->Act->World->Prop}
def nw (sz:Nat) (p:PB):PC:=.list sz (if p.nl=true then p.na else some (ad p.b p.o)) p.cap p.px
theorem ace {gr:Bool} {m:Mode} {sz:Nat} {xs:List (List C)} {p:PB} (hr:tJ B E w G gr m sz xs p):(nw sz p).er=.list sz xs:=by
 rw[nw,PC.dG,hr.er]
theorem ao3 {gr:Bool} {m:Mode} {sz:Nat} {xs:List (List C)} {p:PB} (hr:tJ B E w G gr m sz xs p) {v:Value} (hv:jg p sz 0 xs.length v):(nw sz p).val=v:=by
 have fB:p.px.length=xs.length:=by rw[hr.er];simp
 rcases hv with⟨hn,rfl,_,hl⟩|⟨hn,a,rfl,hc,ha⟩
 ·simp[nw,PC.val,hn,fB,hl]
 ·have:=ha (.inr rfl)
  subst this
  simp[nw,PC.val,hn,fB]
theorem ao2 {gr:Bool} {m:Mode} {sz:Nat} {xs:List (List C)} {p:PB} (hr:tJ B E w G gr m sz xs p):Good w (nw sz p):=by
 unfold nw
 by_cases h0:p.px=[]
 ·rw[h0];exact .nil _ _ _ hr.pos
 ·have aR:p.nl=false:=by
   cases hq:p.nl with
   |false=>rfl
   |true=>exact absurd (hr.nl hq).1 h0
  obtain⟨a1,a2,a3⟩:=hr.dT aR
  rw[if_neg (by simp[aR])]
  exact .cons _ _ _ _ _ h0 a3 hr.pos a2.1 a2.2.1 a2.2.2
theorem SA {sz:Nat} {p:PB} {b:Nat} (hn:p.nl=true->p.px=[]) (h:aT b (nw sz p)):(p.nl=false/\b=p.b)\/aX b p.px:=by
 unfold nw at h
 rw[aT.ko] at h
 rcases h with⟨h0,o,ho⟩|⟨k,j,c,hk,hb⟩
 ·cases hq:p.nl with
  |true=>exact absurd (hn hq) h0
  |false=>
   rw[hq] at ho
   simp at ho
   exact .inl ⟨rfl,(mX ho).1.symm⟩
 ·exact .inr ⟨k,j,c,hk,hb⟩
def rp (G:Gh) (n b:Nat):Prop:=((G.g n).nl=false/\b=(G.g n).b)\/aX b (G.g n).px
structure sn (B:Nat) (E:Ex) (w:World) (G:Gh) (h:Nat->Option aq) (it:cI) (md:Mode) (pc:PC):Prop where
 ok:xP w md pc
 dH:Good w pc
 at_:match it with
  |.nil sz=>pc=.list sz none 0 []
  |.row n=>∃gr m sz xs,h n=some (.row gr m sz xs)/\m≠ .aO/\(md=.live->m=.live)/\pc=nw sz (G.g n)/\sJ md xs=true
  |.nest n k off=>∃gr sz xs,h n=some (.row gr .live sz xs)/\md=.ab/\At (G.g n).px k off pc
theorem sn.m5 {it:cI} {md:Mode} {pc:PC} (H:HR B E w G h used []) (i:sn B E w G h it md pc) {b:Nat} (hb:aT b pc):
  ∃n gr m sz xs,it.dB=some n/\h n=some (.row gr m sz xs)/\m≠ .aO/\rp G n b/\((∀b,¬aX b (G.g n).px)\/m=.live):=by
 have ha:=i.at_
 cases it with
 |nil sz=>
  have ha:pc=.list sz none 0 []:=ha
  subst ha
  rw[aT.ko] at hb
  rcases hb with⟨hb,_⟩|⟨k,j,c,⟨e,he,_⟩,_⟩
  ·exact absurd rfl hb
  ·simp at he
 |row n=>
  obtain⟨gr,m,sz,xs,h1,h2,h3,rfl,h5⟩:=ha
  have hr:=H.row n gr m sz xs h1
  refine⟨n,gr,m,sz,xs,rfl,h1,h2,SA (fun hq=>(hr.nl hq).1) hb,?_⟩
  cases md with
  |live=>exact .inr (h3 rfl)
  |aO=>cases h5
  |ab=>
   left
   intro b' aW
   have IF:fQ xs=true:=h5
   rw[hr.er] at IF
   obtain⟨k,j,c,⟨e,he,hj⟩,hc⟩:=aW
   have h6:=List.all_eq_true.1 IF (e.map PC.er) (by simp only[List.mem_map];exact⟨e,List.mem_of_getElem? he,rfl⟩)
   have h7:=List.all_eq_true.1 h6 c.er (by simp only[List.mem_map];exact⟨c,List.mem_of_getElem? hj,rfl⟩)
   exact(Sep.kP h7).2 b' hc
 |nest n k off=>
  obtain⟨gr,sz,xs,h1,h2,h3⟩:=ha
  exact⟨n,gr,.live,sz,xs,rfl,h1,by simp,.inr ⟨k,off,pc,h3,hb⟩,.inr rfl⟩
theorem HR.DA (H:HR B E w G h used []) {n n':Nat} (aE:n≠n') {gr bj:Bool} {m m':Mode} {sz aL:Nat} {xs ar:List (List C)} (h1:h n=some (.row gr m sz xs)) (h2:h n'=some (.row bj m' aL ar))
  (bI:(∀b,¬aX b (G.g n').px)\/m'=.live) {b:Nat} (hb:rp G n b):¬rp G n' b:=by
 have e1:h n≠none:=by rw[h1];simp
 have e2:h n'≠none:=by rw[h2];simp
 have own:∀{p q:Nat} {gr:Bool} {m:Mode} {sz:Nat} {xs:List (List C)},h p≠none->h q=some (.row gr m sz xs)->(G.g p).nl=false->¬aX (G.g p).b (G.g q).px:=by
  intro p q gr m sz xs hp hq hl hF
  have fS:=(H.row q gr m sz xs hq).mode
  cases m with
  |aO=>exact(H.own p hp hl).1 (fS _ hF)
  |ab=>exact(H.own p hp hl).1 (fS.1 _ hF).1
  |live=>exact H.live q gr sz xs hq _ hF p hp hl rfl
 rintro(⟨l2,rfl⟩|b2)
 ·rcases hb with⟨l1,b1⟩|b1
  ·exact H.inj n n' e1 e2 aE l1 l2 b1.symm
  ·exact own e2 h1 l2 b1
 ·rcases hb with⟨l1,rfl⟩|b1
  ·exact own e1 h2 l1 b2
  ·rcases bI with bI|rfl
   ·exact bI b b2
   ·have q2:=(H.row n' bj .live aL ar h2).mode
    have q1:=(H.row n gr m sz xs h1).mode
    cases m with
    |aO=>exact(q2.1 b b2).1 (q1 b b1)
    |ab=>exact(q2.1 b b2).1 (q1.1 b b1).1
    |live=>exact H.fA n n' gr .live sz xs bj .live aL ar h1 h2 (by simp) (by simp) aE b b1 b2
theorem HR.item (H:HR B E w G h used []) {md:Mode} {c:ah} {it:cI} {x:C} {v:Value} (hx:rQ h md c=some (it,x)) (hc:RC w G h c v):
  ∃pc:PC,pc.er=x/\pc.val=v/\sn B E w G h it md pc/\it.dB=c.dB:=by
 unfold rQ at hx
 split at hx
 ·rename_i sz
  split at hx
  ·rename_i ed
   injection hx with hx
   injection hx with h1 h2
   subst h1 h2
   have cO:v=.slice none 0 0:=hc
   subst cO
   refine⟨.list sz none 0 [],by simp[PC.dG],rfl,⟨⟨?_,?_,sz,none,0,[],rfl,ed.1,(fun b o h=>by cases h),?_⟩,.nil _ _ _ ed.1,rfl⟩,rfl⟩
   ·refine .list _ _ _ _ ?_ ?_ ?_
    ·rintro k j c ⟨e,he,_⟩;simp at he
    ·rintro b o k j c _ ⟨e,he,_⟩;simp at he
    ·rintro k j c k' j' c' b ⟨e,he,_⟩;simp at he
   ·intro b hb
    rw[aT.ko] at hb
    rcases hb with⟨hb,_⟩|⟨k,j,c,⟨e,he,_⟩,_⟩
    ·exact absurd rfl hb
    ·simp at he
   ·cases md with
    |aO=>exact absurd rfl ed.2
    |ab=>rfl
    |live=>rfl
  ·cases hx
 ·rename_i n sz lo len
  split at hx
  ·rename_i gr m rs xs hn
   split at hx
   ·rename_i cF
    obtain⟨hm,sR,rfl,rfl,rfl,jl⟩:=cF
    injection hx with hx
    injection hx with h1 h2
    subst h1 h2
    have bJ:h n≠none:=by rw[hn];simp
    have hs:jg (G.g n) rs 0 xs.length v:=hc bJ
    have hr:=H.row n gr m rs xs hn
    have rB:(∀b,aX b (G.g n).px->dD w b)/\ig (G.g n).px/\(∀b,aX b (G.g n).px->(G.g n).nl=false->b≠(G.g n).b):=by
     have dg:=hr.mode
     cases m with
     |aO=>exact absurd rfl hm
     |ab=>exact⟨fun b hb=>(dg.1 b hb).2.1,dg.2,fun b hb hl dI=>(H.own n bJ hl).1 (dI▸(dg.1 b hb).1)⟩
     |live=>exact⟨fun b hb=>(dg.1 b hb).2.1,dg.2,fun b hb hl=>H.live n gr rs xs hn b hb n bJ hl⟩
    obtain⟨o1,o2,o3⟩:=rB
    have uE:∀b o,(if(G.g n).nl=true then(G.g n).na else some (ad (G.g n).b (G.g n).o))=some (ad b o)->¬aX b (G.g n).px:=by
     intro b o eR hF
     cases hq:(G.g n).nl with
     |true=>rw[(hr.nl hq).1] at hF;obtain⟨k,j,c,⟨e,he,_⟩,_⟩:=hF;simp at he
     |false=>
      rw[hq] at eR
      simp at eR
      exact o3 b hF hq (mX eR).1.symm
    refine⟨nw rs (G.g n),ace hr,ao3 hr hs,⟨⟨.list _ _ _ _ o2.1 (fun b o k j c eR hk hb=>uE b o eR ⟨k,j,c,hk,hb⟩) o2.2,fun b hb=>?_,rs,_,_,_,rfl,hr.pos,uE,by rw[<-hr.er];exact jl⟩,ao2 hr,
     gr,m,rs,xs,hn,hm,sR,rfl,jl⟩,rfl⟩
    rcases SA (fun hq=>(hr.nl hq).1) hb with⟨hl,rfl⟩|hF
    ·exact(hr.dT hl).1
    ·exact o1 b hF
   ·cases hx
  ·cases hx
 ·rename_i n k aD off sz len
  split at hx
  ·rename_i gr rs xs hn
   split at hx
   ·rename_i cF
    obtain⟨rfl,rfl⟩:=cF
    split at hx
    ·rename_i s ys rF
     split at hx
     ·rename_i jl
      injection hx with hx
      injection hx with h1 h2
      subst h1 h2
      obtain⟨pc,p1,p2,p3⟩:=hc gr xs hn
      have hr:=H.row n gr .live rs xs hn
      have aR:(G.g n).nl=false:=by
       cases hq:(G.g n).nl with
       |false=>rfl
       |true=>obtain⟨e,he,_⟩:=p1;rw[(hr.nl hq).1] at he;simp at he
      have gH:Good w pc:=(hr.dT aR).2.1.2.2 _ _ _ p1
      have ur:pc.er=.list s ys:=by
       obtain⟨e,he,hj⟩:=p1
       rw[hr.er] at rF
       simp[he,hj] at rF
       exact rF
      have kf:=hr.mode.2.1 _ _ _ p1
      cases pc with
      |int k n=>cases p3
      |bool b=>cases p3
      |list s' a' sA px'=>
       rw[PC.dG] at ur
       injection ur with g1 g2
       subst g1
       have iW:fQ (px'.map fun e=>e.map PC.er)=true:=by rw[g2];exact jl
       refine⟨_,by rw[PC.dG,g2],p2,⟨⟨kf,fun b hb=>(hr.mode.1 b ⟨k,off,_,p1,hb⟩).2.1,s',a',sA,px',rfl,?_,fun b o _ hF=>?_,iW⟩,gH,gr,rs,xs,hn,rfl,p1⟩,rfl⟩
       ·cases gH with
        |nil _ _ _ h=>exact h
        |cons _ _ _ _ _ _ _ h=>exact h
       ·obtain⟨kk,jj,c,⟨e,he,hj⟩,hc⟩:=hF
        have h6:=List.all_eq_true.1 iW (e.map PC.er) (by simp only[List.mem_map];exact⟨e,List.mem_of_getElem? he,rfl⟩)
        have h7:=List.all_eq_true.1 h6 c.er (by simp only[List.mem_map];exact⟨c,List.mem_of_getElem? hj,rfl⟩)
        exact(Sep.kP h7).2 b hc
     ·cases hx
    ·cases hx
   ·cases hx
  ·cases hx
 ·cases hx
theorem HR.WB (H:HR B E w G h used []) {c:ah} {x:C} {v:Value} (hx:Am.bU h c=some x) (hc:RC w G h c v):
  ∃pc:PC,pc.er=x/\pc.val=v/\Good w pc/\∀b,aT b pc->G.Im b\/∃n gr m sz xs,c.dB=some n/\h n=some (.row gr m sz xs)/\rp G n b:=by
 cases c with
 |c y=>
  simp only[Am.bU] at hx
  injection hx with hx
  subst hx
  obtain⟨pc,h1,h2,h3,h4⟩:=hc
  exact⟨pc,h1,h2,h3,fun b hb=>.inl (h4 b hb)⟩
 |nil sz=>
  simp only[Am.bU] at hx
  split at hx
  ·rename_i ed
   injection hx with hx
   subst hx
   have cO:v=.slice none 0 0:=hc
   subst cO
   refine⟨.list sz none 0 [],by simp[PC.dG],rfl,.nil _ _ _ ed,fun b hb=>?_⟩
   rw[aT.ko] at hb
   rcases hb with⟨hb,_⟩|⟨k,j,c,⟨e,he,_⟩,_⟩
   ·exact absurd rfl hb
   ·simp at he
  ·cases hx
 |sl n sz lo len=>
  simp only[Am.bU] at hx
  split at hx
  ·rename_i gr m rs xs hn
   split at hx
   ·rename_i cF
    obtain⟨rfl,hl⟩:=cF
    injection hx with hx
    subst hx
    have hs:jg (G.g n) rs lo len v:=hc (by rw[hn];simp)
    obtain⟨a1,a2,a3,a4⟩:=Fc (H.row n gr m rs xs hn) hs hl
    exact⟨_,a1,a2,a3,fun b hb=>.inr ⟨n,gr,m,rs,xs,rfl,hn,a4 b hb⟩⟩
   ·cases hx
  ·cases hx
 |bx n k aD off sz len=>
  simp only[Am.bU] at hx
  split at hx
  ·rename_i gr rs xs hn
   split at hx
   ·rename_i cF
    subst cF
    obtain⟨pc,p1,p2,p3⟩:=hc gr xs hn
    have hr:=H.row n gr .live rs xs hn
    have aR:(G.g n).nl=false:=by
     cases hq:(G.g n).nl with
     |false=>rfl
     |true=>obtain⟨e,he,_⟩:=p1;rw[(hr.nl hq).1] at he;simp at he
    refine⟨pc,?_,p2,(hr.dT aR).2.1.2.2 _ _ _ p1,fun b hb=>.inr ⟨n,gr,.live,rs,xs,rfl,hn,.inr ⟨k,off,pc,p1,hb⟩⟩⟩
    obtain⟨e,he,hj⟩:=p1
    rw[hr.er] at hx
    simp[he,hj] at hx
    exact hx
   ·cases hx
  ·cases hx
 |ptr _ _ _ _=>simp[Am.bU] at hx
 |cj _ _=>simp[Am.bU] at hx
 |fn _ _=>simp[Am.bU] at hx
 |cN _ _ _ _ _ _=>simp[Am.bU] at hx
 |bn=>simp[Am.bU] at hx
theorem aab {ns:List Nat} {n:Nat} {b:aq} (hx:dJ h ns n=some b):h n=some b/\n∉ns:=by
 unfold dJ at hx
 split at hx
 ·cases hx
 ·rename_i hc
  exact⟨hx,fun hm=>hc (by simpa using hm)⟩
theorem adX {ns:List Nat} {c:ah} {x:C} (hx:bU (dJ h ns) c=some x):bU h c=some x/\∀n,c.dB=some n->n∉ns:=by
 cases c with
 |c y=>exact⟨hx,by intro n hn;cases hn⟩
 |nil sz=>exact⟨hx,by intro n hn;cases hn⟩
 |sl n sz lo len=>
  simp only[Am.bU] at hx
  split at hx
  ·rename_i gr m rs xs hn
   obtain⟨h1,h2⟩:=aab hn
   exact⟨by simp only[Am.bU,h1];exact hx,by intro q hq;injection hq with hq;subst hq;exact h2⟩
  ·cases hx
 |bx n k aD off sz len=>
  simp only[Am.bU] at hx
  split at hx
  ·rename_i gr rs xs hn
   obtain⟨h1,h2⟩:=aab hn
   exact⟨by simp only[Am.bU,h1];exact hx,by intro q hq;injection hq with hq;subst hq;exact h2⟩
  ·cases hx
 |ptr _ _ _ _=>simp[Am.bU] at hx
 |cj _ _=>simp[Am.bU] at hx
 |fn _ _=>simp[Am.bU] at hx
 |cN _ _ _ _ _ _=>simp[Am.bU] at hx
 |bn=>simp[Am.bU] at hx
def KW (G:Gh) (h:Nat->Option aq) (ns:List Nat) (pc:PC):Prop:=
 ∀b,aT b pc->G.Im b\/∃n gr m sz xs,n∉ns/\h n=some (.row gr m sz xs)/\rp G n b
structure lZ (B:Nat) (E:Ex) (w:World) (G:Gh) (h:Nat->Option aq) (its:List (cI×Mode)) (fl:List (Mode×PC)):Prop where
 len:its.length=fl.length
 at_:∀(i:Nat) (it:cI×Mode) (x:Mode×PC),its[i]? =some it->fl[i]? =some x->it.2=x.1/\sn B E w G h it.1 x.1 x.2
theorem lZ.nil:lZ B E w G h [] []:=⟨rfl,by intro i it x h;simp at h⟩
theorem lZ.cons {it:cI×Mode} {its:List (cI×Mode)} {x:Mode×PC} {fl:List (Mode×PC)} (h1:it.2=x.1) (h2:sn B E w G h it.1 x.1 x.2) (h3:lZ B E w G h its fl):lZ B E w G h (it::its) (x::fl):=by
 refine⟨by simp[h3.len],fun i yS x' hi hx=>?_⟩
 cases i with
 |zero=>simp at hi hx;subst hi;subst hx;exact⟨h1,h2⟩
 |succ i=>exact h3.at_ i yS x' (by simpa using hi) (by simpa using hx)
theorem lZ.append {its uS:List (cI×Mode)} {fl YX:List (Mode×PC)} (h1:lZ B E w G h its fl) (h2:lZ B E w G h uS YX):lZ B E w G h (its++uS) (fl++YX):=by
 refine⟨by simp[h1.len,h2.len],fun i it x hi hx=>?_⟩
 by_cases bB:i<its.length
 ·rw[List.getElem?_append_left bB] at hi
  rw[List.getElem?_append_left (by rw[<-h1.len];exact bB)] at hx
  exact h1.at_ i it x hi hx
 ·rw[List.getElem?_append_right (by omega)] at hi
  rw[List.getElem?_append_right (by rw[<-h1.len];omega)] at hx
  rw[h1.len] at hi
  exact h2.at_ _ it x hi hx
theorem HR.jA (H:HR B E w G h used []) {ns:List Nat}:∀{fs:List (Option Mode)} {cs:List ah} {xs:List C} {its:List (cI×Mode)} {vs:List Value},Am.jA h (dJ h ns) fs cs=some (xs,its)->cJ w G h cs vs->
  ∃ps:List PC,ps.map PC.er=xs/\ps.map PC.val=vs/\(∀pc∈ps,Good w pc)/\lZ B E w G h its (eu fs ps)/\its.filterMap (·.1.dB)=mQ fs cs/\∀pc∈nB fs ps,KW G h ns pc
 |[],cs,xs,its,vs,hx,hc=>by
  simp only[Am.jA] at hx
  split at hx
  ·rename_i ys hy
   injection hx with hx
   injection hx with h1 h2
   subst h1 h2
   have cV:∀(cs:List ah) (xs:List C) (vs:List Value),Am.gB (dJ h ns) cs=some xs->cJ w G h cs vs->∃ps:List PC,ps.map PC.er=xs/\ps.map PC.val=vs/\(∀pc∈ps,Good w pc)/\∀pc∈ps,KW G h ns pc:=by
    intro cs
    induction cs with
    |nil=>
     intro xs vs hx hc
     simp only[Am.gB] at hx
     injection hx with hx
     subst hx
     have:vs=[]:=List.eq_nil_of_length_eq_zero (by simpa using hc.1)
     subst this
     exact⟨[],rfl,rfl,by simp,by simp⟩
    |cons c cs ih=>
     intro xs vs hx hc
     simp only[Am.gB] at hx
     split at hx
     ·rename_i x ar e1 e2
      injection hx with hx
      subst hx
      obtain⟨hlen,cg⟩:=hc
      match vs,hlen with
      |v::vs,hlen=>
       obtain⟨v1,v2⟩:=adX e1
       obtain⟨pc,a1,a2,a3,a4⟩:=H.WB v1 (cg 0 c v rfl rfl).2
       obtain⟨ps,b1,b2,b3,b4⟩:=ih ar vs e2 ⟨by simpa using hlen,fun j c u h1 h2=>cg (j+1) c u h1 h2⟩
       refine⟨pc::ps,by simp[a1,b1],by simp[a2,b2],fun q hq=>?_,fun q hq=>?_⟩
       ·cases hq with
        |head=>exact a3
        |tail _ hq=>exact b3 q hq
       ·cases hq with
        |head=>exact fun b hb=>(a4 b hb).imp id fun⟨n,gr,m,sz,xs,hn,h1,h2⟩=>⟨n,gr,m,sz,xs,v2 n hn,h1,h2⟩
        |tail _ hq=>exact b4 q hq
     ·cases hx
   obtain⟨ps,b1,b2,b3,b4⟩:=cV cs ys vs hy hc
   exact⟨ps,b1,b2,b3,by simpa[eu] using lZ.nil,by simp[mQ],by simpa[nB] using b4⟩
  ·cases hx
 |f::fs,[],xs,its,vs,hx,hc=>by cases f<;>simp[Am.jA] at hx
 |none::fs,c::cs,xs,its,vs,hx,hc=>by
  simp only[Am.jA] at hx
  split at hx
  ·rename_i x ar uS e1 e2
   injection hx with hx
   injection hx with h1 h2
   subst h1 h2
   obtain⟨hlen,cg⟩:=hc
   match vs,hlen with
   |v::vs,hlen=>
    obtain⟨v1,v2⟩:=adX e1
    obtain⟨pc,a1,a2,a3,a4⟩:=H.WB v1 (cg 0 c v rfl rfl).2
    obtain⟨ps,b1,b2,b3,b4,b5,b6⟩:=H.jA e2 (vs:=vs) ⟨by simpa using hlen,fun j c u h1 h2=>cg (j+1) c u h1 h2⟩
    refine⟨pc::ps,by simp[a1,b1],by simp[a2,b2],fun q hq=>?_,by simpa[eu] using b4,by simpa[mQ] using b5,fun q hq=>?_⟩
    ·cases hq with
     |head=>exact a3
     |tail _ hq=>exact b3 q hq
    ·simp only[nB] at hq
     cases hq with
     |head=>exact fun b hb=>(a4 b hb).imp id fun⟨n,gr,m,sz,xs,hn,h1,h2⟩=>⟨n,gr,m,sz,xs,v2 n hn,h1,h2⟩
     |tail _ hq=>exact b6 q hq
  ·cases hx
 |some md::fs,c::cs,xs,its,vs,hx,hc=>by
  simp only[Am.jA] at hx
  split at hx
  ·rename_i it x ar uS e1 e2
   injection hx with hx
   injection hx with h1 h2
   subst h1 h2
   obtain⟨hlen,cg⟩:=hc
   match vs,hlen with
   |v::vs,hlen=>
    obtain⟨pc,a1,a2,a3,a4⟩:=H.item e1 (cg 0 c v rfl rfl).2
    obtain⟨ps,b1,b2,b3,b4,b5,b6⟩:=H.jA e2 (vs:=vs) ⟨by simpa using hlen,fun j c u h1 h2=>cg (j+1) c u h1 h2⟩
    refine⟨pc::ps,by simp[a1,b1],by simp[a2,b2],fun q hq=>?_,?_,?_,fun q hq=>b6 q (by simpa[nB] using hq)⟩
    ·cases hq with
     |head=>exact a3.dH
     |tail _ hq=>exact b3 q hq
    ·simp only[eu]
     exact lZ.cons rfl a3 b4
    ·simp only[mQ,<-a4,<-b5]
     cases fT:it.dB with
     |none=>simp[fT]
     |some n=>simp[fT]
  ·cases hx
theorem HR.kO (H:HR B E w G h used []) {ns:List Nat}:∀{as:List (Bool×List ah)} {sig:aN} {ds:List Dv} {its:List (cI×Mode)} {vals:List Value},Am.kO h (dJ h ns) sig as=some (ds,its)->vals.length=as.length->
  (∀(j:Nat) (x:Bool×List ah) (v:Value),as[j]? =some x->vals[j]? =some v->RV w G h x.1 x.2 v)->
  ∃pas:List PA,pas.length=ds.length/\vals.length=ds.length/\(∀(i:Nat) (d:Dv) (v:Value) (p:PA),ds[i]? =some d->vals[i]? =some v->pas[i]? =some p->zB w d v p)/\(∀p∈pas,p.k≠ .ptr)/\
   lZ B E w G h its (eB sig (pas.map (·.ps)))/\its.filterMap (·.1.dB)=jW sig as/\∀pc∈pE sig (pas.map (·.ps)),KW G h ns pc
 |[],sig,ds,its,vals,hx,hl,hc=>by
  simp only[Am.kO] at hx
  injection hx with hx
  injection hx with h1 h2
  subst h1 h2
  refine⟨[],rfl,by simpa using hl,by simp,by simp,?_,?_,?_⟩
  ·cases sig<;>exact lZ.nil
  ·cases sig<;>rfl
  ·cases sig<;>simp[pE]
 |(ag,cs)::as,sig,ds,its,vals,hx,hl,hc=>by
  simp only[Am.kO] at hx
  split at hx
  ·rename_i xs aaA tW aaB e1 e2
   injection hx with hx
   injection hx with h1 h2
   subst h1 h2
   match vals,hl with
   |v::vals,hl=>
    have h0:=hc 0 (ag,cs) v rfl rfl
    obtain⟨q1,q2,q3,q4,q5,q6,q7⟩:=H.kO e2 (as:=as) (vals:=vals) (by simpa using hl) (fun j x v h1 h2=>hc (j+1) x v h1 h2)
    obtain⟨vs,iE,hR⟩:∃vs:List Value,(if ag=true then v=.agg vs.toArray else vs=[v])/\cJ w G h cs vs:=by
     unfold RV at h0
     split at h0
     ·rename_i bq
      obtain⟨vs,e,hR⟩:=h0
      exact⟨vs,by rw[if_pos bq];exact e,hR⟩
     ·rename_i bq
      exact⟨[v],by rw[if_neg bq],h0⟩
    obtain⟨ps,p1,p2,p3,p4,p5,p6⟩:=H.jA e1 hR
    refine⟨⟨if ag=true then .agg else .one,ps,0,0⟩::q1,by simp[q2],by simp[q3],fun i d v' p hd hv hp=>?_,fun p hp=>?_,?_,?_,?_⟩
    ·cases i with
     |zero=>
      simp at hd hv hp
      subst hd hv hp
      cases ag with
      |true=>
       simp only[if_true] at iE⊢
       exact⟨by rw[p1],p3,by simp only[p2];exact iE⟩
      |false=>
       simp only[if_false,Bool.false_eq_true] at iE⊢
       exact⟨by rw[p1],p3,by simp only[p2];exact iE⟩
     |succ i=>exact q4 i d v' p (by simpa using hd) (by simpa using hv) (by simpa using hp)
    ·cases hp with
     |head=>cases ag<;>simp
     |tail _ hp=>exact q5 p hp
    ·cases sig with
     |nil=>
      have e3:eu (aN.hd ([]:aN)) ps=[]:=rfl
      rw[e3] at p4
      have e4:aaA=[]:=List.eq_nil_of_length_eq_zero p4.len
      subst e4
      have e5:eB (aN.tl ([]:aN)) (q1.map (·.ps))=[]:=rfl
      rw[e5] at q6
      have e6:aaB=[]:=List.eq_nil_of_length_eq_zero q6.len
      subst e6
      exact lZ.nil
     |cons s sig=>exact lZ.append p4 q6
    ·cases sig with
     |nil=>
      have e3:eu (aN.hd ([]:aN)) ps=[]:=rfl
      rw[e3] at p4
      have e4:aaA=[]:=List.eq_nil_of_length_eq_zero p4.len
      subst e4
      have e5:eB (aN.tl ([]:aN)) (q1.map (·.ps))=[]:=rfl
      rw[e5] at q6
      have e6:aaB=[]:=List.eq_nil_of_length_eq_zero q6.len
      subst e6
      rfl
     |cons s sig=>
      rw[List.filterMap_append,p5,q7.1]
      rfl
    ·intro pc aY
     cases sig with
     |nil=>
      simp only[List.map_cons,pE,List.flatten_cons,List.mem_append] at aY
      rcases aY with aY|aY
      ·exact p6 pc aY
      ·exact q7.2 pc (by simpa[pE,aN.tl] using aY)
     |cons s sig=>
      simp only[List.map_cons,pE,List.mem_append] at aY
      rcases aY with aY|aY
      ·exact p6 pc aY
      ·exact q7.2 pc aY
  ·cases hx
end
end Go.Am
