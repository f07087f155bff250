/- AmM: functions that change lists of their arguments: what is said of them, and the caller's side of a call. No condition. -/
import Derived.Test.YtifmggmhdcdgbaaAm16
set_option linter.unusedVariables false
namespace Go.Am
def dE {α:Type}:List (Option Mode)->List α->List (Mode×α)
 |some m::fs,x::xs=>(m,x)::dE fs xs
 |none::fs,_::xs=>dE fs xs
 |_,_=>[]
def mZ {α:Type}:List (Option Mode)->List α->List α
 |some _::fs,_::xs=>mZ fs xs
 |none::fs,x::xs=>x::mZ fs xs
 |[],xs=>xs
 |_,[]=>[]
def dW {α:Type}:aY->List (List α)->List (Mode×α)
 |s::sig,xs::ry=>dE s xs++dW sig ry
 |_,_=>[]
def o7 {α:Type}:aY->List (List α)->List α
 |s::sig,xs::ry=>mZ s xs++o7 sig ry
 |[],ry=>ry.flatten
 |_,[]=>[]
theorem HG {α β:Type} (f:α->β):∀(s:List (Option Mode)) (xs:List α),dE s (xs.map f)=(dE s xs).map fun x=>(x.1,f x.2)
 |some m::fs,x::xs=>by simp only[List.map_cons,dE,HG f fs xs]
 |none::fs,x::xs=>by simp only[List.map_cons,dE,HG f fs xs]
 |[],_=>by simp[dE]
 |some m::fs,[]=>rfl
 |none::fs,[]=>rfl
theorem HE {α β:Type} (f:α->β):∀(s:aY) (xs:List (List α)),dW s (xs.map fun l=>l.map f)=(dW s xs).map fun x=>(x.1,f x.2)
 |s::sig,xs::ry=>by simp only[List.map_cons,dW,List.map_append,HG f s xs,HE f sig ry]
 |[],_=>by simp[dW]
 |s::sig,[]=>rfl
structure xn (w:World) (m:Mode) (pc:PC):Prop where
 sep:Sep pc
 un:∀b,aN b pc->da w b
 dq:∃sz a cap xs,pc=.list sz a cap xs/\0<sz/\(∀b o,a=some (ad b o)->¬aR b xs)/\rQ m (xs.map fun e=>e.map PC.er)=true
structure PA where
 k:K
 ps:List PC
 b:Nat
 o:Nat
def zf (w:World) (d:Dv) (v:Value) (p:PA):Prop:=
 d=(p.k,p.ps.map PC.er)/\(∀pc∈p.ps,Good w pc)/\
 match p.k with
 |.one=>p.ps.map PC.val=[v]
 |.agg=>v=.agg (p.ps.map PC.val).toArray
 |.ptr=>v=.pointer (some (ad p.b p.o))/\p.b<w.heap.size/\∀j c,p.ps[j]? =some c->w.cell? (ad p.b (p.o+j))=some c.val
structure Lr (w:World) (sig:aY) (ds:List Dv) (vals:List Value) (pas:List PA):Prop where
 l1:vals.length=ds.length
 l2:pas.length=ds.length
 at_:∀(i:Nat) (d:Dv) (v:Value) (p:PA),ds[i]? =some d->vals[i]? =some v->pas[i]? =some p->zf w d v p
 ok:∀x∈dW sig (pas.map (·.ps)),xn w x.1 x.2
 mz:(dW sig (pas.map (·.ps))).Pairwise fun x y=>∀b,aN b x.2->¬aN b y.2
 free:∀pc∈o7 sig (pas.map (·.ps)),∀x∈dW sig (pas.map (·.ps)),∀b,aN b pc->¬aN b x.2
 ptr:∀p∈pas,p.k=.ptr->∀x∈dW sig (pas.map (·.ps)),¬aN p.b x.2
 alI:∀(i:Nat) (p:PA) (s:List (Option Mode)),pas[i]? =some p->sig[i]? =some s->p.k=.ptr->s=[]
def Mi (fl:List (Mode×PC)):Ex:=⟨fun b=>∃x∈fl,aN b x.2,fun _=>none,fun _ _ h=>(by cases h),fun _=>True⟩
structure u5 (w:World) (m:Mode) (pc cR:PC):Prop where
 val:cR.val=pc.val
 dF:Good w cR
 sep:Sep cR
 sub:∀b,aN b cR->aN b pc
 flat:rQ m (match cR.er with|.list _ xs=>xs|_=>[])=true
 live:∀sz a cap xs aK a' rJ au,pc=.list sz a cap xs->cR=.list aK a' rJ au->aK=sz/\a'=a/\rJ=cap/\au.length=xs.length/\
  (m=.live->∀k j c,At xs k j c->c.fV=true->∃c',At au k j c'/\c'.val=c.val/\c'.fV=true)
def n4 (P:Program) (f:FuncId) (sig:aY) (M:List Dv->Option (List Dv×List C)):Prop:=
 ∀ds rs dZ,M ds=some (rs,dZ)->∀(w:World) (vals:List Value) (pas:List PA),Lr w sig ds vals pas->Calls P f vals.toArray w fun e w'=>
  ∃aO:List (K×List PC),aO.map (fun p=>(p.1,p.2.map PC.er))=rs/\e=.returned (wK aO)/\(∀p∈aO,p.1≠ .ptr/\(p.1=.one->p.2.length=1))/\
   Cl w' w.heap.size (aO.flatMap (·.2))/\Fr w.heap.size (Mi (dW sig (pas.map (·.ps)))) w w'/\
   ∃qs:List PC,qs.map PC.er=dZ/\qs.length=(dW sig (pas.map (·.ps))).length/\
    ∀(i:Nat) (x:Mode×PC) (q:PC),(dW sig (pas.map (·.ps)))[i]? =some x->qs[i]? =some q->u5 w' x.1 x.2 q
section
variable {B:Nat} {E:Ex} {w0 w w':World} {G G':Gh} {N:Nat} {h h':Nat->Option ar} {used:Nat->Bool}
variable {P:Program} {o:Oper} {a:Act} {σ σ':St} {Q:Exit->Act->World->Prop}
def oU (sz:Nat) (p:PB):PC:=.list sz (if p.nl=true then p.na else some (ad p.b p.o)) p.cap p.px
theorem amX {gr:Bool} {m:Mode} {sz:Nat} {xs:List (List C)} {p:PB} (hr:tj B E w G gr m sz xs p):(oU sz p).er=.list sz xs:=by
 rw[oU,PC.df,hr.er]
theorem amZ {gr:Bool} {m:Mode} {sz:Nat} {xs:List (List C)} {p:PB} (hr:tj B E w G gr m sz xs p) {v:Value} (hv:jc p sz 0 xs.length v):(oU sz p).val=v:=by
 have e8:p.px.length=xs.length:=by rw[hr.er];simp
 rcases hv with⟨hn,rfl,_,hl⟩|⟨hn,a,rfl,hc,ha⟩
 ·simp[oU,PC.val,hn,e8,hl]
 ·have:=ha (.inr rfl)
  subst this
  simp[oU,PC.val,hn,e8]
theorem amY {gr:Bool} {m:Mode} {sz:Nat} {xs:List (List C)} {p:PB} (hr:tj B E w G gr m sz xs p):Good w (oU sz p):=by
 unfold oU
 by_cases h0:p.px=[]
 ·rw[h0];exact .nil _ _ _ hr.pos
 ·have aL:p.nl=false:=by
   cases hq:p.nl with
   |false=>rfl
   |true=>exact absurd (hr.nl hq).1 h0
  obtain⟨a1,a2,a3⟩:=hr.dq aL
  rw[if_neg (by simp[aL])]
  exact .cons _ _ _ _ _ h0 a3 hr.pos a2.1 a2.2.1 a2.2.2
theorem Rm {sz:Nat} {p:PB} {b:Nat} (hn:p.nl=true->p.px=[]) (h:aN b (oU sz p)):(p.nl=false/\b=p.b)\/aR b p.px:=by
 unfold oU at h
 rw[aN.jP] at h
 rcases h with⟨h0,o,ho⟩|⟨k,j,c,hk,hb⟩
 ·cases hq:p.nl with
  |true=>exact absurd (hn hq) h0
  |false=>
   rw[hq] at ho
   simp at ho
   exact .inl ⟨rfl,(nc ho).1.symm⟩
 ·exact .inr ⟨k,j,c,hk,hb⟩
def rS (G:Gh) (n b:Nat):Prop:=((G.g n).nl=false/\b=(G.g n).b)\/aR b (G.g n).px
structure rE (B:Nat) (E:Ex) (w:World) (G:Gh) (h:Nat->Option ar) (it:cQ) (md:Mode) (pc:PC):Prop where
 ok:xn w md pc
 dF:Good w pc
 at_:match it with
  |.nil sz=>pc=.list sz none 0 []
  |.row n=>∃gr m sz xs,h n=some (.row gr m sz xs)/\m≠ .aE/\(md=.live->m=.live)/\pc=oU sz (G.g n)/\rQ md xs=true
  |.nest n k off=>∃gr sz xs,h n=some (.row gr .live sz xs)/\md=.aa/\At (G.g n).px k off pc
theorem rE.np {it:cQ} {md:Mode} {pc:PC} (H:HR B E w G h used []) (i:rE B E w G h it md pc) {b:Nat} (hb:aN b pc):
  ∃n gr m sz xs,it.dr=some n/\h n=some (.row gr m sz xs)/\m≠ .aE/\rS G n b/\((∀b,¬aR b (G.g n).px)\/m=.live):=by
 have ha:=i.at_
 cases it with
 |nil sz=>
  have ha:pc=.list sz none 0 []:=ha
  subst ha
  rw[aN.jP] at hb
  rcases hb with⟨hb,_⟩|⟨k,j,c,⟨e,he,_⟩,_⟩
  ·exact absurd rfl hb
  ·simp at he
 |row n=>
  obtain⟨gr,m,sz,xs,h1,h2,h3,rfl,h5⟩:=ha
  have hr:=H.row n gr m sz xs h1
  refine⟨n,gr,m,sz,xs,rfl,h1,h2,Rm (fun hq=>(hr.nl hq).1) hb,?_⟩
  cases md with
  |live=>exact .inr (h3 rfl)
  |aE=>cases h5
  |aa=>
   left
   intro b' aU
   have HP:ft xs=true:=h5
   rw[hr.er] at HP
   obtain⟨k,j,c,⟨e,he,hj⟩,hc⟩:=aU
   have h6:=List.all_eq_true.1 HP (e.map PC.er) (by simp only[List.mem_map];exact⟨e,List.mem_of_getElem? he,rfl⟩)
   have h7:=List.all_eq_true.1 h6 c.er (by simp only[List.mem_map];exact⟨c,List.mem_of_getElem? hj,rfl⟩)
   exact(Sep.kx h7).2 b' hc
 |nest n k off=>
  obtain⟨gr,sz,xs,h1,h2,h3⟩:=ha
  exact⟨n,gr,.live,sz,xs,rfl,h1,by simp,.inr ⟨k,off,pc,h3,hb⟩,.inr rfl⟩
theorem HR.HJ (H:HR B E w G h used []) {n n':Nat} (aA:n≠n') {gr bf:Bool} {m m':Mode} {sz aK:Nat} {xs au:List (List C)} (h1:h n=some (.row gr m sz xs)) (h2:h n'=some (.row bf m' aK au))
  (bz:(∀b,¬aR b (G.g n').px)\/m'=.live) {b:Nat} (hb:rS G n b):¬rS G n' b:=by
 have e1:h n≠none:=by rw[h1];simp
 have e2:h n'≠none:=by rw[h2];simp
 have own:∀{p q:Nat} {gr:Bool} {m:Mode} {sz:Nat} {xs:List (List C)},h p≠none->h q=some (.row gr m sz xs)->(G.g p).nl=false->¬aR (G.g p).b (G.g q).px:=by
  intro p q gr m sz xs hp hq hl hF
  have gf:=(H.row q gr m sz xs hq).mode
  cases m with
  |aE=>exact(H.own p hp hl).1 (gf _ hF)
  |aa=>exact(H.own p hp hl).1 (gf.1 _ hF).1
  |live=>exact H.live q gr sz xs hq _ hF p hp hl rfl
 rintro(⟨l2,rfl⟩|b2)
 ·rcases hb with⟨l1,b1⟩|b1
  ·exact H.inj n n' e1 e2 aA l1 l2 b1.symm
  ·exact own e2 h1 l2 b1
 ·rcases hb with⟨l1,rfl⟩|b1
  ·exact own e1 h2 l1 b2
  ·rcases bz with bz|rfl
   ·exact bz b b2
   ·have q2:=(H.row n' bf .live aK au h2).mode
    have q1:=(H.row n gr m sz xs h1).mode
    cases m with
    |aE=>exact(q2.1 b b2).1 (q1 b b1)
    |aa=>exact(q2.1 b b2).1 (q1.1 b b1).1
    |live=>exact H.e7 n n' gr .live sz xs bf .live aK au h1 h2 (by simp) (by simp) aA b b1 b2
theorem HR.item (H:HR B E w G h used []) {md:Mode} {c:ah} {it:cQ} {x:C} {v:Value} (hx:yF h md c=some (it,x)) (hc:RC w G h c v):
  ∃pc:PC,pc.er=x/\pc.val=v/\rE B E w G h it md pc/\it.dr=c.dr:=by
 unfold yF at hx
 split at hx
 ·rename_i sz
  split at hx
  ·rename_i d9
   injection hx with hx
   injection hx with h1 h2
   subst h1 h2
   have cz:v=.slice none 0 0:=hc
   subst cz
   refine⟨.list sz none 0 [],by simp[PC.df],rfl,⟨⟨?_,?_,sz,none,0,[],rfl,d9.1,(fun b o h=>by cases h),?_⟩,.nil _ _ _ d9.1,rfl⟩,rfl⟩
   ·refine .list _ _ _ _ ?_ ?_ ?_
    ·rintro k j c ⟨e,he,_⟩;simp at he
    ·rintro b o k j c _ ⟨e,he,_⟩;simp at he
    ·rintro k j c k' j' c' b ⟨e,he,_⟩;simp at he
   ·intro b hb
    rw[aN.jP] at hb
    rcases hb with⟨hb,_⟩|⟨k,j,c,⟨e,he,_⟩,_⟩
    ·exact absurd rfl hb
    ·simp at he
   ·cases md with
    |aE=>exact absurd rfl d9.2
    |aa=>rfl
    |live=>rfl
  ·cases hx
 ·rename_i n sz lo len
  split at hx
  ·rename_i gr m rs xs hn
   split at hx
   ·rename_i cd
    obtain⟨hm,rY,rfl,rfl,rfl,iM⟩:=cd
    injection hx with hx
    injection hx with h1 h2
    subst h1 h2
    have bF:h n≠none:=by rw[hn];simp
    have hs:jc (G.g n) rs 0 xs.length v:=hc bF
    have hr:=H.row n gr m rs xs hn
    have qP:(∀b,aR b (G.g n).px->da w b)/\gI (G.g n).px/\(∀b,aR b (G.g n).px->(G.g n).nl=false->b≠(G.g n).b):=by
     have cA:=hr.mode
     cases m with
     |aE=>exact absurd rfl hm
     |aa=>exact⟨fun b hb=>(cA.1 b hb).2.1,cA.2,fun b hb hl dh=>(H.own n bF hl).1 (dh▸(cA.1 b hb).1)⟩
     |live=>exact⟨fun b hb=>(cA.1 b hb).2.1,cA.2,fun b hb hl=>H.live n gr rs xs hn b hb n bF hl⟩
    obtain⟨o1,o2,o3⟩:=qP
    have Ao:∀b o,(if(G.g n).nl=true then(G.g n).na else some (ad (G.g n).b (G.g n).o))=some (ad b o)->¬aR b (G.g n).px:=by
     intro b o eK hF
     cases hq:(G.g n).nl with
     |true=>rw[(hr.nl hq).1] at hF;obtain⟨k,j,c,⟨e,he,_⟩,_⟩:=hF;simp at he
     |false=>
      rw[hq] at eK
      simp at eK
      exact o3 b hF hq (nc eK).1.symm
    refine⟨oU rs (G.g n),amX hr,amZ hr hs,⟨⟨.list _ _ _ _ o2.1 (fun b o k j c eK hk hb=>Ao b o eK ⟨k,j,c,hk,hb⟩) o2.2,fun b hb=>?_,rs,_,_,_,rfl,hr.pos,Ao,by rw[<-hr.er];exact iM⟩,amY hr,
     gr,m,rs,xs,hn,hm,rY,rfl,iM⟩,rfl⟩
    rcases Rm (fun hq=>(hr.nl hq).1) hb with⟨hl,rfl⟩|hF
    ·exact(hr.dq hl).1
    ·exact o1 b hF
   ·cases hx
  ·cases hx
 ·rename_i n k ax off sz len
  split at hx
  ·rename_i gr rs xs hn
   split at hx
   ·rename_i cd
    obtain⟨rfl,rfl⟩:=cd
    split at hx
    ·rename_i s ys qU
     split at hx
     ·rename_i iM
      injection hx with hx
      injection hx with h1 h2
      subst h1 h2
      obtain⟨pc,p1,p2,p3⟩:=hc gr xs hn
      have hr:=H.row n gr .live rs xs hn
      have aL:(G.g n).nl=false:=by
       cases hq:(G.g n).nl with
       |false=>rfl
       |true=>obtain⟨e,he,_⟩:=p1;rw[(hr.nl hq).1] at he;simp at he
      have gd:Good w pc:=(hr.dq aL).2.1.2.2 _ _ _ p1
      have tL:pc.er=.list s ys:=by
       obtain⟨e,he,hj⟩:=p1
       rw[hr.er] at qU
       simp[he,hj] at qU
       exact qU
      have jE:=hr.mode.2.1 _ _ _ p1
      cases pc with
      |int k n=>cases p3
      |bool b=>cases p3
      |list s' a' rJ px'=>
       rw[PC.df] at tL
       injection tL with g1 g2
       subst g1
       have iv:ft (px'.map fun e=>e.map PC.er)=true:=by rw[g2];exact iM
       refine⟨_,by rw[PC.df,g2],p2,⟨⟨jE,fun b hb=>(hr.mode.1 b ⟨k,off,_,p1,hb⟩).2.1,s',a',rJ,px',rfl,?_,fun b o _ hF=>?_,iv⟩,gd,gr,rs,xs,hn,rfl,p1⟩,rfl⟩
       ·cases gd with
        |nil _ _ _ h=>exact h
        |cons _ _ _ _ _ _ _ h=>exact h
       ·obtain⟨kk,jj,c,⟨e,he,hj⟩,hc⟩:=hF
        have h6:=List.all_eq_true.1 iv (e.map PC.er) (by simp only[List.mem_map];exact⟨e,List.mem_of_getElem? he,rfl⟩)
        have h7:=List.all_eq_true.1 h6 c.er (by simp only[List.mem_map];exact⟨c,List.mem_of_getElem? hj,rfl⟩)
        exact(Sep.kx h7).2 b hc
     ·cases hx
    ·cases hx
   ·cases hx
  ·cases hx
 ·cases hx
theorem HR.UB (H:HR B E w G h used []) {c:ah} {x:C} {v:Value} (hx:Am.bM h c=some x) (hc:RC w G h c v):
  ∃pc:PC,pc.er=x/\pc.val=v/\Good w pc/\∀b,aN b pc->G.Im b\/∃n gr m sz xs,c.dr=some n/\h n=some (.row gr m sz xs)/\rS G n b:=by
 cases c with
 |c y=>
  simp only[Am.bM] at hx
  injection hx with hx
  subst hx
  obtain⟨pc,h1,h2,h3,h4⟩:=hc
  exact⟨pc,h1,h2,h3,fun b hb=>.inl (h4 b hb)⟩
 |nil sz=>
  simp only[Am.bM] at hx
  split at hx
  ·rename_i d9
   injection hx with hx
   subst hx
   have cz:v=.slice none 0 0:=hc
   subst cz
   refine⟨.list sz none 0 [],by simp[PC.df],rfl,.nil _ _ _ d9,fun b hb=>?_⟩
   rw[aN.jP] at hb
   rcases hb with⟨hb,_⟩|⟨k,j,c,⟨e,he,_⟩,_⟩
   ·exact absurd rfl hb
   ·simp at he
  ·cases hx
 |sl n sz lo len=>
  simp only[Am.bM] at hx
  split at hx
  ·rename_i gr m rs xs hn
   split at hx
   ·rename_i cd
    obtain⟨rfl,hl⟩:=cd
    injection hx with hx
    subst hx
    have hs:jc (G.g n) rs lo len v:=hc (by rw[hn];simp)
    obtain⟨a1,a2,a3,a4⟩:=EM (H.row n gr m rs xs hn) hs hl
    exact⟨_,a1,a2,a3,fun b hb=>.inr ⟨n,gr,m,rs,xs,rfl,hn,a4 b hb⟩⟩
   ·cases hx
  ·cases hx
 |br n k ax off sz len=>
  simp only[Am.bM] at hx
  split at hx
  ·rename_i gr rs xs hn
   split at hx
   ·rename_i cd
    subst cd
    obtain⟨pc,p1,p2,p3⟩:=hc gr xs hn
    have hr:=H.row n gr .live rs xs hn
    have aL:(G.g n).nl=false:=by
     cases hq:(G.g n).nl with
     |false=>rfl
     |true=>obtain⟨e,he,_⟩:=p1;rw[(hr.nl hq).1] at he;simp at he
    refine⟨pc,?_,p2,(hr.dq aL).2.1.2.2 _ _ _ p1,fun b hb=>.inr ⟨n,gr,.live,rs,xs,rfl,hn,.inr ⟨k,off,pc,p1,hb⟩⟩⟩
    obtain⟨e,he,hj⟩:=p1
    rw[hr.er] at hx
    simp[he,hj] at hx
    exact hx
   ·cases hx
  ·cases hx
 |ptr _ _ _ _=>simp[Am.bM] at hx
 |bT _ _=>simp[Am.bM] at hx
 |fn _ _=>simp[Am.bM] at hx
 |cr _ _ _ _ _ _=>simp[Am.bM] at hx
 |bg=>simp[Am.bM] at hx
theorem XN {ns:List Nat} {n:Nat} {b:ar} (hx:ed h ns n=some b):h n=some b/\n∉ns:=by
 unfold ed at hx
 split at hx
 ·cases hx
 ·rename_i hc
  exact⟨hx,fun hm=>hc (by simpa using hm)⟩
theorem abZ {ns:List Nat} {c:ah} {x:C} (hx:bM (ed h ns) c=some x):bM h c=some x/\∀n,c.dr=some n->n∉ns:=by
 cases c with
 |c y=>exact⟨hx,by intro n hn;cases hn⟩
 |nil sz=>exact⟨hx,by intro n hn;cases hn⟩
 |sl n sz lo len=>
  simp only[Am.bM] at hx
  split at hx
  ·rename_i gr m rs xs hn
   obtain⟨h1,h2⟩:=XN hn
   exact⟨by simp only[Am.bM,h1];exact hx,by intro q hq;injection hq with hq;subst hq;exact h2⟩
  ·cases hx
 |br n k ax off sz len=>
  simp only[Am.bM] at hx
  split at hx
  ·rename_i gr rs xs hn
   obtain⟨h1,h2⟩:=XN hn
   exact⟨by simp only[Am.bM,h1];exact hx,by intro q hq;injection hq with hq;subst hq;exact h2⟩
  ·cases hx
 |ptr _ _ _ _=>simp[Am.bM] at hx
 |bT _ _=>simp[Am.bM] at hx
 |fn _ _=>simp[Am.bM] at hx
 |cr _ _ _ _ _ _=>simp[Am.bM] at hx
 |bg=>simp[Am.bM] at hx
def KP (G:Gh) (h:Nat->Option ar) (ns:List Nat) (pc:PC):Prop:=
 ∀b,aN b pc->G.Im b\/∃n gr m sz xs,n∉ns/\h n=some (.row gr m sz xs)/\rS G n b
structure lv (B:Nat) (E:Ex) (w:World) (G:Gh) (h:Nat->Option ar) (its:List (cQ×Mode)) (fl:List (Mode×PC)):Prop where
 len:its.length=fl.length
 at_:∀(i:Nat) (it:cQ×Mode) (x:Mode×PC),its[i]? =some it->fl[i]? =some x->it.2=x.1/\rE B E w G h it.1 x.1 x.2
theorem lv.nil:lv B E w G h [] []:=⟨rfl,by intro i it x h;simp at h⟩
theorem lv.cons {it:cQ×Mode} {its:List (cQ×Mode)} {x:Mode×PC} {fl:List (Mode×PC)} (h1:it.2=x.1) (h2:rE B E w G h it.1 x.1 x.2) (h3:lv B E w G h its fl):lv B E w G h (it::its) (x::fl):=by
 refine⟨by simp[h3.len],fun i yw x' hi hx=>?_⟩
 cases i with
 |zero=>simp at hi hx;subst hi;subst hx;exact⟨h1,h2⟩
 |succ i=>exact h3.at_ i yw x' (by simpa using hi) (by simpa using hx)
theorem lv.append {its ug:List (cQ×Mode)} {fl WB:List (Mode×PC)} (h1:lv B E w G h its fl) (h2:lv B E w G h ug WB):lv B E w G h (its++ug) (fl++WB):=by
 refine⟨by simp[h1.len,h2.len],fun i it x hi hx=>?_⟩
 by_cases bN:i<its.length
 ·rw[List.getElem?_append_left bN] at hi
  rw[List.getElem?_append_left (by rw[<-h1.len];exact bN)] at hx
  exact h1.at_ i it x hi hx
 ·rw[List.getElem?_append_right (by omega)] at hi
  rw[List.getElem?_append_right (by rw[<-h1.len];omega)] at hx
  rw[h1.len] at hi
  exact h2.at_ _ it x hi hx
theorem HR.lW (H:HR B E w G h used []) {ns:List Nat}:∀{fs:List (Option Mode)} {cs:List ah} {xs:List C} {its:List (cQ×Mode)} {vs:List Value},Am.lW h (ed h ns) fs cs=some (xs,its)->cj w G h cs vs->
  ∃ps:List PC,ps.map PC.er=xs/\ps.map PC.val=vs/\(∀pc∈ps,Good w pc)/\lv B E w G h its (dE fs ps)/\its.filterMap (·.1.dr)=sR fs cs/\∀pc∈mZ fs ps,KP G h ns pc
 |[],cs,xs,its,vs,hx,hc=>by
  simp only[Am.lW] at hx
  split at hx
  ·rename_i ys hy
   injection hx with hx
   injection hx with h1 h2
   subst h1 h2
   have cq:∀(cs:List ah) (xs:List C) (vs:List Value),Am.f7 (ed h ns) cs=some xs->cj w G h cs vs->∃ps:List PC,ps.map PC.er=xs/\ps.map PC.val=vs/\(∀pc∈ps,Good w pc)/\∀pc∈ps,KP G h ns pc:=by
    intro cs
    induction cs with
    |nil=>
     intro xs vs hx hc
     simp only[Am.f7] at hx
     injection hx with hx
     subst hx
     have:vs=[]:=List.eq_nil_of_length_eq_zero (by simpa using hc.1)
     subst this
     exact⟨[],rfl,rfl,by simp,by simp⟩
    |cons c cs ih=>
     intro xs vs hx hc
     simp only[Am.f7] at hx
     split at hx
     ·rename_i x au e1 e2
      injection hx with hx
      subst hx
      obtain⟨hlen,bZ⟩:=hc
      match vs,hlen with
      |v::vs,hlen=>
       obtain⟨v1,v2⟩:=abZ e1
       obtain⟨pc,a1,a2,a3,a4⟩:=H.UB v1 (bZ 0 c v rfl rfl).2
       obtain⟨ps,b1,b2,b3,b4⟩:=ih au vs e2 ⟨by simpa using hlen,fun j c u h1 h2=>bZ (j+1) c u h1 h2⟩
       refine⟨pc::ps,by simp[a1,b1],by simp[a2,b2],fun q hq=>?_,fun q hq=>?_⟩
       ·cases hq with
        |head=>exact a3
        |tail _ hq=>exact b3 q hq
       ·cases hq with
        |head=>exact fun b hb=>(a4 b hb).imp id fun⟨n,gr,m,sz,xs,hn,h1,h2⟩=>⟨n,gr,m,sz,xs,v2 n hn,h1,h2⟩
        |tail _ hq=>exact b4 q hq
     ·cases hx
   obtain⟨ps,b1,b2,b3,b4⟩:=cq cs ys vs hy hc
   exact⟨ps,b1,b2,b3,by simpa[dE] using lv.nil,by simp[sR],by simpa[mZ] using b4⟩
  ·cases hx
 |f::fs,[],xs,its,vs,hx,hc=>by cases f<;>simp[Am.lW] at hx
 |none::fs,c::cs,xs,its,vs,hx,hc=>by
  simp only[Am.lW] at hx
  split at hx
  ·rename_i x au ug e1 e2
   injection hx with hx
   injection hx with h1 h2
   subst h1 h2
   obtain⟨hlen,bZ⟩:=hc
   match vs,hlen with
   |v::vs,hlen=>
    obtain⟨v1,v2⟩:=abZ e1
    obtain⟨pc,a1,a2,a3,a4⟩:=H.UB v1 (bZ 0 c v rfl rfl).2
    obtain⟨ps,b1,b2,b3,b4,b5,b6⟩:=H.lW e2 (vs:=vs) ⟨by simpa using hlen,fun j c u h1 h2=>bZ (j+1) c u h1 h2⟩
    refine⟨pc::ps,by simp[a1,b1],by simp[a2,b2],fun q hq=>?_,by simpa[dE] using b4,by simpa[sR] using b5,fun q hq=>?_⟩
    ·cases hq with
     |head=>exact a3
     |tail _ hq=>exact b3 q hq
    ·simp only[mZ] at hq
     cases hq with
     |head=>exact fun b hb=>(a4 b hb).imp id fun⟨n,gr,m,sz,xs,hn,h1,h2⟩=>⟨n,gr,m,sz,xs,v2 n hn,h1,h2⟩
     |tail _ hq=>exact b6 q hq
  ·cases hx
 |some md::fs,c::cs,xs,its,vs,hx,hc=>by
  simp only[Am.lW] at hx
  split at hx
  ·rename_i it x au ug e1 e2
   injection hx with hx
   injection hx with h1 h2
   subst h1 h2
   obtain⟨hlen,bZ⟩:=hc
   match vs,hlen with
   |v::vs,hlen=>
    obtain⟨pc,a1,a2,a3,a4⟩:=H.item e1 (bZ 0 c v rfl rfl).2
    obtain⟨ps,b1,b2,b3,b4,b5,b6⟩:=H.lW e2 (vs:=vs) ⟨by simpa using hlen,fun j c u h1 h2=>bZ (j+1) c u h1 h2⟩
    refine⟨pc::ps,by simp[a1,b1],by simp[a2,b2],fun q hq=>?_,?_,?_,fun q hq=>b6 q (by simpa[mZ] using hq)⟩
    ·cases hq with
     |head=>exact a3.dF
     |tail _ hq=>exact b3 q hq
    ·simp only[dE]
     exact lv.cons rfl a3 b4
    ·simp only[sR,<-a4,<-b5]
     cases fv:it.dr with
     |none=>simp[fv]
     |some n=>simp[fv]
  ·cases hx
theorem HR.oO (H:HR B E w G h used []) {ns:List Nat}:∀{as:List (Bool×List ah)} {sig:aY} {ds:List Dv} {its:List (cQ×Mode)} {vals:List Value},Am.oO h (ed h ns) sig as=some (ds,its)->vals.length=as.length->
  (∀(j:Nat) (x:Bool×List ah) (v:Value),as[j]? =some x->vals[j]? =some v->RV w G h x.1 x.2 v)->
  ∃pas:List PA,pas.length=ds.length/\vals.length=ds.length/\(∀(i:Nat) (d:Dv) (v:Value) (p:PA),ds[i]? =some d->vals[i]? =some v->pas[i]? =some p->zf w d v p)/\(∀p∈pas,p.k≠ .ptr)/\
   lv B E w G h its (dW sig (pas.map (·.ps)))/\its.filterMap (·.1.dr)=nK sig as/\∀pc∈o7 sig (pas.map (·.ps)),KP G h ns pc
 |[],sig,ds,its,vals,hx,hl,hc=>by
  simp only[Am.oO] at hx
  injection hx with hx
  injection hx with h1 h2
  subst h1 h2
  refine⟨[],rfl,by simpa using hl,by simp,by simp,?_,?_,?_⟩
  ·cases sig<;>exact lv.nil
  ·cases sig<;>rfl
  ·cases sig<;>simp[o7]
 |(ag,cs)::as,sig,ds,its,vals,hx,hl,hc=>by
  simp only[Am.oO] at hx
  split at hx
  ·rename_i xs YI xE YJ e1 e2
   injection hx with hx
   injection hx with h1 h2
   subst h1 h2
   match vals,hl with
   |v::vals,hl=>
    have h0:=hc 0 (ag,cs) v rfl rfl
    obtain⟨q1,q2,q3,q4,q5,q6,q7⟩:=H.oO e2 (as:=as) (vals:=vals) (by simpa using hl) (fun j x v h1 h2=>hc (j+1) x v h1 h2)
    obtain⟨vs,g8,hR⟩:∃vs:List Value,(if ag=true then v=.agg vs.toArray else vs=[v])/\cj w G h cs vs:=by
     unfold RV at h0
     split at h0
     ·rename_i bn
      obtain⟨vs,e,hR⟩:=h0
      exact⟨vs,by rw[if_pos bn];exact e,hR⟩
     ·rename_i bn
      exact⟨[v],by rw[if_neg bn],h0⟩
    obtain⟨ps,p1,p2,p3,p4,p5,p6⟩:=H.lW e1 hR
    refine⟨⟨if ag=true then .agg else .one,ps,0,0⟩::q1,by simp[q2],by simp[q3],fun i d v' p hd hv hp=>?_,fun p hp=>?_,?_,?_,?_⟩
    ·cases i with
     |zero=>
      simp at hd hv hp
      subst hd hv hp
      cases ag with
      |true=>
       simp only[if_true] at g8⊢
       exact⟨by rw[p1],p3,by simp only[p2];exact g8⟩
      |false=>
       simp only[if_false,Bool.false_eq_true] at g8⊢
       exact⟨by rw[p1],p3,by simp only[p2];exact g8⟩
     |succ i=>exact q4 i d v' p (by simpa using hd) (by simpa using hv) (by simpa using hp)
    ·cases hp with
     |head=>cases ag<;>simp
     |tail _ hp=>exact q5 p hp
    ·cases sig with
     |nil=>
      have e3:dE (aY.hd ([]:aY)) ps=[]:=rfl
      rw[e3] at p4
      have e4:YI=[]:=List.eq_nil_of_length_eq_zero p4.len
      subst e4
      have e5:dW (aY.tl ([]:aY)) (q1.map (·.ps))=[]:=rfl
      rw[e5] at q6
      have e6:YJ=[]:=List.eq_nil_of_length_eq_zero q6.len
      subst e6
      exact lv.nil
     |cons s sig=>exact lv.append p4 q6
    ·cases sig with
     |nil=>
      have e3:dE (aY.hd ([]:aY)) ps=[]:=rfl
      rw[e3] at p4
      have e4:YI=[]:=List.eq_nil_of_length_eq_zero p4.len
      subst e4
      have e5:dW (aY.tl ([]:aY)) (q1.map (·.ps))=[]:=rfl
      rw[e5] at q6
      have e6:YJ=[]:=List.eq_nil_of_length_eq_zero q6.len
      subst e6
      rfl
     |cons s sig=>
      rw[List.filterMap_append,p5,q7.1]
      rfl
    ·intro pc aZ
     cases sig with
     |nil=>
      simp only[List.map_cons,o7,List.flatten_cons,List.mem_append] at aZ
      rcases aZ with aZ|aZ
      ·exact p6 pc aZ
      ·exact q7.2 pc (by simpa[o7,aY.tl] using aZ)
     |cons s sig=>
      simp only[List.map_cons,o7,List.mem_append] at aZ
      rcases aZ with aZ|aZ
      ·exact p6 pc aZ
      ·exact q7.2 pc aZ
  ·cases hx
end
end Go.Am
