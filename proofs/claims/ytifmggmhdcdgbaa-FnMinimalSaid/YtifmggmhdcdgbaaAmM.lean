/- AmM: functions that change lists of their arguments: what is said of them, and the caller's side of a call. No condition. -/
import Derived.Test.YtifmggmhdcdgbaaAm16
set_option linter.unusedVariables false
namespace Go.Am
def dJ {α:Type}:List (Option Mode)->List α->List (Mode×α)
 |some m::fs,x::xs=>(m,x)::dJ fs xs
 |none::fs,_::xs=>dJ fs xs
 |_,_=>[]
def mW {α:Type}:List (Option Mode)->List α->List α
 |some _::fs,_::xs=>mW fs xs
 |none::fs,x::xs=>x::mW fs xs
 |[],xs=>xs
 |_,[]=>[]
def dW {α:Type}:bo->List (List α)->List (Mode×α)
 |s::sig,xs::rj=>dJ s xs++dW sig rj
 |_,_=>[]
def oO {α:Type}:bo->List (List α)->List α
 |s::sig,xs::rj=>mW s xs++oO sig rj
 |[],rj=>rj.flatten
 |_,[]=>[]
theorem Gz {α β:Type} (f:α->β):∀(s:List (Option Mode)) (xs:List α),dJ s (xs.map f)=(dJ s xs).map fun x=>(x.1,f x.2)
 |some m::fs,x::xs=>by simp only[List.map_cons,dJ,Gz f fs xs]
 |none::fs,x::xs=>by simp only[List.map_cons,dJ,Gz f fs xs]
 |[],_=>by simp[dJ]
 |some m::fs,[]=>rfl
 |none::fs,[]=>rfl
theorem Gy {α β:Type} (f:α->β):∀(s:bo) (xs:List (List α)),dW s (xs.map fun l=>l.map f)=(dW s xs).map fun x=>(x.1,f x.2)
 |s::sig,xs::rj=>by simp only[List.map_cons,dW,List.map_append,Gz f s xs,Gy f sig rj]
 |[],_=>by simp[dW]
 |s::sig,[]=>rfl
structure wM (w:World) (m:Mode) (pc:PC):Prop where
 sep:Sep pc
 un:∀b,aM b pc->dk w b
 dB:∃sz a cap xs,pc=.list sz a cap xs/\0<sz/\(∀b o,a=some (ad b o)->¬aP b xs)/\rJ m (xs.map fun e=>e.map PC.er)=true
structure PA where
 k:K
 ps:List PC
 b:Nat
 o:Nat
def yQ (w:World) (d:Dv) (v:Value) (p:PA):Prop:=
 d=(p.k,p.ps.map PC.er)/\(∀pc∈p.ps,Good w pc)/\
 match p.k with
 |.one=>p.ps.map PC.val=[v]
 |.agg=>v=.agg (p.ps.map PC.val).toArray
 |.ptr=>v=.pointer (some (ad p.b p.o))/\p.b<w.heap.size/\∀j c,p.ps[j]? =some c->w.cell? (ad p.b (p.o+j))=some c.val
structure JJ (w:World) (sig:bo) (ds:List Dv) (vals:List Value) (pas:List PA):Prop where
 l1:vals.length=ds.length
 l2:pas.length=ds.length
 at_:∀(i:Nat) (d:Dv) (v:Value) (p:PA),ds[i]? =some d->vals[i]? =some v->pas[i]? =some p->yQ w d v p
 ok:∀x∈dW sig (pas.map (·.ps)),wM w x.1 x.2
 mz:(dW sig (pas.map (·.ps))).Pairwise fun x y=>∀b,aM b x.2->¬aM b y.2
 free:∀pc∈oO sig (pas.map (·.ps)),∀x∈dW sig (pas.map (·.ps)),∀b,aM b pc->¬aM b x.2
 ptr:∀p∈pas,p.k=.ptr->∀x∈dW sig (pas.map (·.ps)),¬aM p.b x.2
 ah9:∀(i:Nat) (p:PA) (s:List (Option Mode)),pas[i]? =some p->sig[i]? =some s->p.k=.ptr->s=[]
def KB (fl:List (Mode×PC)):Ex:=⟨fun b=>∃x∈fl,aM b x.2,fun _=>none,fun _ _ h=>(by cases h),fun _=>True⟩
structure uz (w:World) (m:Mode) (pc c8:PC):Prop where
 val:c8.val=pc.val
 ek:Good w c8
 sep:Sep c8
 sub:∀b,aM b c8->aM b pc
 flat:rJ m (match c8.er with|.list _ xs=>xs|_=>[])=true
 live:∀sz a cap xs aG a' rB ar,pc=.list sz a cap xs->c8=.list aG a' rB ar->aG=sz/\a'=a/\rB=cap/\ar.length=xs.length/\
  (m=.live->∀k j c,At xs k j c->c.f7=true->∃c',At ar k j c'/\c'.val=c.val/\c'.f7=true)
def uA (P:Program) (f:FuncId) (sig:bo) (M:List Dv->Option (List Dv×List C)):Prop:=
 ∀ds rs d7,M ds=some (rs,d7)->∀(w:World) (vals:List Value) (pas:List PA),JJ w sig ds vals pas->Calls P f vals.toArray w fun e w'=>
  ∃aO:List (K×List PC),aO.map (fun p=>(p.1,p.2.map PC.er))=rs/\e=.returned (vZ aO)/\(∀p∈aO,p.1≠ .ptr/\(p.1=.one->p.2.length=1))/\
   BT w' w.heap.size (aO.flatMap (·.2))/\Fr w.heap.size (KB (dW sig (pas.map (·.ps)))) w w'/\
   ∃qs:List PC,qs.map PC.er=d7/\qs.length=(dW sig (pas.map (·.ps))).length/\
    ∀(i:Nat) (x:Mode×PC) (q:PC),(dW sig (pas.map (·.ps)))[i]? =some x->qs[i]? =some q->uz w' x.1 x.2 q
section
variable {B:Nat} {E:Ex} {w0 w w':World} {G G':Gh} {N:Nat} {h h':Nat->Option aq} {used:Nat->Bool}
variable {P:Program} {o:Oper} {a:Act} {σ σ':St} {Q:Exit->Act->World->Prop}
def oJ (sz:Nat) (p:PB):PC:=.list sz (if p.nl=true then p.na else some (ad p.b p.o)) p.cap p.px
theorem ajn {gr:Bool} {m:Mode} {sz:Nat} {xs:List (List C)} {p:PB} (hr:sU B E w G gr m sz xs p):(oJ sz p).er=.list sz xs:=by
 rw[oJ,PC.dr,hr.er]
theorem ajp {gr:Bool} {m:Mode} {sz:Nat} {xs:List (List C)} {p:PB} (hr:sU B E w G gr m sz xs p) {v:Value} (hv:jg p sz 0 xs.length v):(oJ sz p).val=v:=by
 have fj:p.px.length=xs.length:=by rw[hr.er];simp
 rcases hv with⟨hn,rfl,_,hl⟩|⟨hn,a,rfl,hc,ha⟩
 ·simp[oJ,PC.val,hn,fj,hl]
 ·have:=ha (.inr rfl)
  subst this
  simp[oJ,PC.val,hn,fj]
theorem ajo {gr:Bool} {m:Mode} {sz:Nat} {xs:List (List C)} {p:PB} (hr:sU B E w G gr m sz xs p):Good w (oJ sz p):=by
 unfold oJ
 by_cases h0:p.px=[]
 ·rw[h0];exact .nil _ _ _ hr.pos
 ·have aK:p.nl=false:=by
   cases hq:p.nl with
   |false=>rfl
   |true=>exact absurd (hr.nl hq).1 h0
  obtain⟨a1,a2,a3⟩:=hr.dB aK
  rw[if_neg (by simp[aK])]
  exact .cons _ _ _ _ _ h0 a3 hr.pos a2.1 a2.2.1 a2.2.2
theorem PP {sz:Nat} {p:PB} {b:Nat} (hn:p.nl=true->p.px=[]) (h:aM b (oJ sz p)):(p.nl=false/\b=p.b)\/aP b p.px:=by
 unfold oJ at h
 rw[aM.jZ] at h
 rcases h with⟨h0,o,ho⟩|⟨k,j,c,hk,hb⟩
 ·cases hq:p.nl with
  |true=>exact absurd (hn hq) h0
  |false=>
   rw[hq] at ho
   simp at ho
   exact .inl ⟨rfl,(nb ho).1.symm⟩
 ·exact .inr ⟨k,j,c,hk,hb⟩
def rL (G:Gh) (n b:Nat):Prop:=((G.g n).nl=false/\b=(G.g n).b)\/aP b (G.g n).px
structure rp (B:Nat) (E:Ex) (w:World) (G:Gh) (h:Nat->Option aq) (it:c6) (md:Mode) (pc:PC):Prop where
 ok:wM w md pc
 ek:Good w pc
 at_:match it with
  |.nil sz=>pc=.list sz none 0 []
  |.row n=>∃gr m sz xs,h n=some (.row gr m sz xs)/\m≠ .aA/\(md=.live->m=.live)/\pc=oJ sz (G.g n)/\rJ md xs=true
  |.nest n k off=>∃gr sz xs,h n=some (.row gr .live sz xs)/\md=.ae/\At (G.g n).px k off pc
theorem rp.nj {it:c6} {md:Mode} {pc:PC} (H:HR B E w G h used []) (i:rp B E w G h it md pc) {b:Nat} (hb:aM b pc):
  ∃n gr m sz xs,it.dC=some n/\h n=some (.row gr m sz xs)/\m≠ .aA/\rL G n b/\((∀b,¬aP b (G.g n).px)\/m=.live):=by
 have ha:=i.at_
 cases it with
 |nil sz=>
  have ha:pc=.list sz none 0 []:=ha
  subst ha
  rw[aM.jZ] at hb
  rcases hb with⟨hb,_⟩|⟨k,j,c,⟨e,he,_⟩,_⟩
  ·exact absurd rfl hb
  ·simp at he
 |row n=>
  obtain⟨gr,m,sz,xs,h1,h2,h3,rfl,h5⟩:=ha
  have hr:=H.row n gr m sz xs h1
  refine⟨n,gr,m,sz,xs,rfl,h1,h2,PP (fun hq=>(hr.nl hq).1) hb,?_⟩
  cases md with
  |live=>exact .inr (h3 rfl)
  |aA=>cases h5
  |ae=>
   left
   intro b' aR
   have GJ:fB xs=true:=h5
   rw[hr.er] at GJ
   obtain⟨k,j,c,⟨e,he,hj⟩,hc⟩:=aR
   have h6:=List.all_eq_true.1 GJ (e.map PC.er) (by simp only[List.mem_map];exact⟨e,List.mem_of_getElem? he,rfl⟩)
   have h7:=List.all_eq_true.1 h6 c.er (by simp only[List.mem_map];exact⟨c,List.mem_of_getElem? hj,rfl⟩)
   exact(Sep.kA h7).2 b' hc
 |nest n k off=>
  obtain⟨gr,sz,xs,h1,h2,h3⟩:=ha
  exact⟨n,gr,.live,sz,xs,rfl,h1,by simp,.inr ⟨k,off,pc,h3,hb⟩,.inr rfl⟩
theorem HR.GD (H:HR B E w G h used []) {n n':Nat} (aw:n≠n') {gr bh:Bool} {m m':Mode} {sz aG:Nat} {xs ar:List (List C)} (h1:h n=some (.row gr m sz xs)) (h2:h n'=some (.row bh m' aG ar))
  (bI:(∀b,¬aP b (G.g n').px)\/m'=.live) {b:Nat} (hb:rL G n b):¬rL G n' b:=by
 have e1:h n≠none:=by rw[h1];simp
 have e2:h n'≠none:=by rw[h2];simp
 have own:∀{p q:Nat} {gr:Bool} {m:Mode} {sz:Nat} {xs:List (List C)},h p≠none->h q=some (.row gr m sz xs)->(G.g p).nl=false->¬aP (G.g p).b (G.g q).px:=by
  intro p q gr m sz xs hp hq hl hF
  have gu:=(H.row q gr m sz xs hq).mode
  cases m with
  |aA=>exact(H.own p hp hl).1 (gu _ hF)
  |ae=>exact(H.own p hp hl).1 (gu.1 _ hF).1
  |live=>exact H.live q gr sz xs hq _ hF p hp hl rfl
 rintro(⟨l2,rfl⟩|b2)
 ·rcases hb with⟨l1,b1⟩|b1
  ·exact H.inj n n' e1 e2 aw l1 l2 b1.symm
  ·exact own e2 h1 l2 b1
 ·rcases hb with⟨l1,rfl⟩|b1
  ·exact own e1 h2 l1 b2
  ·rcases bI with bI|rfl
   ·exact bI b b2
   ·have q2:=(H.row n' bh .live aG ar h2).mode
    have q1:=(H.row n gr m sz xs h1).mode
    cases m with
    |aA=>exact(q2.1 b b2).1 (q1 b b1)
    |ae=>exact(q2.1 b b2).1 (q1.1 b b1).1
    |live=>exact H.fi n n' gr .live sz xs bh .live aG ar h1 h2 (by simp) (by simp) aw b b1 b2
theorem HR.item (H:HR B E w G h used []) {md:Mode} {c:ai} {it:c6} {x:C} {v:Value} (hx:yh h md c=some (it,x)) (hc:RC w G h c v):
  ∃pc:PC,pc.er=x/\pc.val=v/\rp B E w G h it md pc/\it.dC=c.dC:=by
 unfold yh at hx
 split at hx
 ·rename_i sz
  split at hx
  ·rename_i eu
   injection hx with hx
   injection hx with h1 h2
   subst h1 h2
   have ct:v=.slice none 0 0:=hc
   subst ct
   refine⟨.list sz none 0 [],by simp[PC.dr],rfl,⟨⟨?_,?_,sz,none,0,[],rfl,eu.1,(fun b o h=>by cases h),?_⟩,.nil _ _ _ eu.1,rfl⟩,rfl⟩
   ·refine .list _ _ _ _ ?_ ?_ ?_
    ·rintro k j c ⟨e,he,_⟩;simp at he
    ·rintro b o k j c _ ⟨e,he,_⟩;simp at he
    ·rintro k j c k' j' c' b ⟨e,he,_⟩;simp at he
   ·intro b hb
    rw[aM.jZ] at hb
    rcases hb with⟨hb,_⟩|⟨k,j,c,⟨e,he,_⟩,_⟩
    ·exact absurd rfl hb
    ·simp at he
   ·cases md with
    |aA=>exact absurd rfl eu.2
    |ae=>rfl
    |live=>rfl
  ·cases hx
 ·rename_i n sz lo len
  split at hx
  ·rename_i gr m rs xs hn
   split at hx
   ·rename_i cz
    obtain⟨hm,rT,rfl,rfl,rfl,iP⟩:=cz
    injection hx with hx
    injection hx with h1 h2
    subst h1 h2
    have bM:h n≠none:=by rw[hn];simp
    have hs:jg (G.g n) rs 0 xs.length v:=hc bM
    have hr:=H.row n gr m rs xs hn
    have qG:(∀b,aP b (G.g n).px->dk w b)/\gS (G.g n).px/\(∀b,aP b (G.g n).px->(G.g n).nl=false->b≠(G.g n).b):=by
     have cR:=hr.mode
     cases m with
     |aA=>exact absurd rfl hm
     |ae=>exact⟨fun b hb=>(cR.1 b hb).2.1,cR.2,fun b hb hl du=>(H.own n bM hl).1 (du▸(cR.1 b hb).1)⟩
     |live=>exact⟨fun b hb=>(cR.1 b hb).2.1,cR.2,fun b hb hl=>H.live n gr rs xs hn b hb n bM hl⟩
    obtain⟨o1,o2,o3⟩:=qG
    have zZ:∀b o,(if(G.g n).nl=true then(G.g n).na else some (ad (G.g n).b (G.g n).o))=some (ad b o)->¬aP b (G.g n).px:=by
     intro b o eE hF
     cases hq:(G.g n).nl with
     |true=>rw[(hr.nl hq).1] at hF;obtain⟨k,j,c,⟨e,he,_⟩,_⟩:=hF;simp at he
     |false=>
      rw[hq] at eE
      simp at eE
      exact o3 b hF hq (nb eE).1.symm
    refine⟨oJ rs (G.g n),ajn hr,ajp hr hs,⟨⟨.list _ _ _ _ o2.1 (fun b o k j c eE hk hb=>zZ b o eE ⟨k,j,c,hk,hb⟩) o2.2,fun b hb=>?_,rs,_,_,_,rfl,hr.pos,zZ,by rw[<-hr.er];exact iP⟩,ajo hr,
     gr,m,rs,xs,hn,hm,rT,rfl,iP⟩,rfl⟩
    rcases PP (fun hq=>(hr.nl hq).1) hb with⟨hl,rfl⟩|hF
    ·exact(hr.dB hl).1
    ·exact o1 b hF
   ·cases hx
  ·cases hx
 ·rename_i n k ax off sz len
  split at hx
  ·rename_i gr rs xs hn
   split at hx
   ·rename_i cz
    obtain⟨rfl,rfl⟩:=cz
    split at hx
    ·rename_i s ys qM
     split at hx
     ·rename_i iP
      injection hx with hx
      injection hx with h1 h2
      subst h1 h2
      obtain⟨pc,p1,p2,p3⟩:=hc gr xs hn
      have hr:=H.row n gr .live rs xs hn
      have aK:(G.g n).nl=false:=by
       cases hq:(G.g n).nl with
       |false=>rfl
       |true=>obtain⟨e,he,_⟩:=p1;rw[(hr.nl hq).1] at he;simp at he
      have gp:Good w pc:=(hr.dB aK).2.1.2.2 _ _ _ p1
      have tq:pc.er=.list s ys:=by
       obtain⟨e,he,hj⟩:=p1
       rw[hr.er] at qM
       simp[he,hj] at qM
       exact qM
      have jO:=hr.mode.2.1 _ _ _ p1
      cases pc with
      |int k n=>cases p3
      |bool b=>cases p3
      |list s' a' rB px'=>
       rw[PC.dr] at tq
       injection tq with g1 g2
       subst g1
       have iD:fB (px'.map fun e=>e.map PC.er)=true:=by rw[g2];exact iP
       refine⟨_,by rw[PC.dr,g2],p2,⟨⟨jO,fun b hb=>(hr.mode.1 b ⟨k,off,_,p1,hb⟩).2.1,s',a',rB,px',rfl,?_,fun b o _ hF=>?_,iD⟩,gp,gr,rs,xs,hn,rfl,p1⟩,rfl⟩
       ·cases gp with
        |nil _ _ _ h=>exact h
        |cons _ _ _ _ _ _ _ h=>exact h
       ·obtain⟨kk,jj,c,⟨e,he,hj⟩,hc⟩:=hF
        have h6:=List.all_eq_true.1 iD (e.map PC.er) (by simp only[List.mem_map];exact⟨e,List.mem_of_getElem? he,rfl⟩)
        have h7:=List.all_eq_true.1 h6 c.er (by simp only[List.mem_map];exact⟨c,List.mem_of_getElem? hj,rfl⟩)
        exact(Sep.kA h7).2 b hc
     ·cases hx
    ·cases hx
   ·cases hx
  ·cases hx
 ·cases hx
theorem HR.Ss (H:HR B E w G h used []) {c:ai} {x:C} {v:Value} (hx:Am.bU h c=some x) (hc:RC w G h c v):
  ∃pc:PC,pc.er=x/\pc.val=v/\Good w pc/\∀b,aM b pc->G.Im b\/∃n gr m sz xs,c.dC=some n/\h n=some (.row gr m sz xs)/\rL G n b:=by
 cases c with
 |c y=>
  simp only[Am.bU] at hx
  injection hx with hx
  subst hx
  obtain⟨pc,h1,h2,h3,h4⟩:=hc
  exact⟨pc,h1,h2,h3,fun b hb=>.inl (h4 b hb)⟩
 |nil sz=>
  simp only[Am.bU] at hx
  split at hx
  ·rename_i eu
   injection hx with hx
   subst hx
   have ct:v=.slice none 0 0:=hc
   subst ct
   refine⟨.list sz none 0 [],by simp[PC.dr],rfl,.nil _ _ _ eu,fun b hb=>?_⟩
   rw[aM.jZ] at hb
   rcases hb with⟨hb,_⟩|⟨k,j,c,⟨e,he,_⟩,_⟩
   ·exact absurd rfl hb
   ·simp at he
  ·cases hx
 |sl n sz lo len=>
  simp only[Am.bU] at hx
  split at hx
  ·rename_i gr m rs xs hn
   split at hx
   ·rename_i cz
    obtain⟨rfl,hl⟩:=cz
    injection hx with hx
    subst hx
    have hs:jg (G.g n) rs lo len v:=hc (by rw[hn];simp)
    obtain⟨a1,a2,a3,a4⟩:=D2 (H.row n gr m rs xs hn) hs hl
    exact⟨_,a1,a2,a3,fun b hb=>.inr ⟨n,gr,m,rs,xs,rfl,hn,a4 b hb⟩⟩
   ·cases hx
  ·cases hx
 |bx n k ax off sz len=>
  simp only[Am.bU] at hx
  split at hx
  ·rename_i gr rs xs hn
   split at hx
   ·rename_i cz
    subst cz
    obtain⟨pc,p1,p2,p3⟩:=hc gr xs hn
    have hr:=H.row n gr .live rs xs hn
    have aK:(G.g n).nl=false:=by
     cases hq:(G.g n).nl with
     |false=>rfl
     |true=>obtain⟨e,he,_⟩:=p1;rw[(hr.nl hq).1] at he;simp at he
    refine⟨pc,?_,p2,(hr.dB aK).2.1.2.2 _ _ _ p1,fun b hb=>.inr ⟨n,gr,.live,rs,xs,rfl,hn,.inr ⟨k,off,pc,p1,hb⟩⟩⟩
    obtain⟨e,he,hj⟩:=p1
    rw[hr.er] at hx
    simp[he,hj] at hx
    exact hx
   ·cases hx
  ·cases hx
 |ptr _ _ _ _=>simp[Am.bU] at hx
 |cd _ _=>simp[Am.bU] at hx
 |fn _ _=>simp[Am.bU] at hx
 |cD _ _ _ _ _ _=>simp[Am.bU] at hx
 |bf=>simp[Am.bU] at hx
theorem VY {ns:List Nat} {n:Nat} {b:aq} (hx:ez h ns n=some b):h n=some b/\n∉ns:=by
 unfold ez at hx
 split at hx
 ·cases hx
 ·rename_i hc
  exact⟨hx,fun hm=>hc (by simpa using hm)⟩
theorem ZX {ns:List Nat} {c:ai} {x:C} (hx:bU (ez h ns) c=some x):bU h c=some x/\∀n,c.dC=some n->n∉ns:=by
 cases c with
 |c y=>exact⟨hx,by intro n hn;cases hn⟩
 |nil sz=>exact⟨hx,by intro n hn;cases hn⟩
 |sl n sz lo len=>
  simp only[Am.bU] at hx
  split at hx
  ·rename_i gr m rs xs hn
   obtain⟨h1,h2⟩:=VY hn
   exact⟨by simp only[Am.bU,h1];exact hx,by intro q hq;injection hq with hq;subst hq;exact h2⟩
  ·cases hx
 |bx n k ax off sz len=>
  simp only[Am.bU] at hx
  split at hx
  ·rename_i gr rs xs hn
   obtain⟨h1,h2⟩:=VY hn
   exact⟨by simp only[Am.bU,h1];exact hx,by intro q hq;injection hq with hq;subst hq;exact h2⟩
  ·cases hx
 |ptr _ _ _ _=>simp[Am.bU] at hx
 |cd _ _=>simp[Am.bU] at hx
 |fn _ _=>simp[Am.bU] at hx
 |cD _ _ _ _ _ _=>simp[Am.bU] at hx
 |bf=>simp[Am.bU] at hx
def Jn (G:Gh) (h:Nat->Option aq) (ns:List Nat) (pc:PC):Prop:=
 ∀b,aM b pc->G.Im b\/∃n gr m sz xs,n∉ns/\h n=some (.row gr m sz xs)/\rL G n b
structure lE (B:Nat) (E:Ex) (w:World) (G:Gh) (h:Nat->Option aq) (its:List (c6×Mode)) (fl:List (Mode×PC)):Prop where
 len:its.length=fl.length
 at_:∀(i:Nat) (it:c6×Mode) (x:Mode×PC),its[i]? =some it->fl[i]? =some x->it.2=x.1/\rp B E w G h it.1 x.1 x.2
theorem lE.nil:lE B E w G h [] []:=⟨rfl,by intro i it x h;simp at h⟩
theorem lE.cons {it:c6×Mode} {its:List (c6×Mode)} {x:Mode×PC} {fl:List (Mode×PC)} (h1:it.2=x.1) (h2:rp B E w G h it.1 x.1 x.2) (h3:lE B E w G h its fl):lE B E w G h (it::its) (x::fl):=by
 refine⟨by simp[h3.len],fun i xW x' hi hx=>?_⟩
 cases i with
 |zero=>simp at hi hx;subst hi;subst hx;exact⟨h1,h2⟩
 |succ i=>exact h3.at_ i xW x' (by simpa using hi) (by simpa using hx)
theorem lE.append {its tO:List (c6×Mode)} {fl UG:List (Mode×PC)} (h1:lE B E w G h its fl) (h2:lE B E w G h tO UG):lE B E w G h (its++tO) (fl++UG):=by
 refine⟨by simp[h1.len,h2.len],fun i it x hi hx=>?_⟩
 by_cases bL:i<its.length
 ·rw[List.getElem?_append_left bL] at hi
  rw[List.getElem?_append_left (by rw[<-h1.len];exact bL)] at hx
  exact h1.at_ i it x hi hx
 ·rw[List.getElem?_append_right (by omega)] at hi
  rw[List.getElem?_append_right (by rw[<-h1.len];omega)] at hx
  rw[h1.len] at hi
  exact h2.at_ _ it x hi hx
theorem HR.ma (H:HR B E w G h used []) {ns:List Nat}:∀{fs:List (Option Mode)} {cs:List ai} {xs:List C} {its:List (c6×Mode)} {vs:List Value},Am.ma h (ez h ns) fs cs=some (xs,its)->cA w G h cs vs->
  ∃ps:List PC,ps.map PC.er=xs/\ps.map PC.val=vs/\(∀pc∈ps,Good w pc)/\lE B E w G h its (dJ fs ps)/\its.filterMap (·.1.dC)=sv fs cs/\∀pc∈mW fs ps,Jn G h ns pc
 |[],cs,xs,its,vs,hx,hc=>by
  simp only[Am.ma] at hx
  split at hx
  ·rename_i ys hy
   injection hx with hx
   injection hx with h1 h2
   subst h1 h2
   have cu:∀(cs:List ai) (xs:List C) (vs:List Value),Am.gh (ez h ns) cs=some xs->cA w G h cs vs->∃ps:List PC,ps.map PC.er=xs/\ps.map PC.val=vs/\(∀pc∈ps,Good w pc)/\∀pc∈ps,Jn G h ns pc:=by
    intro cs
    induction cs with
    |nil=>
     intro xs vs hx hc
     simp only[Am.gh] at hx
     injection hx with hx
     subst hx
     have:vs=[]:=List.eq_nil_of_length_eq_zero (by simpa using hc.1)
     subst this
     exact⟨[],rfl,rfl,by simp,by simp⟩
    |cons c cs ih=>
     intro xs vs hx hc
     simp only[Am.gh] at hx
     split at hx
     ·rename_i x ar e1 e2
      injection hx with hx
      subst hx
      obtain⟨hlen,bO⟩:=hc
      match vs,hlen with
      |v::vs,hlen=>
       obtain⟨v1,v2⟩:=ZX e1
       obtain⟨pc,a1,a2,a3,a4⟩:=H.Ss v1 (bO 0 c v rfl rfl).2
       obtain⟨ps,b1,b2,b3,b4⟩:=ih ar vs e2 ⟨by simpa using hlen,fun j c u h1 h2=>bO (j+1) c u h1 h2⟩
       refine⟨pc::ps,by simp[a1,b1],by simp[a2,b2],fun q hq=>?_,fun q hq=>?_⟩
       ·cases hq with
        |head=>exact a3
        |tail _ hq=>exact b3 q hq
       ·cases hq with
        |head=>exact fun b hb=>(a4 b hb).imp id fun⟨n,gr,m,sz,xs,hn,h1,h2⟩=>⟨n,gr,m,sz,xs,v2 n hn,h1,h2⟩
        |tail _ hq=>exact b4 q hq
     ·cases hx
   obtain⟨ps,b1,b2,b3,b4⟩:=cu cs ys vs hy hc
   exact⟨ps,b1,b2,b3,by simpa[dJ] using lE.nil,by simp[sv],by simpa[mW] using b4⟩
  ·cases hx
 |f::fs,[],xs,its,vs,hx,hc=>by cases f<;>simp[Am.ma] at hx
 |none::fs,c::cs,xs,its,vs,hx,hc=>by
  simp only[Am.ma] at hx
  split at hx
  ·rename_i x ar tO e1 e2
   injection hx with hx
   injection hx with h1 h2
   subst h1 h2
   obtain⟨hlen,bO⟩:=hc
   match vs,hlen with
   |v::vs,hlen=>
    obtain⟨v1,v2⟩:=ZX e1
    obtain⟨pc,a1,a2,a3,a4⟩:=H.Ss v1 (bO 0 c v rfl rfl).2
    obtain⟨ps,b1,b2,b3,b4,b5,b6⟩:=H.ma e2 (vs:=vs) ⟨by simpa using hlen,fun j c u h1 h2=>bO (j+1) c u h1 h2⟩
    refine⟨pc::ps,by simp[a1,b1],by simp[a2,b2],fun q hq=>?_,by simpa[dJ] using b4,by simpa[sv] using b5,fun q hq=>?_⟩
    ·cases hq with
     |head=>exact a3
     |tail _ hq=>exact b3 q hq
    ·simp only[mW] at hq
     cases hq with
     |head=>exact fun b hb=>(a4 b hb).imp id fun⟨n,gr,m,sz,xs,hn,h1,h2⟩=>⟨n,gr,m,sz,xs,v2 n hn,h1,h2⟩
     |tail _ hq=>exact b6 q hq
  ·cases hx
 |some md::fs,c::cs,xs,its,vs,hx,hc=>by
  simp only[Am.ma] at hx
  split at hx
  ·rename_i it x ar tO e1 e2
   injection hx with hx
   injection hx with h1 h2
   subst h1 h2
   obtain⟨hlen,bO⟩:=hc
   match vs,hlen with
   |v::vs,hlen=>
    obtain⟨pc,a1,a2,a3,a4⟩:=H.item e1 (bO 0 c v rfl rfl).2
    obtain⟨ps,b1,b2,b3,b4,b5,b6⟩:=H.ma e2 (vs:=vs) ⟨by simpa using hlen,fun j c u h1 h2=>bO (j+1) c u h1 h2⟩
    refine⟨pc::ps,by simp[a1,b1],by simp[a2,b2],fun q hq=>?_,?_,?_,fun q hq=>b6 q (by simpa[mW] using hq)⟩
    ·cases hq with
     |head=>exact a3.ek
     |tail _ hq=>exact b3 q hq
    ·simp only[dJ]
     exact lE.cons rfl a3 b4
    ·simp only[sv,<-a4,<-b5]
     cases fE:it.dC with
     |none=>simp[fE]
     |some n=>simp[fE]
  ·cases hx
theorem HR.oB (H:HR B E w G h used []) {ns:List Nat}:∀{as:List (Bool×List ai)} {sig:bo} {ds:List Dv} {its:List (c6×Mode)} {vals:List Value},Am.oB h (ez h ns) sig as=some (ds,its)->vals.length=as.length->
  (∀(j:Nat) (x:Bool×List ai) (v:Value),as[j]? =some x->vals[j]? =some v->RV w G h x.1 x.2 v)->
  ∃pas:List PA,pas.length=ds.length/\vals.length=ds.length/\(∀(i:Nat) (d:Dv) (v:Value) (p:PA),ds[i]? =some d->vals[i]? =some v->pas[i]? =some p->yQ w d v p)/\(∀p∈pas,p.k≠ .ptr)/\
   lE B E w G h its (dW sig (pas.map (·.ps)))/\its.filterMap (·.1.dC)=nD sig as/\∀pc∈oO sig (pas.map (·.ps)),Jn G h ns pc
 |[],sig,ds,its,vals,hx,hl,hc=>by
  simp only[Am.oB] at hx
  injection hx with hx
  injection hx with h1 h2
  subst h1 h2
  refine⟨[],rfl,by simpa using hl,by simp,by simp,?_,?_,?_⟩
  ·cases sig<;>exact lE.nil
  ·cases sig<;>rfl
  ·cases sig<;>simp[oO]
 |(ag,cs)::as,sig,ds,its,vals,hx,hl,hc=>by
  simp only[Am.oB] at hx
  split at hx
  ·rename_i xs WU xa WV e1 e2
   injection hx with hx
   injection hx with h1 h2
   subst h1 h2
   match vals,hl with
   |v::vals,hl=>
    have h0:=hc 0 (ag,cs) v rfl rfl
    obtain⟨q1,q2,q3,q4,q5,q6,q7⟩:=H.oB e2 (as:=as) (vals:=vals) (by simpa using hl) (fun j x v h1 h2=>hc (j+1) x v h1 h2)
    obtain⟨vs,ig,hR⟩:∃vs:List Value,(if ag=true then v=.agg vs.toArray else vs=[v])/\cA w G h cs vs:=by
     unfold RV at h0
     split at h0
     ·rename_i br
      obtain⟨vs,e,hR⟩:=h0
      exact⟨vs,by rw[if_pos br];exact e,hR⟩
     ·rename_i br
      exact⟨[v],by rw[if_neg br],h0⟩
    obtain⟨ps,p1,p2,p3,p4,p5,p6⟩:=H.ma e1 hR
    refine⟨⟨if ag=true then .agg else .one,ps,0,0⟩::q1,by simp[q2],by simp[q3],fun i d v' p hd hv hp=>?_,fun p hp=>?_,?_,?_,?_⟩
    ·cases i with
     |zero=>
      simp at hd hv hp
      subst hd hv hp
      cases ag with
      |true=>
       simp only[if_true] at ig⊢
       exact⟨by rw[p1],p3,by simp only[p2];exact ig⟩
      |false=>
       simp only[if_false,Bool.false_eq_true] at ig⊢
       exact⟨by rw[p1],p3,by simp only[p2];exact ig⟩
     |succ i=>exact q4 i d v' p (by simpa using hd) (by simpa using hv) (by simpa using hp)
    ·cases hp with
     |head=>cases ag<;>simp
     |tail _ hp=>exact q5 p hp
    ·cases sig with
     |nil=>
      have e3:dJ (bo.hd ([]:bo)) ps=[]:=rfl
      rw[e3] at p4
      have e4:WU=[]:=List.eq_nil_of_length_eq_zero p4.len
      subst e4
      have e5:dW (bo.tl ([]:bo)) (q1.map (·.ps))=[]:=rfl
      rw[e5] at q6
      have e6:WV=[]:=List.eq_nil_of_length_eq_zero q6.len
      subst e6
      exact lE.nil
     |cons s sig=>exact lE.append p4 q6
    ·cases sig with
     |nil=>
      have e3:dJ (bo.hd ([]:bo)) ps=[]:=rfl
      rw[e3] at p4
      have e4:WU=[]:=List.eq_nil_of_length_eq_zero p4.len
      subst e4
      have e5:dW (bo.tl ([]:bo)) (q1.map (·.ps))=[]:=rfl
      rw[e5] at q6
      have e6:WV=[]:=List.eq_nil_of_length_eq_zero q6.len
      subst e6
      rfl
     |cons s sig=>
      rw[List.filterMap_append,p5,q7.1]
      rfl
    ·intro pc aV
     cases sig with
     |nil=>
      simp only[List.map_cons,oO,List.flatten_cons,List.mem_append] at aV
      rcases aV with aV|aV
      ·exact p6 pc aV
      ·exact q7.2 pc (by simpa[oO,bo.tl] using aV)
     |cons s sig=>
      simp only[List.map_cons,oO,List.mem_append] at aV
      rcases aV with aV|aV
      ·exact p6 pc aV
      ·exact q7.2 pc aV
  ·cases hx
end
end Go.Am
