/- AmM: functions that change lists of their arguments: what is said of them, and the caller's side of a call. No condition. -/
import Derived.Test.YtifmggmhdcdgbaaAm16
set_option linter.unusedVariables false
namespace Go.Am
def dU {α:Type}:List (Option Mode)->List α->List (Mode×α)
 |some m::fs,x::xs=>(m,x)::dU fs xs
 |none::fs,_::xs=>dU fs xs
 |_,_=>[]
def nI {α:Type}:List (Option Mode)->List α->List α
 |some _::fs,_::xs=>nI fs xs
 |none::fs,x::xs=>x::nI fs xs
 |[],xs=>xs
 |_,[]=>[]
def eF {α:Type}:aW->List (List α)->List (Mode×α)
 |s::sig,xs::rH=>dU s xs++eF sig rH
 |_,_=>[]
def pG {α:Type}:aW->List (List α)->List α
 |s::sig,xs::rH=>nI s xs++pG sig rH
 |[],rH=>rH.flatten
 |_,[]=>[]
theorem GX {α β:Type} (f:α->β):∀(s:List (Option Mode)) (xs:List α),dU s (xs.map f)=(dU s xs).map fun x=>(x.1,f x.2)
 |some m::fs,x::xs=>by simp only[List.map_cons,dU,GX f fs xs]
 |none::fs,x::xs=>by simp only[List.map_cons,dU,GX f fs xs]
 |[],_=>by simp[dU]
 |some m::fs,[]=>rfl
 |none::fs,[]=>rfl
theorem GW {α β:Type} (f:α->β):∀(s:aW) (xs:List (List α)),eF s (xs.map fun l=>l.map f)=(eF s xs).map fun x=>(x.1,f x.2)
 |s::sig,xs::rH=>by simp only[List.map_cons,eF,List.map_append,GX f s xs,GW f sig rH]
 |[],_=>by simp[eF]
 |s::sig,[]=>rfl
structure w7 (w:World) (m:Mode) (pc:PC):Prop where
 sep:Sep pc
 un:∀b,aR b pc->dr w b
 dE:∃sz a cap xs,pc=.list sz a cap xs/\0<sz/\(∀b o,a=some (ad b o)->¬aV b xs)/\sd m (xs.map fun e=>e.map PC.er)=true
structure PA where
 k:K
 ps:List PC
 b:Nat
 o:Nat
def yP (w:World) (d:Dv) (v:Value) (p:PA):Prop:=
 d=(p.k,p.ps.map PC.er)/\(∀pc∈p.ps,Good w pc)/\
 match p.k with
 |.one=>p.ps.map PC.val=[v]
 |.agg=>v=.agg (p.ps.map PC.val).toArray
 |.ptr=>v=.pointer (some (ad p.b p.o))/\p.b<w.heap.size/\∀j c,p.ps[j]? =some c->w.cell? (ad p.b (p.o+j))=some c.val
structure Kj (w:World) (sig:aW) (ds:List Dv) (vals:List Value) (pas:List PA):Prop where
 l1:vals.length=ds.length
 l2:pas.length=ds.length
 at_:∀(i:Nat) (d:Dv) (v:Value) (p:PA),ds[i]? =some d->vals[i]? =some v->pas[i]? =some p->yP w d v p
 ok:∀x∈eF sig (pas.map (·.ps)),w7 w x.1 x.2
 nb:(eF sig (pas.map (·.ps))).Pairwise fun x y=>∀b,aR b x.2->¬aR b y.2
 free:∀pc∈pG sig (pas.map (·.ps)),∀x∈eF sig (pas.map (·.ps)),∀b,aR b pc->¬aR b x.2
 ptr:∀p∈pas,p.k=.ptr->∀x∈eF sig (pas.map (·.ps)),¬aR p.b x.2
 aiz:∀(i:Nat) (p:PA) (s:List (Option Mode)),pas[i]? =some p->sig[i]? =some s->p.k=.ptr->s=[]
def La (fl:List (Mode×PC)):Ex:=⟨fun b=>∃x∈fl,aR b x.2,fun _=>none,fun _ _ h=>(by cases h),fun _=>True⟩
structure u7 (w:World) (m:Mode) (pc df:PC):Prop where
 val:df.val=pc.val
 dV:Good w df
 sep:Sep df
 sub:∀b,aR b df->aR b pc
 flat:sd m (match df.er with|.list _ xs=>xs|_=>[])=true
 live:∀sz a cap xs aK a' rZ ar,pc=.list sz a cap xs->df=.list aK a' rZ ar->aK=sz/\a'=a/\rZ=cap/\ar.length=xs.length/\
  (m=.live->∀k j c,At xs k j c->c.gy=true->∃c',At ar k j c'/\c'.val=c.val/\c'.gy=true)
def oK (P:Program) (f:FuncId) (sig:aW) (M:List Dv->Option (List Dv×List C)):Prop:=
 ∀ds rs eJ,M ds=some (rs,eJ)->∀(w:World) (vals:List Value) (pas:List PA),Kj w sig ds vals pas->Calls P f vals.toArray w fun e w'=>
  ∃aU:List (K×List PC),aU.map (fun p=>(p.1,p.2.map PC.er))=rs/\e=.returned (wA aU)/\(∀p∈aU,p.1≠ .ptr/\(p.1=.one->p.2.length=1))/\
   BU w' w.heap.size (aU.flatMap (·.2))/\Fr w.heap.size (La (eF sig (pas.map (·.ps)))) w w'/\
   ∃qs:List PC,qs.map PC.er=eJ/\qs.length=(eF sig (pas.map (·.ps))).length/\
    ∀(i:Nat) (x:Mode×PC) (q:PC),(eF sig (pas.map (·.ps)))[i]? =some x->qs[i]? =some q->u7 w' x.1 x.2 q
section
variable {B:Nat} {E:Ex} {w0 w w':World} {G G':Gh} {N:Nat} {h h':Nat->Option aq} {used:Nat->Bool}
variable {P:Program} {o:Oper} {a:Act} {σ σ':St} {Q:Exit->Act->World->Prop}
def pD (sz:Nat) (p:PB):PC:=.list sz (if p.nl=true then p.na else some (ad p.b p.o)) p.cap p.px
theorem ajP {gr:Bool} {m:Mode} {sz:Nat} {xs:List (List C)} {p:PB} (hr:tn B E w G gr m sz xs p):(pD sz p).er=.list sz xs:=by
 rw[pD,PC.dw,hr.er]
theorem ajR {gr:Bool} {m:Mode} {sz:Nat} {xs:List (List C)} {p:PB} (hr:tn B E w G gr m sz xs p) {v:Value} (hv:jR p sz 0 xs.length v):(pD sz p).val=v:=by
 have fz:p.px.length=xs.length:=by rw[hr.er];simp
 rcases hv with⟨hn,rfl,_,hl⟩|⟨hn,a,rfl,hc,ha⟩
 ·simp[pD,PC.val,hn,fz,hl]
 ·have:=ha (.inr rfl)
  subst this
  simp[pD,PC.val,hn,fz]
theorem ajQ {gr:Bool} {m:Mode} {sz:Nat} {xs:List (List C)} {p:PB} (hr:tn B E w G gr m sz xs p):Good w (pD sz p):=by
 unfold pD
 by_cases h0:p.px=[]
 ·rw[h0];exact .nil _ _ _ hr.pos
 ·have aO:p.nl=false:=by
   cases hq:p.nl with
   |false=>rfl
   |true=>exact absurd (hr.nl hq).1 h0
  obtain⟨a1,a2,a3⟩:=hr.dE aO
  rw[if_neg (by simp[aO])]
  exact .cons _ _ _ _ _ h0 a3 hr.pos a2.1 a2.2.1 a2.2.2
theorem P2 {sz:Nat} {p:PB} {b:Nat} (hn:p.nl=true->p.px=[]) (h:aR b (pD sz p)):(p.nl=false/\b=p.b)\/aV b p.px:=by
 unfold pD at h
 rw[aR.kA] at h
 rcases h with⟨h0,o,ho⟩|⟨k,j,c,hk,hb⟩
 ·cases hq:p.nl with
  |true=>exact absurd (hn hq) h0
  |false=>
   rw[hq] at ho
   simp at ho
   exact .inl ⟨rfl,(nQ ho).1.symm⟩
 ·exact .inr ⟨k,j,c,hk,hb⟩
def sf (G:Gh) (n b:Nat):Prop:=((G.g n).nl=false/\b=(G.g n).b)\/aV b (G.g n).px
structure rS (B:Nat) (E:Ex) (w:World) (G:Gh) (h:Nat->Option aq) (it:de) (md:Mode) (pc:PC):Prop where
 ok:w7 w md pc
 dV:Good w pc
 at_:match it with
  |.nil sz=>pc=.list sz none 0 []
  |.row n=>∃gr m sz xs,h n=some (.row gr m sz xs)/\m≠ .aF/\(md=.live->m=.live)/\pc=pD sz (G.g n)/\sd md xs=true
  |.nest n k off=>∃gr sz xs,h n=some (.row gr .live sz xs)/\md=.aa/\At (G.g n).px k off pc
theorem rS.nX {it:de} {md:Mode} {pc:PC} (H:HR B E w G h used []) (i:rS B E w G h it md pc) {b:Nat} (hb:aR b pc):
  ∃n gr m sz xs,it.dF=some n/\h n=some (.row gr m sz xs)/\m≠ .aF/\sf G n b/\((∀b,¬aV b (G.g n).px)\/m=.live):=by
 have ha:=i.at_
 cases it with
 |nil sz=>
  have ha:pc=.list sz none 0 []:=ha
  subst ha
  rw[aR.kA] at hb
  rcases hb with⟨hb,_⟩|⟨k,j,c,⟨e,he,_⟩,_⟩
  ·exact absurd rfl hb
  ·simp at he
 |row n=>
  obtain⟨gr,m,sz,xs,h1,h2,h3,rfl,h5⟩:=ha
  have hr:=H.row n gr m sz xs h1
  refine⟨n,gr,m,sz,xs,rfl,h1,h2,P2 (fun hq=>(hr.nl hq).1) hb,?_⟩
  cases md with
  |live=>exact .inr (h3 rfl)
  |aF=>cases h5
  |aa=>
   left
   intro b' aX
   have G9:fQ xs=true:=h5
   rw[hr.er] at G9
   obtain⟨k,j,c,⟨e,he,hj⟩,hc⟩:=aX
   have h6:=List.all_eq_true.1 G9 (e.map PC.er) (by simp only[List.mem_map];exact⟨e,List.mem_of_getElem? he,rfl⟩)
   have h7:=List.all_eq_true.1 h6 c.er (by simp only[List.mem_map];exact⟨c,List.mem_of_getElem? hj,rfl⟩)
   exact(Sep.lc h7).2 b' hc
 |nest n k off=>
  obtain⟨gr,sz,xs,h1,h2,h3⟩:=ha
  exact⟨n,gr,.live,sz,xs,rfl,h1,by simp,.inr ⟨k,off,pc,h3,hb⟩,.inr rfl⟩
theorem HR.G0 (H:HR B E w G h used []) {n n':Nat} (aC:n≠n') {gr bi:Bool} {m m':Mode} {sz aK:Nat} {xs ar:List (List C)} (h1:h n=some (.row gr m sz xs)) (h2:h n'=some (.row bi m' aK ar))
  (bE:(∀b,¬aV b (G.g n').px)\/m'=.live) {b:Nat} (hb:sf G n b):¬sf G n' b:=by
 have e1:h n≠none:=by rw[h1];simp
 have e2:h n'≠none:=by rw[h2];simp
 have own:∀{p q:Nat} {gr:Bool} {m:Mode} {sz:Nat} {xs:List (List C)},h p≠none->h q=some (.row gr m sz xs)->(G.g p).nl=false->¬aV (G.g p).b (G.g q).px:=by
  intro p q gr m sz xs hp hq hl hF
  have gK:=(H.row q gr m sz xs hq).mode
  cases m with
  |aF=>exact(H.own p hp hl).1 (gK _ hF)
  |aa=>exact(H.own p hp hl).1 (gK.1 _ hF).1
  |live=>exact H.live q gr sz xs hq _ hF p hp hl rfl
 rintro(⟨l2,rfl⟩|b2)
 ·rcases hb with⟨l1,b1⟩|b1
  ·exact H.inj n n' e1 e2 aC l1 l2 b1.symm
  ·exact own e2 h1 l2 b1
 ·rcases hb with⟨l1,rfl⟩|b1
  ·exact own e1 h2 l1 b2
  ·rcases bE with bE|rfl
   ·exact bE b b2
   ·have q2:=(H.row n' bi .live aK ar h2).mode
    have q1:=(H.row n gr m sz xs h1).mode
    cases m with
    |aF=>exact(q2.1 b b2).1 (q1 b b1)
    |aa=>exact(q2.1 b b2).1 (q1.1 b b1).1
    |live=>exact H.fy n n' gr .live sz xs bi .live aK ar h1 h2 (by simp) (by simp) aC b b1 b2
theorem HR.item (H:HR B E w G h used []) {md:Mode} {c:ah} {it:de} {x:C} {v:Value} (hx:yo h md c=some (it,x)) (hc:RC w G h c v):
  ∃pc:PC,pc.er=x/\pc.val=v/\rS B E w G h it md pc/\it.dF=c.dF:=by
 unfold yo at hx
 split at hx
 ·rename_i sz
  split at hx
  ·rename_i eO
   injection hx with hx
   injection hx with h1 h2
   subst h1 h2
   have cI:v=.slice none 0 0:=hc
   subst cI
   refine⟨.list sz none 0 [],by simp[PC.dw],rfl,⟨⟨?_,?_,sz,none,0,[],rfl,eO.1,(fun b o h=>by cases h),?_⟩,.nil _ _ _ eO.1,rfl⟩,rfl⟩
   ·refine .list _ _ _ _ ?_ ?_ ?_
    ·rintro k j c ⟨e,he,_⟩;simp at he
    ·rintro b o k j c _ ⟨e,he,_⟩;simp at he
    ·rintro k j c k' j' c' b ⟨e,he,_⟩;simp at he
   ·intro b hb
    rw[aR.kA] at hb
    rcases hb with⟨hb,_⟩|⟨k,j,c,⟨e,he,_⟩,_⟩
    ·exact absurd rfl hb
    ·simp at he
   ·cases md with
    |aF=>exact absurd rfl eO.2
    |aa=>rfl
    |live=>rfl
  ·cases hx
 ·rename_i n sz lo len
  split at hx
  ·rename_i gr m rs xs hn
   split at hx
   ·rename_i cv
    obtain⟨hm,sr,rfl,rfl,rfl,jA⟩:=cv
    injection hx with hx
    injection hx with h1 h2
    subst h1 h2
    have bN:h n≠none:=by rw[hn];simp
    have hs:jR (G.g n) rs 0 xs.length v:=hc bN
    have hr:=H.row n gr m rs xs hn
    have rb:(∀b,aV b (G.g n).px->dr w b)/\io (G.g n).px/\(∀b,aV b (G.g n).px->(G.g n).nl=false->b≠(G.g n).b):=by
     have cU:=hr.mode
     cases m with
     |aF=>exact absurd rfl hm
     |aa=>exact⟨fun b hb=>(cU.1 b hb).2.1,cU.2,fun b hb hl dA=>(H.own n bN hl).1 (dA▸(cU.1 b hb).1)⟩
     |live=>exact⟨fun b hb=>(cU.1 b hb).2.1,cU.2,fun b hb hl=>H.live n gr rs xs hn b hb n bN hl⟩
    obtain⟨o1,o2,o3⟩:=rb
    have z7:∀b o,(if(G.g n).nl=true then(G.g n).na else some (ad (G.g n).b (G.g n).o))=some (ad b o)->¬aV b (G.g n).px:=by
     intro b o fc hF
     cases hq:(G.g n).nl with
     |true=>rw[(hr.nl hq).1] at hF;obtain⟨k,j,c,⟨e,he,_⟩,_⟩:=hF;simp at he
     |false=>
      rw[hq] at fc
      simp at fc
      exact o3 b hF hq (nQ fc).1.symm
    refine⟨pD rs (G.g n),ajP hr,ajR hr hs,⟨⟨.list _ _ _ _ o2.1 (fun b o k j c fc hk hb=>z7 b o fc ⟨k,j,c,hk,hb⟩) o2.2,fun b hb=>?_,rs,_,_,_,rfl,hr.pos,z7,by rw[<-hr.er];exact jA⟩,ajQ hr,
     gr,m,rs,xs,hn,hm,sr,rfl,jA⟩,rfl⟩
    rcases P2 (fun hq=>(hr.nl hq).1) hb with⟨hl,rfl⟩|hF
    ·exact(hr.dE hl).1
    ·exact o1 b hF
   ·cases hx
  ·cases hx
 ·rename_i n k ax off sz len
  split at hx
  ·rename_i gr rs xs hn
   split at hx
   ·rename_i cv
    obtain⟨rfl,rfl⟩:=cv
    split at hx
    ·rename_i s ys rh
     split at hx
     ·rename_i jA
      injection hx with hx
      injection hx with h1 h2
      subst h1 h2
      obtain⟨pc,p1,p2,p3⟩:=hc gr xs hn
      have hr:=H.row n gr .live rs xs hn
      have aO:(G.g n).nl=false:=by
       cases hq:(G.g n).nl with
       |false=>rfl
       |true=>obtain⟨e,he,_⟩:=p1;rw[(hr.nl hq).1] at he;simp at he
      have gJ:Good w pc:=(hr.dE aO).2.1.2.2 _ _ _ p1
      have tP:pc.er=.list s ys:=by
       obtain⟨e,he,hj⟩:=p1
       rw[hr.er] at rh
       simp[he,hj] at rh
       exact rh
      have kt:=hr.mode.2.1 _ _ _ p1
      cases pc with
      |int k n=>cases p3
      |bool b=>cases p3
      |list s' a' rZ px'=>
       rw[PC.dw] at tP
       injection tP with g1 g2
       subst g1
       have je:fQ (px'.map fun e=>e.map PC.er)=true:=by rw[g2];exact jA
       refine⟨_,by rw[PC.dw,g2],p2,⟨⟨kt,fun b hb=>(hr.mode.1 b ⟨k,off,_,p1,hb⟩).2.1,s',a',rZ,px',rfl,?_,fun b o _ hF=>?_,je⟩,gJ,gr,rs,xs,hn,rfl,p1⟩,rfl⟩
       ·cases gJ with
        |nil _ _ _ h=>exact h
        |cons _ _ _ _ _ _ _ h=>exact h
       ·obtain⟨kk,jj,c,⟨e,he,hj⟩,hc⟩:=hF
        have h6:=List.all_eq_true.1 je (e.map PC.er) (by simp only[List.mem_map];exact⟨e,List.mem_of_getElem? he,rfl⟩)
        have h7:=List.all_eq_true.1 h6 c.er (by simp only[List.mem_map];exact⟨c,List.mem_of_getElem? hj,rfl⟩)
        exact(Sep.lc h7).2 b hc
     ·cases hx
    ·cases hx
   ·cases hx
  ·cases hx
 ·cases hx
theorem HR.Tp (H:HR B E w G h used []) {c:ah} {x:C} {v:Value} (hx:Am.bU h c=some x) (hc:RC w G h c v):
  ∃pc:PC,pc.er=x/\pc.val=v/\Good w pc/\∀b,aR b pc->G.Im b\/∃n gr m sz xs,c.dF=some n/\h n=some (.row gr m sz xs)/\sf G n b:=by
 cases c with
 |c y=>
  simp only[Am.bU] at hx
  injection hx with hx
  subst hx
  obtain⟨pc,h1,h2,h3,h4⟩:=hc
  exact⟨pc,h1,h2,h3,fun b hb=>.inl (h4 b hb)⟩
 |nil sz=>
  simp only[Am.bU] at hx
  split at hx
  ·rename_i eO
   injection hx with hx
   subst hx
   have cI:v=.slice none 0 0:=hc
   subst cI
   refine⟨.list sz none 0 [],by simp[PC.dw],rfl,.nil _ _ _ eO,fun b hb=>?_⟩
   rw[aR.kA] at hb
   rcases hb with⟨hb,_⟩|⟨k,j,c,⟨e,he,_⟩,_⟩
   ·exact absurd rfl hb
   ·simp at he
  ·cases hx
 |sl n sz lo len=>
  simp only[Am.bU] at hx
  split at hx
  ·rename_i gr m rs xs hn
   split at hx
   ·rename_i cv
    obtain⟨rfl,hl⟩:=cv
    injection hx with hx
    subst hx
    have hs:jR (G.g n) rs lo len v:=hc (by rw[hn];simp)
    obtain⟨a1,a2,a3,a4⟩:=D5 (H.row n gr m rs xs hn) hs hl
    exact⟨_,a1,a2,a3,fun b hb=>.inr ⟨n,gr,m,rs,xs,rfl,hn,a4 b hb⟩⟩
   ·cases hx
  ·cases hx
 |bt n k ax off sz len=>
  simp only[Am.bU] at hx
  split at hx
  ·rename_i gr rs xs hn
   split at hx
   ·rename_i cv
    subst cv
    obtain⟨pc,p1,p2,p3⟩:=hc gr xs hn
    have hr:=H.row n gr .live rs xs hn
    have aO:(G.g n).nl=false:=by
     cases hq:(G.g n).nl with
     |false=>rfl
     |true=>obtain⟨e,he,_⟩:=p1;rw[(hr.nl hq).1] at he;simp at he
    refine⟨pc,?_,p2,(hr.dE aO).2.1.2.2 _ _ _ p1,fun b hb=>.inr ⟨n,gr,.live,rs,xs,rfl,hn,.inr ⟨k,off,pc,p1,hb⟩⟩⟩
    obtain⟨e,he,hj⟩:=p1
    rw[hr.er] at hx
    simp[he,hj] at hx
    exact hx
   ·cases hx
  ·cases hx
 |ptr _ _ _ _=>simp[Am.bU] at hx
 |cf _ _=>simp[Am.bU] at hx
 |fn _ _=>simp[Am.bU] at hx
 |cB _ _ _ _ _ _=>simp[Am.bU] at hx
 |bj=>simp[Am.bU] at hx
theorem Wx {ns:List Nat} {n:Nat} {b:aq} (hx:eP h ns n=some b):h n=some b/\n∉ns:=by
 unfold eP at hx
 split at hx
 ·cases hx
 ·rename_i hc
  exact⟨hx,fun hm=>hc (by simpa using hm)⟩
theorem aaj {ns:List Nat} {c:ah} {x:C} (hx:bU (eP h ns) c=some x):bU h c=some x/\∀n,c.dF=some n->n∉ns:=by
 cases c with
 |c y=>exact⟨hx,by intro n hn;cases hn⟩
 |nil sz=>exact⟨hx,by intro n hn;cases hn⟩
 |sl n sz lo len=>
  simp only[Am.bU] at hx
  split at hx
  ·rename_i gr m rs xs hn
   obtain⟨h1,h2⟩:=Wx hn
   exact⟨by simp only[Am.bU,h1];exact hx,by intro q hq;injection hq with hq;subst hq;exact h2⟩
  ·cases hx
 |bt n k ax off sz len=>
  simp only[Am.bU] at hx
  split at hx
  ·rename_i gr rs xs hn
   obtain⟨h1,h2⟩:=Wx hn
   exact⟨by simp only[Am.bU,h1];exact hx,by intro q hq;injection hq with hq;subst hq;exact h2⟩
  ·cases hx
 |ptr _ _ _ _=>simp[Am.bU] at hx
 |cf _ _=>simp[Am.bU] at hx
 |fn _ _=>simp[Am.bU] at hx
 |cB _ _ _ _ _ _=>simp[Am.bU] at hx
 |bj=>simp[Am.bU] at hx
def JE (G:Gh) (h:Nat->Option aq) (ns:List Nat) (pc:PC):Prop:=
 ∀b,aR b pc->G.Im b\/∃n gr m sz xs,n∉ns/\h n=some (.row gr m sz xs)/\sf G n b
structure mn (B:Nat) (E:Ex) (w:World) (G:Gh) (h:Nat->Option aq) (its:List (de×Mode)) (fl:List (Mode×PC)):Prop where
 len:its.length=fl.length
 at_:∀(i:Nat) (it:de×Mode) (x:Mode×PC),its[i]? =some it->fl[i]? =some x->it.2=x.1/\rS B E w G h it.1 x.1 x.2
theorem mn.nil:mn B E w G h [] []:=⟨rfl,by intro i it x h;simp at h⟩
theorem mn.cons {it:de×Mode} {its:List (de×Mode)} {x:Mode×PC} {fl:List (Mode×PC)} (h1:it.2=x.1) (h2:rS B E w G h it.1 x.1 x.2) (h3:mn B E w G h its fl):mn B E w G h (it::its) (x::fl):=by
 refine⟨by simp[h3.len],fun i yc x' hi hx=>?_⟩
 cases i with
 |zero=>simp at hi hx;subst hi;subst hx;exact⟨h1,h2⟩
 |succ i=>exact h3.at_ i yc x' (by simpa using hi) (by simpa using hx)
theorem mn.append {its uo:List (de×Mode)} {fl Vl:List (Mode×PC)} (h1:mn B E w G h its fl) (h2:mn B E w G h uo Vl):mn B E w G h (its++uo) (fl++Vl):=by
 refine⟨by simp[h1.len,h2.len],fun i it x hi hx=>?_⟩
 by_cases bX:i<its.length
 ·rw[List.getElem?_append_left bX] at hi
  rw[List.getElem?_append_left (by rw[<-h1.len];exact bX)] at hx
  exact h1.at_ i it x hi hx
 ·rw[List.getElem?_append_right (by omega)] at hi
  rw[List.getElem?_append_right (by rw[<-h1.len];omega)] at hx
  rw[h1.len] at hi
  exact h2.at_ _ it x hi hx
theorem HR.mP (H:HR B E w G h used []) {ns:List Nat}:∀{fs:List (Option Mode)} {cs:List ah} {xs:List C} {its:List (de×Mode)} {vs:List Value},Am.mP h (eP h ns) fs cs=some (xs,its)->cA w G h cs vs->
  ∃ps:List PC,ps.map PC.er=xs/\ps.map PC.val=vs/\(∀pc∈ps,Good w pc)/\mn B E w G h its (dU fs ps)/\its.filterMap (·.1.dF)=sP fs cs/\∀pc∈nI fs ps,JE G h ns pc
 |[],cs,xs,its,vs,hx,hc=>by
  simp only[Am.mP] at hx
  split at hx
  ·rename_i ys hy
   injection hx with hx
   injection hx with h1 h2
   subst h1 h2
   have cP:∀(cs:List ah) (xs:List C) (vs:List Value),Am.gE (eP h ns) cs=some xs->cA w G h cs vs->∃ps:List PC,ps.map PC.er=xs/\ps.map PC.val=vs/\(∀pc∈ps,Good w pc)/\∀pc∈ps,JE G h ns pc:=by
    intro cs
    induction cs with
    |nil=>
     intro xs vs hx hc
     simp only[Am.gE] at hx
     injection hx with hx
     subst hx
     have:vs=[]:=List.eq_nil_of_length_eq_zero (by simpa using hc.1)
     subst this
     exact⟨[],rfl,rfl,by simp,by simp⟩
    |cons c cs ih=>
     intro xs vs hx hc
     simp only[Am.gE] at hx
     split at hx
     ·rename_i x ar e1 e2
      injection hx with hx
      subst hx
      obtain⟨hlen,cr⟩:=hc
      match vs,hlen with
      |v::vs,hlen=>
       obtain⟨v1,v2⟩:=aaj e1
       obtain⟨pc,a1,a2,a3,a4⟩:=H.Tp v1 (cr 0 c v rfl rfl).2
       obtain⟨ps,b1,b2,b3,b4⟩:=ih ar vs e2 ⟨by simpa using hlen,fun j c u h1 h2=>cr (j+1) c u h1 h2⟩
       refine⟨pc::ps,by simp[a1,b1],by simp[a2,b2],fun q hq=>?_,fun q hq=>?_⟩
       ·cases hq with
        |head=>exact a3
        |tail _ hq=>exact b3 q hq
       ·cases hq with
        |head=>exact fun b hb=>(a4 b hb).imp id fun⟨n,gr,m,sz,xs,hn,h1,h2⟩=>⟨n,gr,m,sz,xs,v2 n hn,h1,h2⟩
        |tail _ hq=>exact b4 q hq
     ·cases hx
   obtain⟨ps,b1,b2,b3,b4⟩:=cP cs ys vs hy hc
   exact⟨ps,b1,b2,b3,by simpa[dU] using mn.nil,by simp[sP],by simpa[nI] using b4⟩
  ·cases hx
 |f::fs,[],xs,its,vs,hx,hc=>by cases f<;>simp[Am.mP] at hx
 |none::fs,c::cs,xs,its,vs,hx,hc=>by
  simp only[Am.mP] at hx
  split at hx
  ·rename_i x ar uo e1 e2
   injection hx with hx
   injection hx with h1 h2
   subst h1 h2
   obtain⟨hlen,cr⟩:=hc
   match vs,hlen with
   |v::vs,hlen=>
    obtain⟨v1,v2⟩:=aaj e1
    obtain⟨pc,a1,a2,a3,a4⟩:=H.Tp v1 (cr 0 c v rfl rfl).2
    obtain⟨ps,b1,b2,b3,b4,b5,b6⟩:=H.mP e2 (vs:=vs) ⟨by simpa using hlen,fun j c u h1 h2=>cr (j+1) c u h1 h2⟩
    refine⟨pc::ps,by simp[a1,b1],by simp[a2,b2],fun q hq=>?_,by simpa[dU] using b4,by simpa[sP] using b5,fun q hq=>?_⟩
    ·cases hq with
     |head=>exact a3
     |tail _ hq=>exact b3 q hq
    ·simp only[nI] at hq
     cases hq with
     |head=>exact fun b hb=>(a4 b hb).imp id fun⟨n,gr,m,sz,xs,hn,h1,h2⟩=>⟨n,gr,m,sz,xs,v2 n hn,h1,h2⟩
     |tail _ hq=>exact b6 q hq
  ·cases hx
 |some md::fs,c::cs,xs,its,vs,hx,hc=>by
  simp only[Am.mP] at hx
  split at hx
  ·rename_i it x ar uo e1 e2
   injection hx with hx
   injection hx with h1 h2
   subst h1 h2
   obtain⟨hlen,cr⟩:=hc
   match vs,hlen with
   |v::vs,hlen=>
    obtain⟨pc,a1,a2,a3,a4⟩:=H.item e1 (cr 0 c v rfl rfl).2
    obtain⟨ps,b1,b2,b3,b4,b5,b6⟩:=H.mP e2 (vs:=vs) ⟨by simpa using hlen,fun j c u h1 h2=>cr (j+1) c u h1 h2⟩
    refine⟨pc::ps,by simp[a1,b1],by simp[a2,b2],fun q hq=>?_,?_,?_,fun q hq=>b6 q (by simpa[nI] using hq)⟩
    ·cases hq with
     |head=>exact a3.dV
     |tail _ hq=>exact b3 q hq
    ·simp only[dU]
     exact mn.cons rfl a3 b4
    ·simp only[sP,<-a4,<-b5]
     cases fT:it.dF with
     |none=>simp[fT]
     |some n=>simp[fT]
  ·cases hx
theorem HR.pu (H:HR B E w G h used []) {ns:List Nat}:∀{as:List (Bool×List ah)} {sig:aW} {ds:List Dv} {its:List (de×Mode)} {vals:List Value},Am.pu h (eP h ns) sig as=some (ds,its)->vals.length=as.length->
  (∀(j:Nat) (x:Bool×List ah) (v:Value),as[j]? =some x->vals[j]? =some v->RV w G h x.1 x.2 v)->
  ∃pas:List PA,pas.length=ds.length/\vals.length=ds.length/\(∀(i:Nat) (d:Dv) (v:Value) (p:PA),ds[i]? =some d->vals[i]? =some v->pas[i]? =some p->yP w d v p)/\(∀p∈pas,p.k≠ .ptr)/\
   mn B E w G h its (eF sig (pas.map (·.ps)))/\its.filterMap (·.1.dF)=ox sig as/\∀pc∈pG sig (pas.map (·.ps)),JE G h ns pc
 |[],sig,ds,its,vals,hx,hl,hc=>by
  simp only[Am.pu] at hx
  injection hx with hx
  injection hx with h1 h2
  subst h1 h2
  refine⟨[],rfl,by simpa using hl,by simp,by simp,?_,?_,?_⟩
  ·cases sig<;>exact mn.nil
  ·cases sig<;>rfl
  ·cases sig<;>simp[pG]
 |(ag,cs)::as,sig,ds,its,vals,hx,hl,hc=>by
  simp only[Am.pu] at hx
  split at hx
  ·rename_i xs Xf xo Xg e1 e2
   injection hx with hx
   injection hx with h1 h2
   subst h1 h2
   match vals,hl with
   |v::vals,hl=>
    have h0:=hc 0 (ag,cs) v rfl rfl
    obtain⟨q1,q2,q3,q4,q5,q6,q7⟩:=H.pu e2 (as:=as) (vals:=vals) (by simpa using hl) (fun j x v h1 h2=>hc (j+1) x v h1 h2)
    obtain⟨vs,iJ,hR⟩:∃vs:List Value,(if ag=true then v=.agg vs.toArray else vs=[v])/\cA w G h cs vs:=by
     unfold RV at h0
     split at h0
     ·rename_i br
      obtain⟨vs,e,hR⟩:=h0
      exact⟨vs,by rw[if_pos br];exact e,hR⟩
     ·rename_i br
      exact⟨[v],by rw[if_neg br],h0⟩
    obtain⟨ps,p1,p2,p3,p4,p5,p6⟩:=H.mP e1 hR
    refine⟨⟨if ag=true then .agg else .one,ps,0,0⟩::q1,by simp[q2],by simp[q3],fun i d v' p hd hv hp=>?_,fun p hp=>?_,?_,?_,?_⟩
    ·cases i with
     |zero=>
      simp at hd hv hp
      subst hd hv hp
      cases ag with
      |true=>
       simp only[if_true] at iJ⊢
       exact⟨by rw[p1],p3,by simp only[p2];exact iJ⟩
      |false=>
       simp only[if_false,Bool.false_eq_true] at iJ⊢
       exact⟨by rw[p1],p3,by simp only[p2];exact iJ⟩
     |succ i=>exact q4 i d v' p (by simpa using hd) (by simpa using hv) (by simpa using hp)
    ·cases hp with
     |head=>cases ag<;>simp
     |tail _ hp=>exact q5 p hp
    ·cases sig with
     |nil=>
      have e3:dU (aW.hd ([]:aW)) ps=[]:=rfl
      rw[e3] at p4
      have e4:Xf=[]:=List.eq_nil_of_length_eq_zero p4.len
      subst e4
      have e5:eF (aW.tl ([]:aW)) (q1.map (·.ps))=[]:=rfl
      rw[e5] at q6
      have e6:Xg=[]:=List.eq_nil_of_length_eq_zero q6.len
      subst e6
      exact mn.nil
     |cons s sig=>exact mn.append p4 q6
    ·cases sig with
     |nil=>
      have e3:dU (aW.hd ([]:aW)) ps=[]:=rfl
      rw[e3] at p4
      have e4:Xf=[]:=List.eq_nil_of_length_eq_zero p4.len
      subst e4
      have e5:eF (aW.tl ([]:aW)) (q1.map (·.ps))=[]:=rfl
      rw[e5] at q6
      have e6:Xg=[]:=List.eq_nil_of_length_eq_zero q6.len
      subst e6
      rfl
     |cons s sig=>
      rw[List.filterMap_append,p5,q7.1]
      rfl
    ·intro pc bd
     cases sig with
     |nil=>
      simp only[List.map_cons,pG,List.flatten_cons,List.mem_append] at bd
      rcases bd with bd|bd
      ·exact p6 pc bd
      ·exact q7.2 pc (by simpa[pG,aW.tl] using bd)
     |cons s sig=>
      simp only[List.map_cons,pG,List.mem_append] at bd
      rcases bd with bd|bd
      ·exact p6 pc bd
      ·exact q7.2 pc bd
  ·cases hx
end
end Go.Am
