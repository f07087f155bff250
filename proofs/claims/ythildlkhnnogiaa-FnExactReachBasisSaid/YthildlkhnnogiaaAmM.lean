/- AmM: functions that change lists of their arguments: what is said of them, and the caller's side of a call. No condition. -/
import Derived.Test.YthildlkhnnogiaaAm16
set_option linter.unusedVariables false
namespace Go.Am
def dT {α:Type}:List (Option Mode)->List α->List (Mode×α)
 |some m::fs,x::xs=>(m,x)::dT fs xs
 |none::fs,_::xs=>dT fs xs
 |_,_=>[]
def mS {α:Type}:List (Option Mode)->List α->List α
 |some _::fs,_::xs=>mS fs xs
 |none::fs,x::xs=>x::mS fs xs
 |[],xs=>xs
 |_,[]=>[]
def dE {α:Type}:aN->List (List α)->List (Mode×α)
 |s::sig,xs::sJ=>dT s xs++dE sig sJ
 |_,_=>[]
def kj {α:Type}:aN->List (List α)->List α
 |s::sig,xs::sJ=>mS s xs++kj sig sJ
 |[],sJ=>sJ.flatten
 |_,[]=>[]
theorem IG {α β:Type} (f:α->β):∀(s:List (Option Mode)) (xs:List α),dT s (xs.map f)=(dT s xs).map fun x=>(x.1,f x.2)
 |some m::fs,x::xs=>by simp only[List.map_cons,dT,IG f fs xs]
 |none::fs,x::xs=>by simp only[List.map_cons,dT,IG f fs xs]
 |[],_=>by simp[dT]
 |some m::fs,[]=>rfl
 |none::fs,[]=>rfl
theorem IF {α β:Type} (f:α->β):∀(s:aN) (xs:List (List α)),dE s (xs.map fun l=>l.map f)=(dE s xs).map fun x=>(x.1,f x.2)
 |s::sig,xs::sJ=>by simp only[List.map_cons,dE,List.map_append,IG f s xs,IF f sig sJ]
 |[],_=>by simp[dE]
 |s::sig,[]=>rfl
def xW (s:List (Option Mode)) (n:Nat):Prop:=s=[]\/∃j,n=j+1/\s=List.replicate j none++[some .af]
theorem WH {α:Type} (m:Mode) (y:α):∀(xs:List α),dT (List.replicate xs.length none++[some m]) (xs++[y])=[(m,y)]
 |[]=>rfl
 |x::xs=>WH m y xs
theorem abG {α:Type} (m:Mode) (y:α):∀(xs:List α),mS (List.replicate xs.length none++[some m]) (xs++[y])=xs
 |[]=>rfl
 |x::xs=>congrArg (x::·) (abG m y xs)
structure yI (w:World) (m:Mode) (pc:PC):Prop where
 sep:Sep pc
 un:∀b,aK b pc->cP w b
 cZ:∃sz a cap xs,pc=.list sz a cap xs/\0<sz/\(∀b o,a=some (ad b o)->¬aP b xs)/\th m (xs.map fun e=>e.map PC.er)=true
structure PA where
 k:K
 ps:List PC
 b:Nat
 o:Nat
def uk (w:World) (d:Dv) (v:Value) (p:PA):Prop:=
 d=(p.k,p.ps.map PC.er)/\(∀pc∈p.ps,Good w pc)/\
 match p.k with
 |.one=>p.ps.map PC.val=[v]
 |.agg=>v=.agg (p.ps.map PC.val).toArray
 |.ptr=>v=.pointer (some (ad p.b p.o))/\p.b<w.heap.size/\∀j c,p.ps[j]? =some c->w.cell? (ad p.b (p.o+j))=some c.val
structure wG (w:World) (sig:aN) (ds:List Dv) (vals:List Value) (pas:List PA):Prop where
 l1:vals.length=ds.length
 l2:pas.length=ds.length
 at_:∀(i:Nat) (d:Dv) (v:Value) (p:PA),ds[i]? =some d->vals[i]? =some v->pas[i]? =some p->uk w d v p
 ok:∀x∈dE sig (pas.map (·.ps)),yI w x.1 x.2
 m8:(dE sig (pas.map (·.ps))).Pairwise fun x y=>∀b,aK b x.2->¬aK b y.2
 free:∀pc∈kj sig (pas.map (·.ps)),∀x∈dE sig (pas.map (·.ps)),∀b,aK b pc->¬aK b x.2
 ptr:∀p∈pas,p.k=.ptr->∀x∈dE sig (pas.map (·.ps)),¬aK p.b x.2
 ajU:∀(i:Nat) (p:PA) (s:List (Option Mode)),pas[i]? =some p->sig[i]? =some s->p.k=.ptr->xW s p.ps.length
def BA (fl:List (Mode×PC)):Ex:=⟨fun b=>∃x∈fl,aK b x.2,fun _=>none,fun _ _ h=>(by cases h),fun _=>True⟩
structure sR (w:World) (m:Mode) (pc cm:PC):Prop where
 val:cm.val=pc.val
 dk:Good w cm
 sep:Sep cm
 sub:∀b,aK b cm->aK b pc
 flat:th m (match cm.er with|.list _ xs=>xs|_=>[])=true
 live:∀sz a cap xs ax a' nY ak,pc=.list sz a cap xs->cm=.list ax a' nY ak->ax=sz/\a'=a/\nY=cap/\ak.length=xs.length/\
  (m=.live->∀k j c,At xs k j c->c.f6=true->∃c',At ak k j c'/\c'.val=c.val/\c'.f6=true)
def nQ (P:Program) (f:FuncId) (sig:aN) (M:List Dv->Option (List Dv×List C)):Prop:=
 ∀ds rs cM,M ds=some (rs,cM)->∀(w:World) (vals:List Value) (pas:List PA),wG w sig ds vals pas->Calls P f vals.toArray w fun e w'=>
  ∃aU:List (K×List PC),aU.map (fun p=>(p.1,p.2.map PC.er))=rs/\e=.returned (v5 aU)/\(∀p∈aU,p.1≠ .ptr/\(p.1=.one->p.2.length=1))/\
   yM w' w.heap.size (aU.flatMap (·.2))/\Fr w.heap.size (BA (dE sig (pas.map (·.ps)))) w w'/\
   ∃qs:List PC,qs.map PC.er=cM/\qs.length=(dE sig (pas.map (·.ps))).length/\
    ∀(i:Nat) (x:Mode×PC) (q:PC),(dE sig (pas.map (·.ps)))[i]? =some x->qs[i]? =some q->sR w' x.1 x.2 q
section
variable {B:Nat} {E:Ex} {w0 w w':World} {G G':Gh} {N:Nat} {h h':Nat->Option aj} {used:Nat->Bool}
variable {P:Program} {o:Oper} {a:Act} {σ σ':St} {Q:Exit->Act->World->Prop}
def nI (sz:Nat) (p:PB):PC:=.list sz (if p.nl=true then p.na else some (ad p.b p.o)) p.cap p.px
theorem aaa {gr:Bool} {m:Mode} {sz:Nat} {xs:List (List C)} {p:PB} (hr:sW B E w G gr m sz xs p):(nI sz p).er=.list sz xs:=by
 rw[nI,PC.cN,hr.er]
theorem ald {gr:Bool} {m:Mode} {sz:Nat} {xs:List (List C)} {p:PB} (hr:sW B E w G gr m sz xs p) {v:Value} (hv:eU p sz 0 xs.length v):(nI sz p).val=v:=by
 have dC:p.px.length=xs.length:=by rw[hr.er];simp
 rcases hv with⟨hn,rfl,_,hl⟩|⟨hn,a,rfl,hc,ha⟩
 ·simp[nI,PC.val,hn,dC,hl]
 ·have:=ha (.inr rfl)
  subst this
  simp[nI,PC.val,hn,dC]
theorem alc {gr:Bool} {m:Mode} {sz:Nat} {xs:List (List C)} {p:PB} (hr:sW B E w G gr m sz xs p):Good w (nI sz p):=by
 unfold nI
 by_cases h0:p.px=[]
 ·rw[h0];exact .nil _ _ _ hr.pos
 ·have aD:p.nl=false:=by
   cases hq:p.nl with
   |false=>rfl
   |true=>exact absurd (hr.nl hq).1 h0
  obtain⟨a1,a2,a3⟩:=hr.cZ aD
  rw[if_neg (by simp[aD])]
  exact .cons _ _ _ _ _ h0 a3 hr.pos a2.1 a2.2.1 a2.2.2
theorem Rz {sz:Nat} {p:PB} {b:Nat} (hn:p.nl=true->p.px=[]) (h:aK b (nI sz p)):(p.nl=false/\b=p.b)\/aP b p.px:=by
 unfold nI at h
 rw[aK.jw] at h
 rcases h with⟨h0,o,ho⟩|⟨k,j,c,hk,hb⟩
 ·cases hq:p.nl with
  |true=>exact absurd (hn hq) h0
  |false=>
   rw[hq] at ho
   simp at ho
   exact .inl ⟨rfl,(jF ho).1.symm⟩
 ·exact .inr ⟨k,j,c,hk,hb⟩
def rP (G:Gh) (n b:Nat):Prop:=((G.g n).nl=false/\b=(G.g n).b)\/aP b (G.g n).px
structure sQ (B:Nat) (E:Ex) (w:World) (G:Gh) (h:Nat->Option aj) (it:cq) (md:Mode) (pc:PC):Prop where
 ok:yI w md pc
 dk:Good w pc
 at_:match it with
  |.nil sz=>pc=.list sz none 0 []
  |.row n=>∃gr m sz xs,h n=some (.row gr m sz xs)/\m≠ .aG/\(md=.live->m=.live)/\pc=nI sz (G.g n)/\th md xs=true/\(m=.live->gr=false)
  |.nest n k off=>∃gr sz xs,h n=some (.row gr .live sz xs)/\md=.af/\At (G.g n).px k off pc/\gr=false
theorem sQ.nb {it:cq} {md:Mode} {pc:PC} (H:HR B E w G h used []) (i:sQ B E w G h it md pc) {b:Nat} (hb:aK b pc):
  ∃n gr m sz xs,it.dq=some n/\h n=some (.row gr m sz xs)/\m≠ .aG/\rP G n b/\((∀b,¬aP b (G.g n).px)\/m=.live):=by
 have ha:=i.at_
 cases it with
 |nil sz=>
  have ha:pc=.list sz none 0 []:=ha
  subst ha
  rw[aK.jw] at hb
  rcases hb with⟨hb,_⟩|⟨k,j,c,⟨e,he,_⟩,_⟩
  ·exact absurd rfl hb
  ·simp at he
 |row n=>
  obtain⟨gr,m,sz,xs,h1,h2,h3,rfl,h5,_⟩:=ha
  have hr:=H.row n gr m sz xs h1
  refine⟨n,gr,m,sz,xs,rfl,h1,h2,Rz (fun hq=>(hr.nl hq).1) hb,?_⟩
  cases md with
  |live=>exact .inr (h3 rfl)
  |aG=>cases h5
  |af=>
   left
   intro b' aE
   have IQ:dd xs=true:=h5
   rw[hr.er] at IQ
   obtain⟨k,j,c,⟨e,he,hj⟩,hc⟩:=aE
   have h6:=List.all_eq_true.1 IQ (e.map PC.er) (by simp only[List.mem_map];exact⟨e,List.mem_of_getElem? he,rfl⟩)
   have h7:=List.all_eq_true.1 h6 c.er (by simp only[List.mem_map];exact⟨c,List.mem_of_getElem? hj,rfl⟩)
   exact(Sep.fT h7).2 b' hc
 |nest n k off=>
  obtain⟨gr,sz,xs,h1,h2,h3,_⟩:=ha
  exact⟨n,gr,.live,sz,xs,rfl,h1,by simp,.inr ⟨k,off,pc,h3,hb⟩,.inr rfl⟩
theorem HR.Ed (H:HR B E w G h used []) {n n':Nat} (av:n≠n') {gr aW:Bool} {m m':Mode} {sz ax:Nat} {xs ak:List (List C)} (h1:h n=some (.row gr m sz xs)) (h2:h n'=some (.row aW m' ax ak))
  (bm:(∀b,¬aP b (G.g n').px)\/m'=.live) {b:Nat} (hb:rP G n b):¬rP G n' b:=by
 have e1:h n≠none:=by rw[h1];simp
 have e2:h n'≠none:=by rw[h2];simp
 have own:∀{p q:Nat} {gr:Bool} {m:Mode} {sz:Nat} {xs:List (List C)},h p≠none->h q=some (.row gr m sz xs)->(G.g p).nl=false->¬aP (G.g p).b (G.g q).px:=by
  intro p q gr m sz xs hp hq hl hF
  have eY:=(H.row q gr m sz xs hq).mode
  cases m with
  |aG=>exact(H.own p hp hl).1 (eY _ hF)
  |af=>exact(H.own p hp hl).1 (eY.1 _ hF).1
  |live=>exact H.live q gr sz xs hq _ hF p hp hl rfl
 rintro(⟨l2,rfl⟩|b2)
 ·rcases hb with⟨l1,b1⟩|b1
  ·exact H.inj n n' e1 e2 av l1 l2 b1.symm
  ·exact own e2 h1 l2 b1
 ·rcases hb with⟨l1,rfl⟩|b1
  ·exact own e1 h2 l1 b2
  ·rcases bm with bm|rfl
   ·exact bm b b2
   ·have q2:=(H.row n' aW .live ax ak h2).mode
    have q1:=(H.row n gr m sz xs h1).mode
    cases m with
    |aG=>exact(q2.1 b b2).1 (q1 b b1)
    |af=>exact(q2.1 b b2).1 (q1.1 b b1).1
    |live=>exact H.eV n n' gr .live sz xs aW .live ax ak h1 h2 (by simp) (by simp) av b b1 b2
theorem HR.item (H:HR B E w G h used []) {md:Mode} {c:ab} {it:cq} {x:C} {v:Value} (hx:sf h md c=some (it,x)) (hc:RC w G h c v):
  ∃pc:PC,pc.er=x/\pc.val=v/\sQ B E w G h it md pc/\it.dq=c.dq:=by
 unfold sf at hx
 split at hx
 ·rename_i sz
  split at hx
  ·rename_i dQ
   injection hx with hx
   injection hx with h1 h2
   subst h1 h2
   have bZ:v=.slice none 0 0:=hc
   subst bZ
   refine⟨.list sz none 0 [],by simp[PC.cN],rfl,⟨⟨?_,?_,sz,none,0,[],rfl,dQ.1,(fun b o h=>by cases h),?_⟩,.nil _ _ _ dQ.1,rfl⟩,rfl⟩
   ·refine .list _ _ _ _ ?_ ?_ ?_
    ·rintro k j c ⟨e,he,_⟩;simp at he
    ·rintro b o k j c _ ⟨e,he,_⟩;simp at he
    ·rintro k j c k' j' c' b ⟨e,he,_⟩;simp at he
   ·intro b hb
    rw[aK.jw] at hb
    rcases hb with⟨hb,_⟩|⟨k,j,c,⟨e,he,_⟩,_⟩
    ·exact absurd rfl hb
    ·simp at he
   ·cases md with
    |aG=>exact absurd rfl dQ.2
    |af=>rfl
    |live=>rfl
  ·cases hx
 ·rename_i n sz lo len
  split at hx
  ·rename_i gr m rs xs hn
   split at hx
   ·rename_i bR
    obtain⟨hm,tt,rfl,rfl,rfl,gV,vd⟩:=bR
    injection hx with hx
    injection hx with h1 h2
    subst h1 h2
    have bi:h n≠none:=by rw[hn];simp
    have hs:eU (G.g n) rs 0 xs.length v:=hc bi
    have hr:=H.row n gr m rs xs hn
    have pw:(∀b,aP b (G.g n).px->cP w b)/\gF (G.g n).px/\(∀b,aP b (G.g n).px->(G.g n).nl=false->b≠(G.g n).b):=by
     have cv:=hr.mode
     cases m with
     |aG=>exact absurd rfl hm
     |af=>exact⟨fun b hb=>(cv.1 b hb).2.1,cv.2,fun b hb hl dP=>(H.own n bi hl).1 (dP▸(cv.1 b hb).1)⟩
     |live=>exact⟨fun b hb=>(cv.1 b hb).2.1,cv.2,fun b hb hl=>H.live n gr rs xs hn b hb n bi hl⟩
    obtain⟨o1,o2,o3⟩:=pw
    have xk:∀b o,(if(G.g n).nl=true then(G.g n).na else some (ad (G.g n).b (G.g n).o))=some (ad b o)->¬aP b (G.g n).px:=by
     intro b o fm hF
     cases hq:(G.g n).nl with
     |true=>rw[(hr.nl hq).1] at hF;obtain⟨k,j,c,⟨e,he,_⟩,_⟩:=hF;simp at he
     |false=>
      rw[hq] at fm
      simp at fm
      exact o3 b hF hq (jF fm).1.symm
    refine⟨nI rs (G.g n),aaa hr,ald hr hs,⟨⟨.list _ _ _ _ o2.1 (fun b o k j c fm hk hb=>xk b o fm ⟨k,j,c,hk,hb⟩) o2.2,fun b hb=>?_,rs,_,_,_,rfl,hr.pos,xk,by rw[<-hr.er];exact gV⟩,alc hr,
     gr,m,rs,xs,hn,hm,tt,rfl,gV,vd⟩,rfl⟩
    rcases Rz (fun hq=>(hr.nl hq).1) hb with⟨hl,rfl⟩|hF
    ·exact(hr.cZ hl).1
    ·exact o1 b hF
   ·cases hx
  ·cases hx
 ·rename_i n k au off sz len
  split at hx
  ·rename_i rs xs hn
   split at hx
   ·rename_i bR
    obtain⟨rfl,rfl⟩:=bR
    split at hx
    ·rename_i s ys lC
     split at hx
     ·rename_i gV
      injection hx with hx
      injection hx with h1 h2
      subst h1 h2
      obtain⟨pc,p1,p2,p3⟩:=hc false xs hn
      have hr:=H.row n false .live rs xs hn
      have aD:(G.g n).nl=false:=by
       cases hq:(G.g n).nl with
       |false=>rfl
       |true=>obtain⟨e,he,_⟩:=p1;rw[(hr.nl hq).1] at he;simp at he
      have eQ:Good w pc:=(hr.cZ aD).2.1.2.2 _ _ _ p1
      have fz:pc.er=.list s ys:=by
       obtain⟨e,he,hj⟩:=p1
       rw[hr.er] at lC
       simp[he,hj] at lC
       exact lC
      have iG:=hr.mode.2.1 _ _ _ p1
      cases pc with
      |int k n=>cases p3
      |bool b=>cases p3
      |list s' a' nY px'=>
       rw[PC.cN] at fz
       injection fz with g1 g2
       subst g1
       have gy:dd (px'.map fun e=>e.map PC.er)=true:=by rw[g2];exact gV
       refine⟨_,by rw[PC.cN,g2],p2,⟨⟨iG,fun b hb=>(hr.mode.1 b ⟨k,off,_,p1,hb⟩).2.1,s',a',nY,px',rfl,?_,fun b o _ hF=>?_,gy⟩,eQ,false,rs,xs,hn,rfl,p1,rfl⟩,rfl⟩
       ·cases eQ with
        |nil _ _ _ h=>exact h
        |cons _ _ _ _ _ _ _ h=>exact h
       ·obtain⟨kk,jj,c,⟨e,he,hj⟩,hc⟩:=hF
        have h6:=List.all_eq_true.1 gy (e.map PC.er) (by simp only[List.mem_map];exact⟨e,List.mem_of_getElem? he,rfl⟩)
        have h7:=List.all_eq_true.1 h6 c.er (by simp only[List.mem_map];exact⟨c,List.mem_of_getElem? hj,rfl⟩)
        exact(Sep.fT h7).2 b hc
     ·cases hx
    ·cases hx
   ·cases hx
  ·cases hx
 ·cases hx
theorem HR.UL (H:HR B E w G h used []) {c:ab} {x:C} {v:Value} (hx:Am.bQ h c=some x) (hc:RC w G h c v):
  ∃pc:PC,pc.er=x/\pc.val=v/\Good w pc/\∀b,aK b pc->G.Im b\/∃n gr m sz xs,c.dq=some n/\h n=some (.row gr m sz xs)/\rP G n b:=by
 cases c with
 |c y=>
  simp only[Am.bQ] at hx
  injection hx with hx
  subst hx
  obtain⟨pc,h1,h2,h3,h4⟩:=hc
  exact⟨pc,h1,h2,h3,fun b hb=>.inl (h4 b hb)⟩
 |nil sz=>
  simp only[Am.bQ] at hx
  split at hx
  ·rename_i dQ
   injection hx with hx
   subst hx
   have bZ:v=.slice none 0 0:=hc
   subst bZ
   refine⟨.list sz none 0 [],by simp[PC.cN],rfl,.nil _ _ _ dQ,fun b hb=>?_⟩
   rw[aK.jw] at hb
   rcases hb with⟨hb,_⟩|⟨k,j,c,⟨e,he,_⟩,_⟩
   ·exact absurd rfl hb
   ·simp at he
  ·cases hx
 |sl n sz lo len=>
  simp only[Am.bQ] at hx
  split at hx
  ·rename_i gr m rs xs hn
   split at hx
   ·rename_i bR
    obtain⟨rfl,hl⟩:=bR
    injection hx with hx
    subst hx
    have hs:eU (G.g n) rs lo len v:=hc (by rw[hn];simp)
    obtain⟨a1,a2,a3,a4⟩:=C0 (H.row n gr m rs xs hn) hs hl
    exact⟨_,a1,a2,a3,fun b hb=>.inr ⟨n,gr,m,rs,xs,rfl,hn,a4 b hb⟩⟩
   ·cases hx
  ·cases hx
 |bf n k au off sz len=>
  simp only[Am.bQ] at hx
  split at hx
  ·rename_i gr rs xs hn
   split at hx
   ·rename_i bR
    subst bR
    obtain⟨pc,p1,p2,p3⟩:=hc gr xs hn
    have hr:=H.row n gr .live rs xs hn
    have aD:(G.g n).nl=false:=by
     cases hq:(G.g n).nl with
     |false=>rfl
     |true=>obtain⟨e,he,_⟩:=p1;rw[(hr.nl hq).1] at he;simp at he
    refine⟨pc,?_,p2,(hr.cZ aD).2.1.2.2 _ _ _ p1,fun b hb=>.inr ⟨n,gr,.live,rs,xs,rfl,hn,.inr ⟨k,off,pc,p1,hb⟩⟩⟩
    obtain⟨e,he,hj⟩:=p1
    rw[hr.er] at hx
    simp[he,hj] at hx
    exact hx
   ·cases hx
  ·cases hx
 |ptr _ _ _ _=>simp[Am.bQ] at hx
 |cd _ _=>simp[Am.bQ] at hx
 |bK _ _ _ _ _ _=>simp[Am.bQ] at hx
 |fn _ _=>simp[Am.bQ] at hx
 |bX _ _ _ _ _ _=>simp[Am.bQ] at hx
 |aX=>simp[Am.bQ] at hx
theorem Yc {ns:List Nat} {n:Nat} {b:aj} (hx:cB h ns n=some b):h n=some b/\n∉ns:=by
 unfold cB at hx
 split at hx
 ·cases hx
 ·rename_i hc
  exact⟨hx,fun hm=>hc (by simpa using hm)⟩
theorem abO {ns:List Nat} {c:ab} {x:C} (hx:bQ (cB h ns) c=some x):bQ h c=some x/\∀n,c.dq=some n->n∉ns:=by
 cases c with
 |c y=>exact⟨hx,by intro n hn;cases hn⟩
 |nil sz=>exact⟨hx,by intro n hn;cases hn⟩
 |sl n sz lo len=>
  simp only[Am.bQ] at hx
  split at hx
  ·rename_i gr m rs xs hn
   obtain⟨h1,h2⟩:=Yc hn
   exact⟨by simp only[Am.bQ,h1];exact hx,by intro q hq;injection hq with hq;subst hq;exact h2⟩
  ·cases hx
 |bf n k au off sz len=>
  simp only[Am.bQ] at hx
  split at hx
  ·rename_i gr rs xs hn
   obtain⟨h1,h2⟩:=Yc hn
   exact⟨by simp only[Am.bQ,h1];exact hx,by intro q hq;injection hq with hq;subst hq;exact h2⟩
  ·cases hx
 |ptr _ _ _ _=>simp[Am.bQ] at hx
 |cd _ _=>simp[Am.bQ] at hx
 |bK _ _ _ _ _ _=>simp[Am.bQ] at hx
 |fn _ _=>simp[Am.bQ] at hx
 |bX _ _ _ _ _ _=>simp[Am.bQ] at hx
 |aX=>simp[Am.bQ] at hx
def Dm (G:Gh) (h:Nat->Option aj) (ns:List Nat) (pc:PC):Prop:=
 ∀b,aK b pc->G.Im b\/∃n gr m sz xs,n∉ns/\h n=some (.row gr m sz xs)/\rP G n b
structure jl (B:Nat) (E:Ex) (w:World) (G:Gh) (h:Nat->Option aj) (its:List (cq×Mode)) (fl:List (Mode×PC)):Prop where
 len:its.length=fl.length
 at_:∀(i:Nat) (it:cq×Mode) (x:Mode×PC),its[i]? =some it->fl[i]? =some x->it.2=x.1/\sQ B E w G h it.1 x.1 x.2
theorem jl.nil:jl B E w G h [] []:=⟨rfl,by intro i it x h;simp at h⟩
theorem jl.cons {it:cq×Mode} {its:List (cq×Mode)} {x:Mode×PC} {fl:List (Mode×PC)} (h1:it.2=x.1) (h2:sQ B E w G h it.1 x.1 x.2) (h3:jl B E w G h its fl):jl B E w G h (it::its) (x::fl):=by
 refine⟨by simp[h3.len],fun i zR x' hi hx=>?_⟩
 cases i with
 |zero=>simp at hi hx;subst hi;subst hx;exact⟨h1,h2⟩
 |succ i=>exact h3.at_ i zR x' (by simpa using hi) (by simpa using hx)
theorem jl.append {its oz:List (cq×Mode)} {fl WT:List (Mode×PC)} (h1:jl B E w G h its fl) (h2:jl B E w G h oz WT):jl B E w G h (its++oz) (fl++WT):=by
 refine⟨by simp[h1.len,h2.len],fun i it x hi hx=>?_⟩
 by_cases bS:i<its.length
 ·rw[List.getElem?_append_left bS] at hi
  rw[List.getElem?_append_left (by rw[<-h1.len];exact bS)] at hx
  exact h1.at_ i it x hi hx
 ·rw[List.getElem?_append_right (by omega)] at hi
  rw[List.getElem?_append_right (by rw[<-h1.len];omega)] at hx
  rw[h1.len] at hi
  exact h2.at_ _ it x hi hx
theorem HR.iM (H:HR B E w G h used []) {ns:List Nat}:∀{fs:List (Option Mode)} {cs:List ab} {xs:List C} {its:List (cq×Mode)} {vs:List Value},Am.iM h (cB h ns) fs cs=some (xs,its)->cb w G h cs vs->
  ∃ps:List PC,ps.map PC.er=xs/\ps.map PC.val=vs/\(∀pc∈ps,Good w pc)/\jl B E w G h its (dT fs ps)/\its.filterMap (·.1.dq)=lL fs cs/\∀pc∈mS fs ps,Dm G h ns pc
 |[],cs,xs,its,vs,hx,hc=>by
  simp only[Am.iM] at hx
  split at hx
  ·rename_i ys hy
   injection hx with hx
   injection hx with h1 h2
   subst h1 h2
   have bW:∀(cs:List ab) (xs:List C) (vs:List Value),Am.gE (cB h ns) cs=some xs->cb w G h cs vs->∃ps:List PC,ps.map PC.er=xs/\ps.map PC.val=vs/\(∀pc∈ps,Good w pc)/\∀pc∈ps,Dm G h ns pc:=by
    intro cs
    induction cs with
    |nil=>
     intro xs vs hx hc
     simp only[Am.gE] at hx
     injection hx with hx
     subst hx
     have:vs=[]:=List.eq_nil_of_length_eq_zero (by simpa using hc.1)
     subst this
     exact⟨[],rfl,rfl,by simp,by simp⟩
    |cons c cs ih=>
     intro xs vs hx hc
     simp only[Am.gE] at hx
     split at hx
     ·rename_i x ak e1 e2
      injection hx with hx
      subst hx
      obtain⟨hlen,bO⟩:=hc
      match vs,hlen with
      |v::vs,hlen=>
       obtain⟨v1,v2⟩:=abO e1
       obtain⟨pc,a1,a2,a3,a4⟩:=H.UL v1 (bO 0 c v rfl rfl).2
       obtain⟨ps,b1,b2,b3,b4⟩:=ih ak vs e2 ⟨by simpa using hlen,fun j c u h1 h2=>bO (j+1) c u h1 h2⟩
       refine⟨pc::ps,by simp[a1,b1],by simp[a2,b2],fun q hq=>?_,fun q hq=>?_⟩
       ·cases hq with
        |head=>exact a3
        |tail _ hq=>exact b3 q hq
       ·cases hq with
        |head=>exact fun b hb=>(a4 b hb).imp id fun⟨n,gr,m,sz,xs,hn,h1,h2⟩=>⟨n,gr,m,sz,xs,v2 n hn,h1,h2⟩
        |tail _ hq=>exact b4 q hq
     ·cases hx
   obtain⟨ps,b1,b2,b3,b4⟩:=bW cs ys vs hy hc
   exact⟨ps,b1,b2,b3,by simpa[dT] using jl.nil,by simp[lL],by simpa[mS] using b4⟩
  ·cases hx
 |f::fs,[],xs,its,vs,hx,hc=>by cases f<;>simp[Am.iM] at hx
 |none::fs,c::cs,xs,its,vs,hx,hc=>by
  simp only[Am.iM] at hx
  split at hx
  ·rename_i x ak oz e1 e2
   injection hx with hx
   injection hx with h1 h2
   subst h1 h2
   obtain⟨hlen,bO⟩:=hc
   match vs,hlen with
   |v::vs,hlen=>
    obtain⟨v1,v2⟩:=abO e1
    obtain⟨pc,a1,a2,a3,a4⟩:=H.UL v1 (bO 0 c v rfl rfl).2
    obtain⟨ps,b1,b2,b3,b4,b5,b6⟩:=H.iM e2 (vs:=vs) ⟨by simpa using hlen,fun j c u h1 h2=>bO (j+1) c u h1 h2⟩
    refine⟨pc::ps,by simp[a1,b1],by simp[a2,b2],fun q hq=>?_,by simpa[dT] using b4,by simpa[lL] using b5,fun q hq=>?_⟩
    ·cases hq with
     |head=>exact a3
     |tail _ hq=>exact b3 q hq
    ·simp only[mS] at hq
     cases hq with
     |head=>exact fun b hb=>(a4 b hb).imp id fun⟨n,gr,m,sz,xs,hn,h1,h2⟩=>⟨n,gr,m,sz,xs,v2 n hn,h1,h2⟩
     |tail _ hq=>exact b6 q hq
  ·cases hx
 |some md::fs,c::cs,xs,its,vs,hx,hc=>by
  simp only[Am.iM] at hx
  split at hx
  ·rename_i it x ak oz e1 e2
   injection hx with hx
   injection hx with h1 h2
   subst h1 h2
   obtain⟨hlen,bO⟩:=hc
   match vs,hlen with
   |v::vs,hlen=>
    obtain⟨pc,a1,a2,a3,a4⟩:=H.item e1 (bO 0 c v rfl rfl).2
    obtain⟨ps,b1,b2,b3,b4,b5,b6⟩:=H.iM e2 (vs:=vs) ⟨by simpa using hlen,fun j c u h1 h2=>bO (j+1) c u h1 h2⟩
    refine⟨pc::ps,by simp[a1,b1],by simp[a2,b2],fun q hq=>?_,?_,?_,fun q hq=>b6 q (by simpa[mS] using hq)⟩
    ·cases hq with
     |head=>exact a3.dk
     |tail _ hq=>exact b3 q hq
    ·simp only[dT]
     exact jl.cons rfl a3 b4
    ·simp only[lL,<-a4,<-b5]
     cases fA:it.dq with
     |none=>simp[fA]
     |some n=>simp[fA]
  ·cases hx
theorem HR.kH (H:HR B E w G h used []) {ns:List Nat}:∀{as:List (Bool×List ab)} {sig:aN} {ds:List Dv} {its:List (cq×Mode)} {vals:List Value},Am.kH h (cB h ns) sig as=some (ds,its)->vals.length=as.length->
  (∀(j:Nat) (x:Bool×List ab) (v:Value),as[j]? =some x->vals[j]? =some v->RV w G h x.1 x.2 v)->
  ∃pas:List PA,pas.length=ds.length/\vals.length=ds.length/\(∀(i:Nat) (d:Dv) (v:Value) (p:PA),ds[i]? =some d->vals[i]? =some v->pas[i]? =some p->uk w d v p)/\(∀p∈pas,p.k≠ .ptr)/\
   jl B E w G h its (dE sig (pas.map (·.ps)))/\its.filterMap (·.1.dq)=nD sig as/\∀pc∈kj sig (pas.map (·.ps)),Dm G h ns pc
 |[],sig,ds,its,vals,hx,hl,hc=>by
  simp only[Am.kH] at hx
  injection hx with hx
  injection hx with h1 h2
  subst h1 h2
  refine⟨[],rfl,by simpa using hl,by simp,by simp,?_,?_,?_⟩
  ·cases sig<;>exact jl.nil
  ·cases sig<;>rfl
  ·cases sig<;>simp[kj]
 |(ag,cs)::as,sig,ds,its,vals,hx,hl,hc=>by
  simp only[Am.kH] at hx
  split at hx
  ·rename_i xs Fa tf Fb e1 e2
   injection hx with hx
   injection hx with h1 h2
   subst h1 h2
   match vals,hl with
   |v::vals,hl=>
    have h0:=hc 0 (ag,cs) v rfl rfl
    obtain⟨q1,q2,q3,q4,q5,q6,q7⟩:=H.kH e2 (as:=as) (vals:=vals) (by simpa using hl) (fun j x v h1 h2=>hc (j+1) x v h1 h2)
    obtain⟨vs,gP,hR⟩:∃vs:List Value,(if ag=true then v=.agg vs.toArray else vs=[v])/\cb w G h cs vs:=by
     unfold RV at h0
     split at h0
     ·rename_i bu
      obtain⟨vs,e,hR⟩:=h0
      exact⟨vs,by rw[if_pos bu];exact e,hR⟩
     ·rename_i bu
      exact⟨[v],by rw[if_neg bu],h0⟩
    obtain⟨ps,p1,p2,p3,p4,p5,p6⟩:=H.iM e1 hR
    refine⟨⟨if ag=true then .agg else .one,ps,0,0⟩::q1,by simp[q2],by simp[q3],fun i d v' p hd hv hp=>?_,fun p hp=>?_,?_,?_,?_⟩
    ·cases i with
     |zero=>
      simp at hd hv hp
      subst hd hv hp
      cases ag with
      |true=>
       simp only[if_true] at gP⊢
       exact⟨by rw[p1],p3,by simp only[p2];exact gP⟩
      |false=>
       simp only[if_false,Bool.false_eq_true] at gP⊢
       exact⟨by rw[p1],p3,by simp only[p2];exact gP⟩
     |succ i=>exact q4 i d v' p (by simpa using hd) (by simpa using hv) (by simpa using hp)
    ·cases hp with
     |head=>cases ag<;>simp
     |tail _ hp=>exact q5 p hp
    ·cases sig with
     |nil=>
      have e3:dT (aN.hd ([]:aN)) ps=[]:=rfl
      rw[e3] at p4
      have e4:Fa=[]:=List.eq_nil_of_length_eq_zero p4.len
      subst e4
      have e5:dE (aN.tl ([]:aN)) (q1.map (·.ps))=[]:=rfl
      rw[e5] at q6
      have e6:Fb=[]:=List.eq_nil_of_length_eq_zero q6.len
      subst e6
      exact jl.nil
     |cons s sig=>exact jl.append p4 q6
    ·cases sig with
     |nil=>
      have e3:dT (aN.hd ([]:aN)) ps=[]:=rfl
      rw[e3] at p4
      have e4:Fa=[]:=List.eq_nil_of_length_eq_zero p4.len
      subst e4
      have e5:dE (aN.tl ([]:aN)) (q1.map (·.ps))=[]:=rfl
      rw[e5] at q6
      have e6:Fb=[]:=List.eq_nil_of_length_eq_zero q6.len
      subst e6
      rfl
     |cons s sig=>
      rw[List.filterMap_append,p5,q7.1]
      rfl
    ·intro pc aT
     cases sig with
     |nil=>
      simp only[List.map_cons,kj,List.flatten_cons,List.mem_append] at aT
      rcases aT with aT|aT
      ·exact p6 pc aT
      ·exact q7.2 pc (by simpa[kj,aN.tl] using aT)
     |cons s sig=>
      simp only[List.map_cons,kj,List.mem_append] at aT
      rcases aT with aT|aT
      ·exact p6 pc aT
      ·exact q7.2 pc aT
  ·cases hx
end
end Go.Am
