/- AmM: functions that change lists of their arguments: what is said of them, and the caller's side of a call. No condition. -/
import Derived.Test.YtfkfmbhknekkdaaAm16
set_option linter.unusedVariables false
namespace Go.Am
def dC {α:Type}:List (Option Mode)->List α->List (Mode×α)
 |some m::fs,x::xs=>(m,x)::dC fs xs
 |none::fs,_::xs=>dC fs xs
 |_,_=>[]
def k8 {α:Type}:List (Option Mode)->List α->List α
 |some _::fs,_::xs=>k8 fs xs
 |none::fs,x::xs=>x::k8 fs xs
 |[],xs=>xs
 |_,[]=>[]
def dr {α:Type}:aJ->List (List α)->List (Mode×α)
 |s::sig,xs::qk=>dC s xs++dr sig qk
 |_,_=>[]
def jq {α:Type}:aJ->List (List α)->List α
 |s::sig,xs::qk=>k8 s xs++jq sig qk
 |[],qk=>qk.flatten
 |_,[]=>[]
theorem E6 {α β:Type} (f:α->β):∀(s:List (Option Mode)) (xs:List α),dC s (xs.map f)=(dC s xs).map fun x=>(x.1,f x.2)
 |some m::fs,x::xs=>by simp only[List.map_cons,dC,E6 f fs xs]
 |none::fs,x::xs=>by simp only[List.map_cons,dC,E6 f fs xs]
 |[],_=>by simp[dC]
 |some m::fs,[]=>rfl
 |none::fs,[]=>rfl
theorem E5 {α β:Type} (f:α->β):∀(s:aJ) (xs:List (List α)),dr s (xs.map fun l=>l.map f)=(dr s xs).map fun x=>(x.1,f x.2)
 |s::sig,xs::qk=>by simp only[List.map_cons,dr,List.map_append,E6 f s xs,E5 f sig qk]
 |[],_=>by simp[dr]
 |s::sig,[]=>rfl
def uN (s:List (Option Mode)) (n:Nat):Prop:=s=[]\/∃j,n=j+1/\s=List.replicate j none++[some .aj]
theorem SW {α:Type} (m:Mode) (y:α):∀(xs:List α),dC (List.replicate xs.length none++[some m]) (xs++[y])=[(m,y)]
 |[]=>rfl
 |x::xs=>SW m y xs
theorem Zn {α:Type} (m:Mode) (y:α):∀(xs:List α),k8 (List.replicate xs.length none++[some m]) (xs++[y])=xs
 |[]=>rfl
 |x::xs=>congrArg (x::·) (Zn m y xs)
structure vu (w:World) (m:Mode) (pc:PC):Prop where
 sep:Sep pc
 un:∀b,aM b pc->dm w b
 dv:∃sz a cap xs,pc=.list sz a cap xs/\0<sz/\(∀b o,a=some (ad b o)->¬aN b xs)/\qG m (xs.map fun e=>e.map PC.er)=true
structure PA where
 k:K
 ps:List PC
 b:Nat
 o:Nat
def rH (w:World) (d:Dv) (v:Value) (p:PA):Prop:=
 d=(p.k,p.ps.map PC.er)/\(∀pc∈p.ps,Good w pc)/\
 match p.k with
 |.one=>p.ps.map PC.val=[v]
 |.agg=>v=.agg (p.ps.map PC.val).toArray
 |.ptr=>v=.pointer (some (ad p.b p.o))/\p.b<w.heap.size/\∀j c,p.ps[j]? =some c->w.cell? (ad p.b (p.o+j))=some c.val
structure tu (w:World) (sig:aJ) (ds:List Dv) (vals:List Value) (aD:List PA):Prop where
 l1:vals.length=ds.length
 l2:aD.length=ds.length
 at_:∀(i:Nat) (d:Dv) (v:Value) (p:PA),ds[i]? =some d->vals[i]? =some v->aD[i]? =some p->rH w d v p
 ok:∀x∈dr sig (aD.map (·.ps)),vu w x.1 x.2
 lm:(dr sig (aD.map (·.ps))).Pairwise fun x y=>∀b,aM b x.2->¬aM b y.2
 free:∀pc∈jq sig (aD.map (·.ps)),∀x∈dr sig (aD.map (·.ps)),∀b,aM b pc->¬aM b x.2
 ptr:∀p∈aD,p.k=.ptr->∀x∈dr sig (aD.map (·.ps)),¬aM p.b x.2
 aic:∀(i:Nat) (p:PA) (s:List (Option Mode)),aD[i]? =some p->sig[i]? =some s->p.k=.ptr->uN s p.ps.length
def yx (fl:List (Mode×PC)):Ex:=⟨fun b=>∃x∈fl,aM b x.2,fun _=>none,fun _ _ h=>(by cases h),fun _=>True⟩
structure qt (w:World) (m:Mode) (pc dd:PC):Prop where
 val:dd.val=pc.val
 dA:Good w dd
 sep:Sep dd
 sub:∀b,aM b dd->aM b pc
 flat:qG m (match dd.er with|.list _ xs=>xs|_=>[])=true
 live:∀sz a cap xs aC a' qy ao,pc=.list sz a cap xs->dd=.list aC a' qy ao->aC=sz/\a'=a/\qy=cap/\ao.length=xs.length/\
  (m=.live->∀k j c,At xs k j c->c.fR=true->∃c',At ao k j c'/\c'.val=c.val/\c'.fR=true)
def rP (P:Program) (f:FuncId) (sig:aJ) (M:List Dv->Option (List Dv×List C)):Prop:=
 ∀ds rs cP,M ds=some (rs,cP)->∀(w:World) (vals:List Value) (aD:List PA),tu w sig ds vals aD->Calls P f vals.toArray w fun e w'=>
  ∃aT:List (K×List PC),aT.map (fun p=>(p.1,p.2.map PC.er))=rs/\e=.returned (sZ aT)/\(∀p∈aT,p.1≠ .ptr/\(p.1=.one->p.2.length=1))/\
   xT w' w.heap.size (aT.flatMap (·.2))/\Fr w.heap.size (yx (dr sig (aD.map (·.ps)))) w w'/\
   ∃qs:List PC,qs.map PC.er=cP/\qs.length=(dr sig (aD.map (·.ps))).length/\
    ∀(i:Nat) (x:Mode×PC) (q:PC),(dr sig (aD.map (·.ps)))[i]? =some x->qs[i]? =some q->qt w' x.1 x.2 q
section
variable {B:Nat} {E:Ex} {w0 w w':World} {G G':Gh} {N:Nat} {h h':Nat->Option ak} {used:Nat->Bool}
variable {P:Program} {o:Oper} {a:Act} {σ σ':St} {Q:Exit->Act->World->Prop}
def lO (sz:Nat) (p:PB):PC:=.list sz (if p.nl=true then p.na else some (ad p.b p.o)) p.cap p.px
theorem X7 {gr:Bool} {m:Mode} {sz:Nat} {xs:List (List C)} {p:PB} (hr:rS B E w G gr m sz xs p):(lO sz p).er=.list sz xs:=by
 rw[lO,PC.du,hr.er]
theorem ajS {gr:Bool} {m:Mode} {sz:Nat} {xs:List (List C)} {p:PB} (hr:rS B E w G gr m sz xs p) {v:Value} (hv:gy p sz 0 xs.length v):(lO sz p).val=v:=by
 have eN:p.px.length=xs.length:=by rw[hr.er];simp
 rcases hv with⟨hn,rfl,_,hl⟩|⟨hn,a,rfl,hc,ha⟩
 ·simp[lO,PC.val,hn,eN,hl]
 ·have:=ha (.inr rfl)
  subst this
  simp[lO,PC.val,hn,eN]
theorem ajR {gr:Bool} {m:Mode} {sz:Nat} {xs:List (List C)} {p:PB} (hr:rS B E w G gr m sz xs p):Good w (lO sz p):=by
 unfold lO
 by_cases h0:p.px=[]
 ·rw[h0];exact .nil _ _ _ hr.pos
 ·have aE:p.nl=false:=by
   cases hq:p.nl with
   |false=>rfl
   |true=>exact absurd (hr.nl hq).1 h0
  obtain⟨a1,a2,a3⟩:=hr.dv aE
  rw[if_neg (by simp[aE])]
  exact .cons _ _ _ _ _ h0 a3 hr.pos a2.1 a2.2.1 a2.2.2
theorem NW {sz:Nat} {p:PB} {b:Nat} (hn:p.nl=true->p.px=[]) (h:aM b (lO sz p)):(p.nl=false/\b=p.b)\/aN b p.px:=by
 unfold lO at h
 rw[aM.jk] at h
 rcases h with⟨h0,o,ho⟩|⟨k,j,c,hk,hb⟩
 ·cases hq:p.nl with
  |true=>exact absurd (hn hq) h0
  |false=>
   rw[hq] at ho
   simp at ho
   exact .inl ⟨rfl,(lg ho).1.symm⟩
 ·exact .inr ⟨k,j,c,hk,hb⟩
def qJ (G:Gh) (n b:Nat):Prop:=((G.g n).nl=false/\b=(G.g n).b)\/aN b (G.g n).px
structure qq (B:Nat) (E:Ex) (w:World) (G:Gh) (h:Nat->Option ak) (it:ct) (md:Mode) (pc:PC):Prop where
 ok:vu w md pc
 dA:Good w pc
 at_:match it with
  |.nil sz=>pc=.list sz none 0 []
  |.row n=>∃gr m sz xs,h n=some (.row gr m sz xs)/\m≠ .aF/\(md=.live->m=.live)/\pc=lO sz (G.g n)/\qG md xs=true
  |.nest n k off=>∃gr sz xs,h n=some (.row gr .live sz xs)/\md=.aj/\At (G.g n).px k off pc
theorem qq.lp {it:ct} {md:Mode} {pc:PC} (H:HR B E w G h used []) (i:qq B E w G h it md pc) {b:Nat} (hb:aM b pc):
  ∃n gr m sz xs,it.de=some n/\h n=some (.row gr m sz xs)/\m≠ .aF/\qJ G n b/\((∀b,¬aN b (G.g n).px)\/m=.live):=by
 have ha:=i.at_
 cases it with
 |nil sz=>
  have ha:pc=.list sz none 0 []:=ha
  subst ha
  rw[aM.jk] at hb
  rcases hb with⟨hb,_⟩|⟨k,j,c,⟨e,he,_⟩,_⟩
  ·exact absurd rfl hb
  ·simp at he
 |row n=>
  obtain⟨gr,m,sz,xs,h1,h2,h3,rfl,h5⟩:=ha
  have hr:=H.row n gr m sz xs h1
  refine⟨n,gr,m,sz,xs,rfl,h1,h2,NW (fun hq=>(hr.nl hq).1) hb,?_⟩
  cases md with
  |live=>exact .inr (h3 rfl)
  |aF=>cases h5
  |aj=>
   left
   intro b' aL
   have TF:fB xs=true:=h5
   rw[hr.er] at TF
   obtain⟨k,j,c,⟨e,he,hj⟩,hc⟩:=aL
   have h6:=List.all_eq_true.1 TF (e.map PC.er) (by simp only[List.mem_map];exact⟨e,List.mem_of_getElem? he,rfl⟩)
   have h7:=List.all_eq_true.1 h6 c.er (by simp only[List.mem_map];exact⟨c,List.mem_of_getElem? hj,rfl⟩)
   exact(Sep.jI h7).2 b' hc
 |nest n k off=>
  obtain⟨gr,sz,xs,h1,h2,h3⟩:=ha
  exact⟨n,gr,.live,sz,xs,rfl,h1,by simp,.inr ⟨k,off,pc,h3,hb⟩,.inr rfl⟩
theorem HR.Bo (H:HR B E w G h used []) {n n':Nat} (av:n≠n') {gr aU:Bool} {m m':Mode} {sz aC:Nat} {xs ao:List (List C)} (h1:h n=some (.row gr m sz xs)) (h2:h n'=some (.row aU m' aC ao))
  (bx:(∀b,¬aN b (G.g n').px)\/m'=.live) {b:Nat} (hb:qJ G n b):¬qJ G n' b:=by
 have e1:h n≠none:=by rw[h1];simp
 have e2:h n'≠none:=by rw[h2];simp
 have own:∀{p q:Nat} {gr:Bool} {m:Mode} {sz:Nat} {xs:List (List C)},h p≠none->h q=some (.row gr m sz xs)->(G.g p).nl=false->¬aN (G.g p).b (G.g q).px:=by
  intro p q gr m sz xs hp hq hl hF
  have gj:=(H.row q gr m sz xs hq).mode
  cases m with
  |aF=>exact(H.own p hp hl).1 (gj _ hF)
  |aj=>exact(H.own p hp hl).1 (gj.1 _ hF).1
  |live=>exact H.live q gr sz xs hq _ hF p hp hl rfl
 rintro(⟨l2,rfl⟩|b2)
 ·rcases hb with⟨l1,b1⟩|b1
  ·exact H.inj n n' e1 e2 av l1 l2 b1.symm
  ·exact own e2 h1 l2 b1
 ·rcases hb with⟨l1,rfl⟩|b1
  ·exact own e1 h2 l1 b2
  ·rcases bx with bx|rfl
   ·exact bx b b2
   ·have q2:=(H.row n' aU .live aC ao h2).mode
    have q1:=(H.row n gr m sz xs h1).mode
    cases m with
    |aF=>exact(q2.1 b b2).1 (q1 b b1)
    |aj=>exact(q2.1 b b2).1 (q1.1 b b1).1
    |live=>exact H.fg n n' gr .live sz xs aU .live aC ao h1 h2 (by simp) (by simp) av b b1 b2
theorem HR.item (H:HR B E w G h used []) {md:Mode} {c:ae} {it:ct} {x:C} {v:Value} (hx:pT h md c=some (it,x)) (hc:RC w G h c v):
  ∃pc:PC,pc.er=x/\pc.val=v/\qq B E w G h it md pc/\it.de=c.de:=by
 unfold pT at hx
 split at hx
 ·rename_i sz
  split at hx
  ·rename_i dU
   injection hx with hx
   injection hx with h1 h2
   subst h1 h2
   have cN:v=.slice none 0 0:=hc
   subst cN
   refine⟨.list sz none 0 [],by simp[PC.du],rfl,⟨⟨?_,?_,sz,none,0,[],rfl,dU.1,(fun b o h=>by cases h),?_⟩,.nil _ _ _ dU.1,rfl⟩,rfl⟩
   ·refine .list _ _ _ _ ?_ ?_ ?_
    ·rintro k j c ⟨e,he,_⟩;simp at he
    ·rintro b o k j c _ ⟨e,he,_⟩;simp at he
    ·rintro k j c k' j' c' b ⟨e,he,_⟩;simp at he
   ·intro b hb
    rw[aM.jk] at hb
    rcases hb with⟨hb,_⟩|⟨k,j,c,⟨e,he,_⟩,_⟩
    ·exact absurd rfl hb
    ·simp at he
   ·cases md with
    |aF=>exact absurd rfl dU.2
    |aj=>rfl
    |live=>rfl
  ·cases hx
 ·rename_i n sz lo len
  split at hx
  ·rename_i gr m rs xs hn
   split at hx
   ·rename_i cm
    obtain⟨hm,qR,rfl,rfl,rfl,iy⟩:=cm
    injection hx with hx
    injection hx with h1 h2
    subst h1 h2
    have bJ:h n≠none:=by rw[hn];simp
    have hs:gy (G.g n) rs 0 xs.length v:=hc bJ
    have hr:=H.row n gr m rs xs hn
    have pJ:(∀b,aN b (G.g n).px->dm w b)/\gx (G.g n).px/\(∀b,aN b (G.g n).px->(G.g n).nl=false->b≠(G.g n).b):=by
     have cU:=hr.mode
     cases m with
     |aF=>exact absurd rfl hm
     |aj=>exact⟨fun b hb=>(cU.1 b hb).2.1,cU.2,fun b hb hl dM=>(H.own n bJ hl).1 (dM▸(cU.1 b hb).1)⟩
     |live=>exact⟨fun b hb=>(cU.1 b hb).2.1,cU.2,fun b hb hl=>H.live n gr rs xs hn b hb n bJ hl⟩
    obtain⟨o1,o2,o3⟩:=pJ
    have yY:∀b o,(if(G.g n).nl=true then(G.g n).na else some (ad (G.g n).b (G.g n).o))=some (ad b o)->¬aN b (G.g n).px:=by
     intro b o d8 hF
     cases hq:(G.g n).nl with
     |true=>rw[(hr.nl hq).1] at hF;obtain⟨k,j,c,⟨e,he,_⟩,_⟩:=hF;simp at he
     |false=>
      rw[hq] at d8
      simp at d8
      exact o3 b hF hq (lg d8).1.symm
    refine⟨lO rs (G.g n),X7 hr,ajS hr hs,⟨⟨.list _ _ _ _ o2.1 (fun b o k j c d8 hk hb=>yY b o d8 ⟨k,j,c,hk,hb⟩) o2.2,fun b hb=>?_,rs,_,_,_,rfl,hr.pos,yY,by rw[<-hr.er];exact iy⟩,ajR hr,
     gr,m,rs,xs,hn,hm,qR,rfl,iy⟩,rfl⟩
    rcases NW (fun hq=>(hr.nl hq).1) hb with⟨hl,rfl⟩|hF
    ·exact(hr.dv hl).1
    ·exact o1 b hF
   ·cases hx
  ·cases hx
 ·rename_i n k au off sz len
  split at hx
  ·rename_i gr rs xs hn
   split at hx
   ·rename_i cm
    obtain⟨rfl,rfl⟩:=cm
    split at hx
    ·rename_i s ys nf
     split at hx
     ·rename_i iy
      injection hx with hx
      injection hx with h1 h2
      subst h1 h2
      obtain⟨pc,p1,p2,p3⟩:=hc gr xs hn
      have hr:=H.row n gr .live rs xs hn
      have aE:(G.g n).nl=false:=by
       cases hq:(G.g n).nl with
       |false=>rfl
       |true=>obtain⟨e,he,_⟩:=p1;rw[(hr.nl hq).1] at he;simp at he
      have gO:Good w pc:=(hr.dv aE).2.1.2.2 _ _ _ p1
      have sx:pc.er=.list s ys:=by
       obtain⟨e,he,hj⟩:=p1
       rw[hr.er] at nf
       simp[he,hj] at nf
       exact nf
      have je:=hr.mode.2.1 _ _ _ p1
      cases pc with
      |int k n=>cases p3
      |bool b=>cases p3
      |list s' a' qy px'=>
       rw[PC.du] at sx
       injection sx with g1 g2
       subst g1
       have ib:fB (px'.map fun e=>e.map PC.er)=true:=by rw[g2];exact iy
       refine⟨_,by rw[PC.du,g2],p2,⟨⟨je,fun b hb=>(hr.mode.1 b ⟨k,off,_,p1,hb⟩).2.1,s',a',qy,px',rfl,?_,fun b o _ hF=>?_,ib⟩,gO,gr,rs,xs,hn,rfl,p1⟩,rfl⟩
       ·cases gO with
        |nil _ _ _ h=>exact h
        |cons _ _ _ _ _ _ _ h=>exact h
       ·obtain⟨kk,jj,c,⟨e,he,hj⟩,hc⟩:=hF
        have h6:=List.all_eq_true.1 ib (e.map PC.er) (by simp only[List.mem_map];exact⟨e,List.mem_of_getElem? he,rfl⟩)
        have h7:=List.all_eq_true.1 h6 c.er (by simp only[List.mem_map];exact⟨c,List.mem_of_getElem? hj,rfl⟩)
        exact(Sep.jI h7).2 b hc
     ·cases hx
    ·cases hx
   ·cases hx
  ·cases hx
 ·cases hx
theorem HR.Zw (H:HR B E w G h used []) {c:ae} {x:C} {v:Value} (hx:Am.bS h c=some x) (hc:RC w G h c v):
  ∃pc:PC,pc.er=x/\pc.val=v/\Good w pc/\∀b,aM b pc->G.Im b\/∃n gr m sz xs,c.de=some n/\h n=some (.row gr m sz xs)/\qJ G n b:=by
 cases c with
 |c y=>
  simp only[Am.bS] at hx
  injection hx with hx
  subst hx
  obtain⟨pc,h1,h2,h3,h4⟩:=hc
  exact⟨pc,h1,h2,h3,fun b hb=>.inl (h4 b hb)⟩
 |nil sz=>
  simp only[Am.bS] at hx
  split at hx
  ·rename_i dU
   injection hx with hx
   subst hx
   have cN:v=.slice none 0 0:=hc
   subst cN
   refine⟨.list sz none 0 [],by simp[PC.du],rfl,.nil _ _ _ dU,fun b hb=>?_⟩
   rw[aM.jk] at hb
   rcases hb with⟨hb,_⟩|⟨k,j,c,⟨e,he,_⟩,_⟩
   ·exact absurd rfl hb
   ·simp at he
  ·cases hx
 |sl n sz lo len=>
  simp only[Am.bS] at hx
  split at hx
  ·rename_i gr m rs xs hn
   split at hx
   ·rename_i cm
    obtain⟨rfl,hl⟩:=cm
    injection hx with hx
    subst hx
    have hs:gy (G.g n) rs lo len v:=hc (by rw[hn];simp)
    obtain⟨a1,a2,a3,a4⟩:=CU (H.row n gr m rs xs hn) hs hl
    exact⟨_,a1,a2,a3,fun b hb=>.inr ⟨n,gr,m,rs,xs,rfl,hn,a4 b hb⟩⟩
   ·cases hx
  ·cases hx
 |bj n k au off sz len=>
  simp only[Am.bS] at hx
  split at hx
  ·rename_i gr rs xs hn
   split at hx
   ·rename_i cm
    subst cm
    obtain⟨pc,p1,p2,p3⟩:=hc gr xs hn
    have hr:=H.row n gr .live rs xs hn
    have aE:(G.g n).nl=false:=by
     cases hq:(G.g n).nl with
     |false=>rfl
     |true=>obtain⟨e,he,_⟩:=p1;rw[(hr.nl hq).1] at he;simp at he
    refine⟨pc,?_,p2,(hr.dv aE).2.1.2.2 _ _ _ p1,fun b hb=>.inr ⟨n,gr,.live,rs,xs,rfl,hn,.inr ⟨k,off,pc,p1,hb⟩⟩⟩
    obtain⟨e,he,hj⟩:=p1
    rw[hr.er] at hx
    simp[he,hj] at hx
    exact hx
   ·cases hx
  ·cases hx
 |ptr _ _ _ _=>simp[Am.bS] at hx
 |bV _ _=>simp[Am.bS] at hx
 |bD _ _ _ _ _ _=>simp[Am.bS] at hx
 |fn _ _=>simp[Am.bS] at hx
 |cH _ _ _ _ _ _=>simp[Am.bS] at hx
 |bg=>simp[Am.bS] at hx
theorem UA {ns:List Nat} {n:Nat} {b:ak} (hx:dk h ns n=some b):h n=some b/\n∉ns:=by
 unfold dk at hx
 split at hx
 ·cases hx
 ·rename_i hc
  exact⟨hx,fun hm=>hc (by simpa using hm)⟩
theorem Zx {ns:List Nat} {c:ae} {x:C} (hx:bS (dk h ns) c=some x):bS h c=some x/\∀n,c.de=some n->n∉ns:=by
 cases c with
 |c y=>exact⟨hx,by intro n hn;cases hn⟩
 |nil sz=>exact⟨hx,by intro n hn;cases hn⟩
 |sl n sz lo len=>
  simp only[Am.bS] at hx
  split at hx
  ·rename_i gr m rs xs hn
   obtain⟨h1,h2⟩:=UA hn
   exact⟨by simp only[Am.bS,h1];exact hx,by intro q hq;injection hq with hq;subst hq;exact h2⟩
  ·cases hx
 |bj n k au off sz len=>
  simp only[Am.bS] at hx
  split at hx
  ·rename_i gr rs xs hn
   obtain⟨h1,h2⟩:=UA hn
   exact⟨by simp only[Am.bS,h1];exact hx,by intro q hq;injection hq with hq;subst hq;exact h2⟩
  ·cases hx
 |ptr _ _ _ _=>simp[Am.bS] at hx
 |bV _ _=>simp[Am.bS] at hx
 |bD _ _ _ _ _ _=>simp[Am.bS] at hx
 |fn _ _=>simp[Am.bS] at hx
 |cH _ _ _ _ _ _=>simp[Am.bS] at hx
 |bg=>simp[Am.bS] at hx
def Av (G:Gh) (h:Nat->Option ak) (ns:List Nat) (pc:PC):Prop:=
 ∀b,aM b pc->G.Im b\/∃n gr m sz xs,n∉ns/\h n=some (.row gr m sz xs)/\qJ G n b
structure io (B:Nat) (E:Ex) (w:World) (G:Gh) (h:Nat->Option ak) (its:List (ct×Mode)) (fl:List (Mode×PC)):Prop where
 len:its.length=fl.length
 at_:∀(i:Nat) (it:ct×Mode) (x:Mode×PC),its[i]? =some it->fl[i]? =some x->it.2=x.1/\qq B E w G h it.1 x.1 x.2
theorem io.nil:io B E w G h [] []:=⟨rfl,by intro i it x h;simp at h⟩
theorem io.cons {it:ct×Mode} {its:List (ct×Mode)} {x:Mode×PC} {fl:List (Mode×PC)} (h1:it.2=x.1) (h2:qq B E w G h it.1 x.1 x.2) (h3:io B E w G h its fl):io B E w G h (it::its) (x::fl):=by
 refine⟨by simp[h3.len],fun i wP x' hi hx=>?_⟩
 cases i with
 |zero=>simp at hi hx;subst hi;subst hx;exact⟨h1,h2⟩
 |succ i=>exact h3.at_ i wP x' (by simpa using hi) (by simpa using hx)
theorem io.append {its mA:List (ct×Mode)} {fl Td:List (Mode×PC)} (h1:io B E w G h its fl) (h2:io B E w G h mA Td):io B E w G h (its++mA) (fl++Td):=by
 refine⟨by simp[h1.len,h2.len],fun i it x hi hx=>?_⟩
 by_cases bB:i<its.length
 ·rw[List.getElem?_append_left bB] at hi
  rw[List.getElem?_append_left (by rw[<-h1.len];exact bB)] at hx
  exact h1.at_ i it x hi hx
 ·rw[List.getElem?_append_right (by omega)] at hi
  rw[List.getElem?_append_right (by rw[<-h1.len];omega)] at hx
  rw[h1.len] at hi
  exact h2.at_ _ it x hi hx
theorem HR.gS (H:HR B E w G h used []) {ns:List Nat}:∀{fs:List (Option Mode)} {cs:List ae} {xs:List C} {its:List (ct×Mode)} {vs:List Value},Am.gS h (dk h ns) fs cs=some (xs,its)->cL w G h cs vs->
  ∃ps:List PC,ps.map PC.er=xs/\ps.map PC.val=vs/\(∀pc∈ps,Good w pc)/\io B E w G h its (dC fs ps)/\its.filterMap (·.1.de)=ki fs cs/\∀pc∈k8 fs ps,Av G h ns pc
 |[],cs,xs,its,vs,hx,hc=>by
  simp only[Am.gS] at hx
  split at hx
  ·rename_i ys hy
   injection hx with hx
   injection hx with h1 h2
   subst h1 h2
   have bU:∀(cs:List ae) (xs:List C) (vs:List Value),Am.gZ (dk h ns) cs=some xs->cL w G h cs vs->∃ps:List PC,ps.map PC.er=xs/\ps.map PC.val=vs/\(∀pc∈ps,Good w pc)/\∀pc∈ps,Av G h ns pc:=by
    intro cs
    induction cs with
    |nil=>
     intro xs vs hx hc
     simp only[Am.gZ] at hx
     injection hx with hx
     subst hx
     have:vs=[]:=List.eq_nil_of_length_eq_zero (by simpa using hc.1)
     subst this
     exact⟨[],rfl,rfl,by simp,by simp⟩
    |cons c cs ih=>
     intro xs vs hx hc
     simp only[Am.gZ] at hx
     split at hx
     ·rename_i x ao e1 e2
      injection hx with hx
      subst hx
      obtain⟨hlen,bK⟩:=hc
      match vs,hlen with
      |v::vs,hlen=>
       obtain⟨v1,v2⟩:=Zx e1
       obtain⟨pc,a1,a2,a3,a4⟩:=H.Zw v1 (bK 0 c v rfl rfl).2
       obtain⟨ps,b1,b2,b3,b4⟩:=ih ao vs e2 ⟨by simpa using hlen,fun j c u h1 h2=>bK (j+1) c u h1 h2⟩
       refine⟨pc::ps,by simp[a1,b1],by simp[a2,b2],fun q hq=>?_,fun q hq=>?_⟩
       ·cases hq with
        |head=>exact a3
        |tail _ hq=>exact b3 q hq
       ·cases hq with
        |head=>exact fun b hb=>(a4 b hb).imp id fun⟨n,gr,m,sz,xs,hn,h1,h2⟩=>⟨n,gr,m,sz,xs,v2 n hn,h1,h2⟩
        |tail _ hq=>exact b4 q hq
     ·cases hx
   obtain⟨ps,b1,b2,b3,b4⟩:=bU cs ys vs hy hc
   exact⟨ps,b1,b2,b3,by simpa[dC] using io.nil,by simp[ki],by simpa[k8] using b4⟩
  ·cases hx
 |f::fs,[],xs,its,vs,hx,hc=>by cases f<;>simp[Am.gS] at hx
 |none::fs,c::cs,xs,its,vs,hx,hc=>by
  simp only[Am.gS] at hx
  split at hx
  ·rename_i x ao mA e1 e2
   injection hx with hx
   injection hx with h1 h2
   subst h1 h2
   obtain⟨hlen,bK⟩:=hc
   match vs,hlen with
   |v::vs,hlen=>
    obtain⟨v1,v2⟩:=Zx e1
    obtain⟨pc,a1,a2,a3,a4⟩:=H.Zw v1 (bK 0 c v rfl rfl).2
    obtain⟨ps,b1,b2,b3,b4,b5,b6⟩:=H.gS e2 (vs:=vs) ⟨by simpa using hlen,fun j c u h1 h2=>bK (j+1) c u h1 h2⟩
    refine⟨pc::ps,by simp[a1,b1],by simp[a2,b2],fun q hq=>?_,by simpa[dC] using b4,by simpa[ki] using b5,fun q hq=>?_⟩
    ·cases hq with
     |head=>exact a3
     |tail _ hq=>exact b3 q hq
    ·simp only[k8] at hq
     cases hq with
     |head=>exact fun b hb=>(a4 b hb).imp id fun⟨n,gr,m,sz,xs,hn,h1,h2⟩=>⟨n,gr,m,sz,xs,v2 n hn,h1,h2⟩
     |tail _ hq=>exact b6 q hq
  ·cases hx
 |some md::fs,c::cs,xs,its,vs,hx,hc=>by
  simp only[Am.gS] at hx
  split at hx
  ·rename_i it x ao mA e1 e2
   injection hx with hx
   injection hx with h1 h2
   subst h1 h2
   obtain⟨hlen,bK⟩:=hc
   match vs,hlen with
   |v::vs,hlen=>
    obtain⟨pc,a1,a2,a3,a4⟩:=H.item e1 (bK 0 c v rfl rfl).2
    obtain⟨ps,b1,b2,b3,b4,b5,b6⟩:=H.gS e2 (vs:=vs) ⟨by simpa using hlen,fun j c u h1 h2=>bK (j+1) c u h1 h2⟩
    refine⟨pc::ps,by simp[a1,b1],by simp[a2,b2],fun q hq=>?_,?_,?_,fun q hq=>b6 q (by simpa[k8] using hq)⟩
    ·cases hq with
     |head=>exact a3.dA
     |tail _ hq=>exact b3 q hq
    ·simp only[dC]
     exact io.cons rfl a3 b4
    ·simp only[ki,<-a4,<-b5]
     cases fC:it.de with
     |none=>simp[fC]
     |some n=>simp[fC]
  ·cases hx
theorem HR.jH (H:HR B E w G h used []) {ns:List Nat}:∀{as:List (Bool×List ae)} {sig:aJ} {ds:List Dv} {its:List (ct×Mode)} {vals:List Value},Am.jH h (dk h ns) sig as=some (ds,its)->vals.length=as.length->
  (∀(j:Nat) (x:Bool×List ae) (v:Value),as[j]? =some x->vals[j]? =some v->RV w G h x.1 x.2 v)->
  ∃aD:List PA,aD.length=ds.length/\vals.length=ds.length/\(∀(i:Nat) (d:Dv) (v:Value) (p:PA),ds[i]? =some d->vals[i]? =some v->aD[i]? =some p->rH w d v p)/\(∀p∈aD,p.k≠ .ptr)/\
   io B E w G h its (dr sig (aD.map (·.ps)))/\its.filterMap (·.1.de)=lK sig as/\∀pc∈jq sig (aD.map (·.ps)),Av G h ns pc
 |[],sig,ds,its,vals,hx,hl,hc=>by
  simp only[Am.jH] at hx
  injection hx with hx
  injection hx with h1 h2
  subst h1 h2
  refine⟨[],rfl,by simpa using hl,by simp,by simp,?_,?_,?_⟩
  ·cases sig<;>exact io.nil
  ·cases sig<;>rfl
  ·cases sig<;>simp[jq]
 |(ag,cs)::as,sig,ds,its,vals,hx,hl,hc=>by
  simp only[Am.jH] at hx
  split at hx
  ·rename_i xs Cg r9 Ci e1 e2
   injection hx with hx
   injection hx with h1 h2
   subst h1 h2
   match vals,hl with
   |v::vals,hl=>
    have h0:=hc 0 (ag,cs) v rfl rfl
    obtain⟨q1,q2,q3,q4,q5,q6,q7⟩:=H.jH e2 (as:=as) (vals:=vals) (by simpa using hl) (fun j x v h1 h2=>hc (j+1) x v h1 h2)
    obtain⟨vs,od,hR⟩:∃vs:List Value,(if ag=true then v=.agg vs.toArray else vs=[v])/\cL w G h cs vs:=by
     unfold RV at h0
     split at h0
     ·rename_i aW
      obtain⟨vs,e,hR⟩:=h0
      exact⟨vs,by rw[if_pos aW];exact e,hR⟩
     ·rename_i aW
      exact⟨[v],by rw[if_neg aW],h0⟩
    obtain⟨ps,p1,p2,p3,p4,p5,p6⟩:=H.gS e1 hR
    refine⟨⟨if ag=true then .agg else .one,ps,0,0⟩::q1,by simp[q2],by simp[q3],fun i d v' p hd hv hp=>?_,fun p hp=>?_,?_,?_,?_⟩
    ·cases i with
     |zero=>
      simp at hd hv hp
      subst hd hv hp
      cases ag with
      |true=>
       simp only[if_true] at od⊢
       exact⟨by rw[p1],p3,by simp only[p2];exact od⟩
      |false=>
       simp only[if_false,Bool.false_eq_true] at od⊢
       exact⟨by rw[p1],p3,by simp only[p2];exact od⟩
     |succ i=>exact q4 i d v' p (by simpa using hd) (by simpa using hv) (by simpa using hp)
    ·cases hp with
     |head=>cases ag<;>simp
     |tail _ hp=>exact q5 p hp
    ·cases sig with
     |nil=>
      have e3:dC (aJ.hd ([]:aJ)) ps=[]:=rfl
      rw[e3] at p4
      have e4:Cg=[]:=List.eq_nil_of_length_eq_zero p4.len
      subst e4
      have e5:dr (aJ.tl ([]:aJ)) (q1.map (·.ps))=[]:=rfl
      rw[e5] at q6
      have e6:Ci=[]:=List.eq_nil_of_length_eq_zero q6.len
      subst e6
      exact io.nil
     |cons s sig=>exact io.append p4 q6
    ·cases sig with
     |nil=>
      have e3:dC (aJ.hd ([]:aJ)) ps=[]:=rfl
      rw[e3] at p4
      have e4:Cg=[]:=List.eq_nil_of_length_eq_zero p4.len
      subst e4
      have e5:dr (aJ.tl ([]:aJ)) (q1.map (·.ps))=[]:=rfl
      rw[e5] at q6
      have e6:Ci=[]:=List.eq_nil_of_length_eq_zero q6.len
      subst e6
      rfl
     |cons s sig=>
      rw[List.filterMap_append,p5,q7.1]
      rfl
    ·intro pc bc
     cases sig with
     |nil=>
      simp only[List.map_cons,jq,List.flatten_cons,List.mem_append] at bc
      rcases bc with bc|bc
      ·exact p6 pc bc
      ·exact q7.2 pc (by simpa[jq,aJ.tl] using bc)
     |cons s sig=>
      simp only[List.map_cons,jq,List.mem_append] at bc
      rcases bc with bc|bc
      ·exact p6 pc bc
      ·exact q7.2 pc bc
  ·cases hx
end
end Go.Am
