/- AmN: calls that change lists of their arguments: what becomes of the caller's names. No condition. -/
import Derived.Test.YtifmggmhdcdgbaaAmM
set_option linter.unusedVariables false
namespace Go.Am
section
variable {B:Nat} {E:Ex} {w0 w w':World} {G G':Gh} {N:Nat} {h h':Nat->Option ar} {used:Nat->Bool}
variable {P:Program} {o:Oper} {a:Act} {σ σ':St} {Q:Exit->Act->World->Prop}
structure Fj (w':World) (p p':PB) (gr:Bool) (m:Mode) (sz:Nat) (au:List (List C)):Prop where
 m1:m≠ .aE
 fl:(∀b,¬aR b p.px)\/m=.live
 nl:p'.nl=p.nl
 b:p'.b=p.b
 o:p'.o=p.o
 cap:p'.cap=p.cap
 na:p'.na=p.na
 er:au=p'.px.map (fun e=>e.map PC.er)
 nlx:p.nl=true->p'.px=[]
 dq:p.nl=false->n5 w' p.b p.o sz p'.px/\p'.px.length<=p.cap
 sep:gI p'.px
 sub:∀b,aR b p'.px->aR b p.px
 live:m=.live->∀k j pc,At p.px k j pc->pc.fV=true->∃cR,At p'.px k j cR/\cR.val=pc.val/\cR.fV=true
theorem HR.QS (H:HR B E w G h used []) {S:Nat->Prop} (bA:w.heap.size<=w'.heap.size)
  (hw:∀b,b<w.heap.size->(∀n,S n->¬rS G n b)->w'.heap[b]? =w.heap[b]?) (kU:∀b,b<w.heap.size->Cz w w' b) (lF:G'.Im=G.Im)
  (hS:∀n,S n->∃gr m sz xs au,h n=some (.row gr m sz xs)/\h' n=some (.row gr m sz au)/\Fj w' (G.g n) (G'.g n) gr m sz au)
  (hN:∀n,¬S n->h' n=h n/\G'.g n=G.g n):HR B E w' G' h' used []/\aV w G h (fun n=>used n=true) w' G' h'/\∀n b,aR b (G'.g n).px->aR b (G.g n).px:=by
 have ne:∀n,h' n≠none->h n≠none:=by
  intro n hn
  by_cases hs:S n
  ·obtain⟨gr,m,sz,xs,au,e1,e2,_⟩:=hS n hs
   rw[e1];simp
  ·rwa[(hN n hs).1] at hn
 have fq:∀n,(G'.g n).nl=(G.g n).nl/\(G'.g n).b=(G.g n).b/\(G'.g n).o=(G.g n).o/\(G'.g n).cap=(G.g n).cap/\(G'.g n).na=(G.g n).na:=by
  intro n
  by_cases hs:S n
  ·obtain⟨gr,m,sz,xs,au,e1,e2,c⟩:=hS n hs
   exact⟨c.nl,c.b,c.o,c.cap,c.na⟩
  ·rw[(hN n hs).2];exact⟨rfl,rfl,rfl,rfl,rfl⟩
 have sub:∀n b,aR b (G'.g n).px->aR b (G.g n).px:=by
  intro n b hb
  by_cases hs:S n
  ·obtain⟨gr,m,sz,xs,au,e1,e2,c⟩:=hS n hs
   exact c.sub b hb
  ·rwa[(hN n hs).2] at hb
 have lZ:∀n gr m sz au,h' n=some (.row gr m sz au)->∃xs,h n=some (.row gr m sz xs):=by
  intro n gr m sz au hn
  by_cases hs:S n
  ·obtain⟨HO,m1,wW,xs,uN,e1,e2,_⟩:=hS n hs
   rw[e2] at hn
   injection hn with hn
   injection hn with a1 a2 a3 a4
   subst a1 a2 a3
   exact⟨xs,e1⟩
  ·rw[(hN n hs).1] at hn;exact⟨au,hn⟩
 have Vn:∀n cs,h' n=some (.box cs)->h n=some (.box cs)/\¬S n:=by
  intro n cs hn
  by_cases hs:S n
  ·obtain⟨HO,m1,wW,xs,uN,e1,e2,_⟩:=hS n hs
   rw[e2] at hn;cases hn
  ·rw[(hN n hs).1] at hn;exact⟨hn,hs⟩
 have aiz:∀b,G.Im b->w'.heap[b]? =w.heap[b]? :=by
  intro b hb
  refine hw b (H.fk b hb) fun n hs hf=>?_
  obtain⟨gr,m,sz,xs,au,e1,e2,c⟩:=hS n hs
  rcases hf with⟨hl,rfl⟩|hF
  ·exact(H.own n (by rw[e1];simp) hl).1 hb
  ·rcases c.fl with c1|rfl
   ·exact c1 b hF
   ·exact((H.row n gr .live sz xs e1).mode.1 b hF).1 hb
 have OZ:∀n,¬S n->h n≠none->(G.g n).nl=false->w'.heap[(G.g n).b]? =w.heap[(G.g n).b]? :=by
  intro n hs hn hl
  refine hw _ (H.own n hn hl).2.2 fun q hq hf=>?_
  obtain⟨gr,m,sz,xs,au,e1,e2,c⟩:=hS q hq
  have aA:n≠q:=fun e=>hs (e▸hq)
  rcases hf with⟨Di,hb⟩|hF
  ·exact H.inj n q hn (by rw[e1];simp) aA hl Di hb
  ·rcases c.fl with c1|rfl
   ·exact c1 _ hF
   ·exact H.live q gr sz xs e1 _ hF n hn hl rfl
 have aiA:∀n gr m sz xs,¬S n->h n=some (.row gr m sz xs)->∀b,aR b (G.g n).px->w'.heap[b]? =w.heap[b]? :=by
  intro n gr m sz xs hs hn b hb
  refine hw _ (H.qd hn hb) fun q hq hf=>?_
  obtain⟨bf,m',aK,uN,ab7,e1,e2,c⟩:=hS q hq
  have aA:n≠q:=fun e=>hs (e▸hq)
  exact H.HJ aA hn e1 c.fl (.inr hb) hf
 have K:aV w G h (fun n=>used n=true) w' G' h':=by
  refine⟨fun b hb=>by rw[lF];exact hb,fun b hb o=>gW (aiz b hb) o,fun n _ hn=>⟨ne n hn,fq n⟩,fun n gr sz au _ hn=>?_⟩
  obtain⟨xs,e⟩:=lZ n gr .live sz au hn
  refine⟨⟨gr,xs,e⟩,fun k j pc hk hL=>?_⟩
  by_cases hs:S n
  ·obtain⟨HO,m1,wW,uN,ab7,e1,e2,c⟩:=hS n hs
   rw[e] at e1
   injection e1 with e1
   injection e1 with _ e1 _ _
   exact c.live e1.symm k j pc hk hL
  ·rw[(hN n hs).2];exact⟨pc,hk,rfl,hL⟩
 refine⟨⟨fun n hn=>H.iq n (ne n hn),fun m cs c n hm=>H.f8 m cs c n (Vn m cs hm).1,fun n cs hn=>?_,fun n gr m sz au hn=>?_,fun n hn hl=>?_,fun n n' hn bh aA hl dm=>?_,
  fun b hb=>?_,fun b hb=>H.oH b (by rw[lF] at hb;exact hb),fun n n' gr m sz xs bf m' aK au hn bh hm bz aA b hb aU=>?_,fun n gr sz xs hn b hb n' bh hl=>?_,?_,?_,?_⟩,K,sub⟩
 ·obtain⟨h1,hs⟩:=Vn n cs hn
  obtain⟨a1,a2,a3⟩:=H.box n cs h1
  have hb:=OZ n hs (by rw[h1];simp) a1
  rw[(hN n hs).2]
  refine⟨a1,a2.congr hb,fun j c hj=>?_⟩
  obtain⟨v,v1,v2,v3⟩:=a3 j c hj
  exact⟨v,(gW hb _).trans v1,v2,v3.ek K fun q hq=>H.f8 n cs c q h1 (List.mem_of_getElem? hj) hq⟩
 ·by_cases hs:S n
  ·obtain⟨HO,m1,wW,uN,ab7,e1,e2,c⟩:=hS n hs
   rw[e2] at hn
   injection hn with hn
   injection hn with q1 q2 q3 q4
   subst q1 q2 q3 q4
   have hr:=H.row n HO m1 wW uN e1
   refine⟨hr.pos,c.er,fun hl=>?_,fun hl=>?_,fun hl hg=>?_,?_⟩
   ·rw[c.nl] at hl
    refine⟨c.nlx hl,fun hg=>?_⟩
    rw[c.cap]
    exact(hr.nl hl).2 hg
   ·rw[c.nl] at hl
    obtain⟨l1,l2,l3⟩:=hr.dq hl
    obtain⟨c1,c2⟩:=c.dq hl
    rw[c.b,c.o,c.cap]
    exact⟨(kU _ l1.lt).jT l1,c1,c2⟩
   ·rw[c.nl] at hl
    obtain⟨r2,cur,e,r3,r4⟩:=hr.room hl hg
    obtain⟨iK,s1,s2⟩:=kU (G.g n).b (H.own n (by rw[e1];simp) hl).2.2 cur e r3
    unfold FH
    rw[c.b,c.o,c.cap]
    exact⟨r2,iK,e,s1,s2.trans r4⟩
   ·have hm:=hr.mode
    cases m1 with
    |aE=>exact absurd rfl c.m1
    |aa=>exact⟨fun b hb=>by
     have aU:=c.sub b hb
     have:=hm.1 b aU
     exact⟨by rw[lF];exact this.1,(kU b this.2.1.lt).jT this.2.1,this.2.2⟩,c.sep⟩
    |live=>exact⟨fun b hb=>by
     have aU:=c.sub b hb
     have:=hm.1 b aU
     exact⟨by rw[lF];exact this.1,(kU b this.2.1.lt).jT this.2.1,this.2.2⟩,c.sep⟩
  ·rw[(hN n hs).1] at hn
   rw[(hN n hs).2]
   have hr:=H.row n gr m sz au hn
   have jh:=aiA n gr m sz au hs hn
   refine⟨hr.pos,hr.er,hr.nl,fun hl=>?_,fun hl hg=>?_,?_⟩
   ·obtain⟨l1,l2,l3⟩:=hr.dq hl
    have hb:=OZ n hs (by rw[hn];simp) hl
    exact⟨l1.congr hb,l2.congr (fun o=>gW hb o) (fun b' aU o=>gW (jh b' aU) o),l3⟩
   ·obtain⟨r2,cur,e,r3,r4⟩:=hr.room hl hg
    exact⟨r2,cur,e,(OZ n hs (by rw[hn];simp) hl).trans r3,r4⟩
   ·have hm:=hr.mode
    cases m with
    |aE=>exact fun b hb=>by rw[lF];exact hm b hb
    |aa=>exact⟨fun b hb=>⟨by rw[lF];exact(hm.1 b hb).1,(hm.1 b hb).2.1.congr (jh b hb),(hm.1 b hb).2.2⟩,hm.2⟩
    |live=>exact⟨fun b hb=>⟨by rw[lF];exact(hm.1 b hb).1,(hm.1 b hb).2.1.congr (jh b hb),(hm.1 b hb).2.2⟩,hm.2⟩
 ·obtain⟨s1,s2,s3,s4,s5⟩:=fq n
  rw[s1] at hl
  rw[s2]
  obtain⟨o1,o2,o3⟩:=H.own n (ne n hn) hl
  exact⟨by rw[lF];exact o1,o2,Nat.lt_of_lt_of_le o3 bA⟩
 ·rw[(fq n).1] at hl
  rw[(fq n').1] at dm
  rw[(fq n).2.1,(fq n').2.1]
  exact H.inj n n' (ne n hn) (ne n' bh) aA hl dm
 ·rw[lF] at hb
  exact Nat.lt_of_lt_of_le (H.fk b hb) bA
 ·obtain⟨x1,e1⟩:=lZ n gr m sz xs hn
  obtain⟨x2,e2⟩:=lZ n' bf m' aK au bh
  exact H.e7 n n' gr m sz x1 bf m' aK x2 e1 e2 hm bz aA b (sub n b hb) (sub n' b aU)
 ·obtain⟨x1,e1⟩:=lZ n gr .live sz xs hn
  rw[(fq n').1] at hl
  rw[(fq n').2.1]
  exact H.live n gr sz x1 e1 b (sub n b hb) n' (ne n' bh) hl
 ·intro i pc hi;simp at hi
 ·intro i j pc cR b _ hi;simp at hi
 ·intro i pc n gr m sz xs b hi;simp at hi
def Ci (σ σ1:St) (it:cQ) (x:C):Prop:=
 match it with
 |.nil _=>True
 |.row n=>∃gr m rs xs au,σ.h n=some (.row gr m rs xs)/\x=.list rs au/\σ1.h n=some (.row gr m rs au)
 |.nest n k off=>∃gr m rs xs e,σ.h n=some (.row gr m rs xs)/\xs[k]? =some e/\σ1.h n=some (.row gr m rs (xs.set k (e.set off x)))
theorem amI {it:cQ} {x:C} {σ1:St} (hx:σ.mV it x=some σ1):σ1.env=σ.env/\σ1.used=σ.used/\(∀n,it.dr≠some n->σ1.h n=σ.h n)/\Ci σ σ1 it x:=by
 cases it with
 |nil sz=>simp only[St.mV] at hx;injection hx with hx;subst hx;exact⟨rfl,rfl,fun _ _=>rfl,trivial⟩
 |row n=>
  cases x with
  |int k i=>simp[St.mV] at hx
  |bool b=>simp[St.mV] at hx
  |list sz xs=>
   simp only[St.mV] at hx
   split at hx
   ·rename_i gr m rs jX hn
    split at hx
    ·rename_i e
     injection hx with hx
     subst hx
     subst e
     exact⟨rfl,rfl,fun q hq=>bS _ _ _ _ (fun e=>hq (by rw[e];rfl)),gr,m,rs,jX,xs,hn,rfl,bw _ _ _⟩
    ·cases hx
   ·cases hx
 |nest n k off=>
  simp only[St.mV] at hx
  split at hx
  ·rename_i gr m rs xs hn
   split at hx
   ·rename_i e he
    injection hx with hx
    subst hx
    exact⟨rfl,rfl,fun q hq=>bS _ _ _ _ (fun e=>hq (by rw[e];rfl)),gr,m,rs,xs,e,hn,he,bw _ _ _⟩
   ·cases hx
  ·cases hx
theorem Ci.congr {σ σ1 τ nV:St} {it:cQ} {x:C} (hx:Ci σ σ1 it x) (h1:∀n,it.dr=some n->τ.h n=σ.h n) (h2:∀n,it.dr=some n->nV.h n=σ1.h n):Ci τ nV it x:=by
 cases it with
 |nil sz=>trivial
 |row n=>obtain⟨gr,m,rs,xs,au,e1,e2,e3⟩:=hx;exact⟨gr,m,rs,xs,au,(h1 n rfl).trans e1,e2,(h2 n rfl).trans e3⟩
 |nest n k off=>obtain⟨gr,m,rs,xs,e,e1,e2,e3⟩:=hx;exact⟨gr,m,rs,xs,e,(h1 n rfl).trans e1,e2,(h2 n rfl).trans e3⟩
theorem Ms {it:cQ×Mode} {its:List (cQ×Mode)} (h:it.1.dr=none):(it::its).filterMap (·.1.dr)=its.filterMap (·.1.dr):=List.filterMap_cons_none h
theorem zW {it:cQ×Mode} {its:List (cQ×Mode)} {n:Nat} (h:it.1.dr=some n):(it::its).filterMap (·.1.dr)=n::its.filterMap (·.1.dr):=List.filterMap_cons_some h
theorem aac:∀{its:List (cQ×Mode)} {dZ:List C} {σ σ1:St},σ.oS its dZ=some σ1->(its.filterMap (·.1.dr)).Nodup->σ1.env=σ.env/\σ1.used=σ.used/\
  (∀n,n∉its.filterMap (·.1.dr)->σ1.h n=σ.h n)/\∀(i:Nat) (it:cQ×Mode) (x:C),its[i]? =some it->dZ[i]? =some x->Ci σ σ1 it.1 x
 |[],[],σ,σ1,hx,fJ=>by
  simp only[St.oS] at hx
  injection hx with hx
  subst hx
  exact⟨rfl,rfl,fun _ _=>rfl,by intro i it x h;simp at h⟩
 |it::its,x::dZ,σ,σ2,hx,fJ=>by
  simp only[St.oS] at hx
  split at hx
  ·rename_i σ1 e1
   obtain⟨p1,p2,p3,p4⟩:=amI e1
   have vG:(its.filterMap (·.1.dr)).Nodup:=by
    cases hn:it.1.dr with
    |none=>rw[Ms hn] at fJ;exact fJ
    |some n=>rw[zW hn] at fJ;exact(List.nodup_cons.1 fJ).2
   have nt:∀n,it.1.dr=some n->n∉its.filterMap (·.1.dr):=by
    intro n hn
    rw[zW hn] at fJ
    exact(List.nodup_cons.1 fJ).1
   obtain⟨q1,q2,q3,q4⟩:=aac hx vG
   refine⟨q1.trans p1,q2.trans p2,fun n hn=>?_,fun i yw x' hi eg=>?_⟩
   ·have h1:it.1.dr≠some n:=by
     intro e
     rw[zW e] at hn
     exact hn (by simp)
    have h2:n∉its.filterMap (·.1.dr):=by
     intro hm
     apply hn
     cases hq:it.1.dr with
     |none=>rw[Ms hq];exact hm
     |some q=>rw[zW hq];exact List.mem_cons_of_mem _ hm
    exact(q3 n h2).trans (p3 n h1)
   ·cases i with
    |zero=>
     simp at hi eg
     subst hi
     subst eg
     exact p4.congr (fun _ _=>rfl) (fun n hn=>q3 n (nt n hn))
    |succ i=>
     have hi':its[i]? =some yw:=by simpa using hi
     refine(q4 i yw x' hi' (by simpa using eg)).congr (fun n hn=>?_) (fun _ _=>rfl)
     refine(p3 n ?_).symm
     intro e
     refine nt n e ?_
     rw[List.mem_filterMap]
     exact⟨yw,List.mem_of_getElem? hi',hn⟩
  ·cases hx
 |[],_::_,σ,σ1,hx,_=>by simp[St.oS] at hx
 |_::_,[],σ,σ1,hx,_=>by simp[St.oS] at hx
theorem JM:∀{its:List (cQ×Mode)},(its.filterMap (·.1.dr)).Nodup->∀{i j:Nat} {x y:cQ×Mode} {n:Nat},its[i]? =some x->its[j]? =some y->x.1.dr=some n->y.1.dr=some n->i=j
 |[],_,i,j,x,y,n,hi,_,_,_=>by simp at hi
 |it::its,fJ,i,j,x,y,n,hi,hj,hx,hy=>by
  have vG:(its.filterMap (·.1.dr)).Nodup:=by
   cases hn:it.1.dr with
   |none=>rw[Ms hn] at fJ;exact fJ
   |some n=>rw[zW hn] at fJ;exact(List.nodup_cons.1 fJ).2
  have nt:∀n,it.1.dr=some n->∀(k:Nat) (z:cQ×Mode),its[k]? =some z->z.1.dr≠some n:=by
   intro n hn k z hk e
   rw[zW hn] at fJ
   exact(List.nodup_cons.1 fJ).1 (List.mem_filterMap.2 ⟨z,List.mem_of_getElem? hk,e⟩)
  cases i with
  |zero=>
   cases j with
   |zero=>rfl
   |succ j=>
    simp at hi hj
    subst hi
    exact absurd hy (nt n hx j y hj)
  |succ i=>
   cases j with
   |zero=>
    simp at hi hj
    subst hj
    exact absurd hx (nt n hy i x hi)
   |succ j=>exact congrArg (·+1) (JM vG (i:=i) (j:=j) (by simpa using hi) (by simpa using hj) hx hy)
end
end Go.Am
