/- AmN: calls that change lists of their arguments: what becomes of the caller's names. No condition. -/
import Derived.Test.YtbgmbplglejidaaAmM
set_option linter.unusedVariables false
namespace Go.Am
section
variable {B:Nat} {E:Ex} {w0 w w':World} {G G':Gh} {N:Nat} {h h':Nat->Option ar} {used:Nat->Bool}
variable {P:Program} {o:Oper} {a:Act} {σ σ':St} {Q:Exit->Act->World->Prop}
structure GZ (w':World) (p p':PB) (gr:Bool) (m:Mode) (sz:Nat) (au:List (List C)):Prop where
 m1:m≠ .aG
 fl:(∀b,¬aZ b p.px)\/m=.live
 nl:p'.nl=p.nl
 b:p'.b=p.b
 o:p'.o=p.o
 cap:p'.cap=p.cap
 na:p'.na=p.na
 er:au=p'.px.map (fun e=>e.map PC.er)
 nlx:p.nl=true->p'.px=[]
 dW:p.nl=false->pB w' p.b p.o sz p'.px/\p'.px.length<=p.cap
 sep:iI p'.px
 sub:∀b,aZ b p'.px->aZ b p.px
 live:m=.live->∀k j pc,At p.px k j pc->pc.gW=true->∃dq,At p'.px k j dq/\dq.val=pc.val/\dq.gW=true
theorem HR.KQ (H:HR B E w G h used []) {S:Nat->Prop} (bP:w.heap.size<=w'.heap.size)
  (hw:∀b,b<w.heap.size->(∀n,S n->¬r5 G n b)->w'.heap[b]? =w.heap[b]?) (mH:∀b,b<w.heap.size->Cz w w' b) (m5:G'.Im=G.Im)
  (hS:∀n,S n->∃gr m sz xs au,h n=some (.row gr m sz xs)/\h' n=some (.row gr m sz au)/\GZ w' (G.g n) (G'.g n) gr m sz au)
  (hN:∀n,¬S n->h' n=h n/\G'.g n=G.g n):HR B E w' G' h' used []/\bf w G h (fun n=>used n=true) w' G' h'/\∀n b,aZ b (G'.g n).px->aZ b (G.g n).px:=by
 have ne:∀n,h' n≠none->h n≠none:=by
  intro n hn
  by_cases hs:S n
  ·obtain⟨gr,m,sz,xs,au,e1,e2,_⟩:=hS n hs
   rw[e1];simp
  ·rwa[(hN n hs).1] at hn
 have gu:∀n,(G'.g n).nl=(G.g n).nl/\(G'.g n).b=(G.g n).b/\(G'.g n).o=(G.g n).o/\(G'.g n).cap=(G.g n).cap/\(G'.g n).na=(G.g n).na:=by
  intro n
  by_cases hs:S n
  ·obtain⟨gr,m,sz,xs,au,e1,e2,c⟩:=hS n hs
   exact⟨c.nl,c.b,c.o,c.cap,c.na⟩
  ·rw[(hN n hs).2];exact⟨rfl,rfl,rfl,rfl,rfl⟩
 have sub:∀n b,aZ b (G'.g n).px->aZ b (G.g n).px:=by
  intro n b hb
  by_cases hs:S n
  ·obtain⟨gr,m,sz,xs,au,e1,e2,c⟩:=hS n hs
   exact c.sub b hb
  ·rwa[(hN n hs).2] at hb
 have nA:∀n gr m sz au,h' n=some (.row gr m sz au)->∃xs,h n=some (.row gr m sz xs):=by
  intro n gr m sz au hn
  by_cases hs:S n
  ·obtain⟨JQ,m1,sM,xs,rK,e1,e2,_⟩:=hS n hs
   rw[e2] at hn
   injection hn with hn
   injection hn with a1 a2 a3 a4
   subst a1 a2 a3
   exact⟨xs,e1⟩
  ·rw[(hN n hs).1] at hn;exact⟨au,hn⟩
 have Yi:∀n cs,h' n=some (.box cs)->h n=some (.box cs)/\¬S n:=by
  intro n cs hn
  by_cases hs:S n
  ·obtain⟨JQ,m1,sM,xs,rK,e1,e2,_⟩:=hS n hs
   rw[e2] at hn;cases hn
  ·rw[(hN n hs).1] at hn;exact⟨hn,hs⟩
 have ama:∀b,G.Im b->w'.heap[b]? =w.heap[b]? :=by
  intro b hb
  refine hw b (H.gi b hb) fun n hs hf=>?_
  obtain⟨gr,m,sz,xs,au,e1,e2,c⟩:=hS n hs
  rcases hf with⟨hl,rfl⟩|hF
  ·exact(H.own n (by rw[e1];simp) hl).1 hb
  ·rcases c.fl with c1|rfl
   ·exact c1 b hF
   ·exact((H.row n gr .live sz xs e1).mode.1 b hF).1 hb
 have Q0:∀n,¬S n->h n≠none->(G.g n).nl=false->w'.heap[(G.g n).b]? =w.heap[(G.g n).b]? :=by
  intro n hs hn hl
  refine hw _ (H.own n hn hl).2.2 fun q hq hf=>?_
  obtain⟨gr,m,sz,xs,au,e1,e2,c⟩:=hS q hq
  have aD:n≠q:=fun e=>hs (e▸hq)
  rcases hf with⟨zk,hb⟩|hF
  ·exact H.inj n q hn (by rw[e1];simp) aD hl zk hb
  ·rcases c.fl with c1|rfl
   ·exact c1 _ hF
   ·exact H.live q gr sz xs e1 _ hF n hn hl rfl
 have amb:∀n gr m sz xs,¬S n->h n=some (.row gr m sz xs)->∀b,aZ b (G.g n).px->w'.heap[b]? =w.heap[b]? :=by
  intro n gr m sz xs hs hn b hb
  refine hw _ (H.rz hn hb) fun q hq hf=>?_
  obtain⟨bo,m',aJ,rK,aeV,e1,e2,c⟩:=hS q hq
  have aD:n≠q:=fun e=>hs (e▸hq)
  exact H.EW aD hn e1 c.fl (.inr hb) hf
 have K:bf w G h (fun n=>used n=true) w' G' h':=by
  refine⟨fun b hb=>by rw[m5];exact hb,fun b hb o=>ja (ama b hb) o,fun n _ hn=>⟨ne n hn,gu n⟩,fun n gr sz au _ hn=>?_⟩
  obtain⟨xs,e⟩:=nA n gr .live sz au hn
  refine⟨⟨gr,xs,e⟩,fun k j pc hk hL=>?_⟩
  by_cases hs:S n
  ·obtain⟨JQ,m1,sM,rK,aeV,e1,e2,c⟩:=hS n hs
   rw[e] at e1
   injection e1 with e1
   injection e1 with _ e1 _ _
   exact c.live e1.symm k j pc hk hL
  ·rw[(hN n hs).2];exact⟨pc,hk,rfl,hL⟩
 refine⟨⟨fun n hn=>H.jc n (ne n hn),fun m cs c n hm=>H.g8 m cs c n (Yi m cs hm).1,fun n cs hn=>?_,fun n gr m sz au hn=>?_,fun n hn hl=>?_,fun n n' hn bm aD hl dQ=>?_,
  fun b hb=>?_,fun b hb=>H.pZ b (by rw[m5] at hb;exact hb),fun n n' gr m sz xs bo m' aJ au hn bm hm bO aD b hb be=>?_,fun n gr sz xs hn b hb n' bm hl=>?_,?_,?_,?_⟩,K,sub⟩
 ·obtain⟨h1,hs⟩:=Yi n cs hn
  obtain⟨a1,a2,a3⟩:=H.box n cs h1
  have hb:=Q0 n hs (by rw[h1];simp) a1
  rw[(hN n hs).2]
  refine⟨a1,a2.congr hb,fun j c hj=>?_⟩
  obtain⟨v,v1,v2,v3⟩:=a3 j c hj
  exact⟨v,(ja hb _).trans v1,v2,v3.ft K fun q hq=>H.g8 n cs c q h1 (List.mem_of_getElem? hj) hq⟩
 ·by_cases hs:S n
  ·obtain⟨JQ,m1,sM,rK,aeV,e1,e2,c⟩:=hS n hs
   rw[e2] at hn
   injection hn with hn
   injection hn with q1 q2 q3 q4
   subst q1 q2 q3 q4
   have hr:=H.row n JQ m1 sM rK e1
   refine⟨hr.pos,c.er,fun hl=>?_,fun hl=>?_,fun hl hg=>?_,?_⟩
   ·rw[c.nl] at hl
    refine⟨c.nlx hl,fun hg=>?_⟩
    rw[c.cap]
    exact(hr.nl hl).2 hg
   ·rw[c.nl] at hl
    obtain⟨l1,l2,l3⟩:=hr.dW hl
    obtain⟨c1,c2⟩:=c.dW hl
    rw[c.b,c.o,c.cap]
    exact⟨(mH _ l1.lt).jq l1,c1,c2⟩
   ·rw[c.nl] at hl
    obtain⟨r2,cur,e,r3,r4⟩:=hr.room hl hg
    obtain⟨jP,s1,s2⟩:=mH (G.g n).b (H.own n (by rw[e1];simp) hl).2.2 cur e r3
    unfold HD
    rw[c.b,c.o,c.cap]
    exact⟨r2,jP,e,s1,s2.trans r4⟩
   ·have hm:=hr.mode
    cases m1 with
    |aG=>exact absurd rfl c.m1
    |ae=>exact⟨fun b hb=>by
     have be:=c.sub b hb
     have:=hm.1 b be
     exact⟨by rw[m5];exact this.1,(mH b this.2.1.lt).jq this.2.1,this.2.2⟩,c.sep⟩
    |live=>exact⟨fun b hb=>by
     have be:=c.sub b hb
     have:=hm.1 b be
     exact⟨by rw[m5];exact this.1,(mH b this.2.1.lt).jq this.2.1,this.2.2⟩,c.sep⟩
  ·rw[(hN n hs).1] at hn
   rw[(hN n hs).2]
   have hr:=H.row n gr m sz au hn
   have fo:=amb n gr m sz au hs hn
   refine⟨hr.pos,hr.er,hr.nl,fun hl=>?_,fun hl hg=>?_,?_⟩
   ·obtain⟨l1,l2,l3⟩:=hr.dW hl
    have hb:=Q0 n hs (by rw[hn];simp) hl
    exact⟨l1.congr hb,l2.congr (fun o=>ja hb o) (fun b' be o=>ja (fo b' be) o),l3⟩
   ·obtain⟨r2,cur,e,r3,r4⟩:=hr.room hl hg
    exact⟨r2,cur,e,(Q0 n hs (by rw[hn];simp) hl).trans r3,r4⟩
   ·have hm:=hr.mode
    cases m with
    |aG=>exact fun b hb=>by rw[m5];exact hm b hb
    |ae=>exact⟨fun b hb=>⟨by rw[m5];exact(hm.1 b hb).1,(hm.1 b hb).2.1.congr (fo b hb),(hm.1 b hb).2.2⟩,hm.2⟩
    |live=>exact⟨fun b hb=>⟨by rw[m5];exact(hm.1 b hb).1,(hm.1 b hb).2.1.congr (fo b hb),(hm.1 b hb).2.2⟩,hm.2⟩
 ·obtain⟨s1,s2,s3,s4,s5⟩:=gu n
  rw[s1] at hl
  rw[s2]
  obtain⟨o1,o2,o3⟩:=H.own n (ne n hn) hl
  exact⟨by rw[m5];exact o1,o2,Nat.lt_of_lt_of_le o3 bP⟩
 ·rw[(gu n).1] at hl
  rw[(gu n').1] at dQ
  rw[(gu n).2.1,(gu n').2.1]
  exact H.inj n n' (ne n hn) (ne n' bm) aD hl dQ
 ·rw[m5] at hb
  exact Nat.lt_of_lt_of_le (H.gi b hb) bP
 ·obtain⟨x1,e1⟩:=nA n gr m sz xs hn
  obtain⟨x2,e2⟩:=nA n' bo m' aJ au bm
  exact H.fV n n' gr m sz x1 bo m' aJ x2 e1 e2 hm bO aD b (sub n b hb) (sub n' b be)
 ·obtain⟨x1,e1⟩:=nA n gr .live sz xs hn
  rw[(gu n').1] at hl
  rw[(gu n').2.1]
  exact H.live n gr sz x1 e1 b (sub n b hb) n' (ne n' bm) hl
 ·intro i pc hi;simp at hi
 ·intro i j pc dq b _ hi;simp at hi
 ·intro i pc n gr m sz xs b hi;simp at hi
def D6 (σ σ1:St) (it:cY) (x:C):Prop:=
 match it with
 |.nil _=>True
 |.row n=>∃gr m rs xs au,σ.h n=some (.row gr m rs xs)/\x=.list rs au/\σ1.h n=some (.row gr m rs au)
 |.nest n k off=>∃gr m rs xs e,σ.h n=some (.row gr m rs xs)/\xs[k]? =some e/\σ1.h n=some (.row gr m rs (xs.set k (e.set off x)))
theorem aqC {it:cY} {x:C} {σ1:St} (hx:σ.oq it x=some σ1):σ1.env=σ.env/\σ1.used=σ.used/\(∀n,it.dJ≠some n->σ1.h n=σ.h n)/\D6 σ σ1 it x:=by
 cases it with
 |nil sz=>simp only[St.oq] at hx;injection hx with hx;subst hx;exact⟨rfl,rfl,fun _ _=>rfl,trivial⟩
 |row n=>
  cases x with
  |int k i=>simp[St.oq] at hx
  |bool b=>simp[St.oq] at hx
  |list sz xs=>
   simp only[St.oq] at hx
   split at hx
   ·rename_i gr m rs lB hn
    split at hx
    ·rename_i e
     injection hx with hx
     subst hx
     subst e
     exact⟨rfl,rfl,fun q hq=>cE _ _ _ _ (fun e=>hq (by rw[e];rfl)),gr,m,rs,lB,xs,hn,rfl,bN _ _ _⟩
    ·cases hx
   ·cases hx
 |nest n k off=>
  simp only[St.oq] at hx
  split at hx
  ·rename_i gr m rs xs hn
   split at hx
   ·rename_i e he
    injection hx with hx
    subst hx
    exact⟨rfl,rfl,fun q hq=>cE _ _ _ _ (fun e=>hq (by rw[e];rfl)),gr,m,rs,xs,e,hn,he,bN _ _ _⟩
   ·cases hx
  ·cases hx
theorem D6.congr {σ σ1 τ pw:St} {it:cY} {x:C} (hx:D6 σ σ1 it x) (h1:∀n,it.dJ=some n->τ.h n=σ.h n) (h2:∀n,it.dJ=some n->pw.h n=σ1.h n):D6 τ pw it x:=by
 cases it with
 |nil sz=>trivial
 |row n=>obtain⟨gr,m,rs,xs,au,e1,e2,e3⟩:=hx;exact⟨gr,m,rs,xs,au,(h1 n rfl).trans e1,e2,(h2 n rfl).trans e3⟩
 |nest n k off=>obtain⟨gr,m,rs,xs,e,e1,e2,e3⟩:=hx;exact⟨gr,m,rs,xs,e,(h1 n rfl).trans e1,e2,(h2 n rfl).trans e3⟩
theorem N9 {it:cY×Mode} {its:List (cY×Mode)} (h:it.1.dJ=none):(it::its).filterMap (·.1.dJ)=its.filterMap (·.1.dJ):=List.filterMap_cons_none h
theorem BU {it:cY×Mode} {its:List (cY×Mode)} {n:Nat} (h:it.1.dJ=some n):(it::its).filterMap (·.1.dJ)=n::its.filterMap (·.1.dJ):=List.filterMap_cons_some h
theorem acH:∀{its:List (cY×Mode)} {fb:List C} {σ σ1:St},σ.qk its fb=some σ1->(its.filterMap (·.1.dJ)).Nodup->σ1.env=σ.env/\σ1.used=σ.used/\
  (∀n,n∉its.filterMap (·.1.dJ)->σ1.h n=σ.h n)/\∀(i:Nat) (it:cY×Mode) (x:C),its[i]? =some it->fb[i]? =some x->D6 σ σ1 it.1 x
 |[],[],σ,σ1,hx,gH=>by
  simp only[St.qk] at hx
  injection hx with hx
  subst hx
  exact⟨rfl,rfl,fun _ _=>rfl,by intro i it x h;simp at h⟩
 |it::its,x::fb,σ,σ2,hx,gH=>by
  simp only[St.qk] at hx
  split at hx
  ·rename_i σ1 e1
   obtain⟨p1,p2,p3,p4⟩:=aqC e1
   have tw:(its.filterMap (·.1.dJ)).Nodup:=by
    cases hn:it.1.dJ with
    |none=>rw[N9 hn] at gH;exact gH
    |some n=>rw[BU hn] at gH;exact(List.nodup_cons.1 gH).2
   have oP:∀n,it.1.dJ=some n->n∉its.filterMap (·.1.dJ):=by
    intro n hn
    rw[BU hn] at gH
    exact(List.nodup_cons.1 gH).1
   obtain⟨q1,q2,q3,q4⟩:=acH hx tw
   refine⟨q1.trans p1,q2.trans p2,fun n hn=>?_,fun i zI x' hi f7=>?_⟩
   ·have h1:it.1.dJ≠some n:=by
     intro e
     rw[BU e] at hn
     exact hn (by simp)
    have h2:n∉its.filterMap (·.1.dJ):=by
     intro hm
     apply hn
     cases hq:it.1.dJ with
     |none=>rw[N9 hq];exact hm
     |some q=>rw[BU hq];exact List.mem_cons_of_mem _ hm
    exact(q3 n h2).trans (p3 n h1)
   ·cases i with
    |zero=>
     simp at hi f7
     subst hi
     subst f7
     exact p4.congr (fun _ _=>rfl) (fun n hn=>q3 n (oP n hn))
    |succ i=>
     have hi':its[i]? =some zI:=by simpa using hi
     refine(q4 i zI x' hi' (by simpa using f7)).congr (fun n hn=>?_) (fun _ _=>rfl)
     refine(p3 n ?_).symm
     intro e
     refine oP n e ?_
     rw[List.mem_filterMap]
     exact⟨zI,List.mem_of_getElem? hi',hn⟩
  ·cases hx
 |[],_::_,σ,σ1,hx,_=>by simp[St.qk] at hx
 |_::_,[],σ,σ1,hx,_=>by simp[St.qk] at hx
theorem KR:∀{its:List (cY×Mode)},(its.filterMap (·.1.dJ)).Nodup->∀{i j:Nat} {x y:cY×Mode} {n:Nat},its[i]? =some x->its[j]? =some y->x.1.dJ=some n->y.1.dJ=some n->i=j
 |[],_,i,j,x,y,n,hi,_,_,_=>by simp at hi
 |it::its,gH,i,j,x,y,n,hi,hj,hx,hy=>by
  have tw:(its.filterMap (·.1.dJ)).Nodup:=by
   cases hn:it.1.dJ with
   |none=>rw[N9 hn] at gH;exact gH
   |some n=>rw[BU hn] at gH;exact(List.nodup_cons.1 gH).2
  have oP:∀n,it.1.dJ=some n->∀(k:Nat) (z:cY×Mode),its[k]? =some z->z.1.dJ≠some n:=by
   intro n hn k z hk e
   rw[BU hn] at gH
   exact(List.nodup_cons.1 gH).1 (List.mem_filterMap.2 ⟨z,List.mem_of_getElem? hk,e⟩)
  cases i with
  |zero=>
   cases j with
   |zero=>rfl
   |succ j=>
    simp at hi hj
    subst hi
    exact absurd hy (oP n hx j y hj)
  |succ i=>
   cases j with
   |zero=>
    simp at hi hj
    subst hj
    exact absurd hx (oP n hy i x hi)
   |succ j=>exact congrArg (·+1) (KR tw (i:=i) (j:=j) (by simpa using hi) (by simpa using hj) hx hy)
end
end Go.Am
