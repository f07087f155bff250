/- AmN: calls that change lists of their arguments: what becomes of the caller's names. No condition. -/
import Derived.Test.YtifmggmhdcdgbaaAmM
set_option linter.unusedVariables false
namespace Go.Am
section
variable {B:Nat} {E:Ex} {w0 w w':World} {G G':Gh} {N:Nat} {h h':Nat->Option aq} {used:Nat->Bool}
variable {P:Program} {o:Oper} {a:Act} {σ σ':St} {Q:Exit->Act->World->Prop}
structure Ev (w':World) (p p':PB) (gr:Bool) (m:Mode) (sz:Nat) (ar:List (List C)):Prop where
 m1:m≠ .aA
 fl:(∀b,¬aP b p.px)\/m=.live
 nl:p'.nl=p.nl
 b:p'.b=p.b
 o:p'.o=p.o
 cap:p'.cap=p.cap
 na:p'.na=p.na
 er:ar=p'.px.map (fun e=>e.map PC.er)
 nlx:p.nl=true->p'.px=[]
 dB:p.nl=false->nT w' p.b p.o sz p'.px/\p'.px.length<=p.cap
 sep:gS p'.px
 sub:∀b,aP b p'.px->aP b p.px
 live:m=.live->∀k j pc,At p.px k j pc->pc.f7=true->∃c8,At p'.px k j c8/\c8.val=pc.val/\c8.f7=true
theorem HR.Pj (H:HR B E w G h used []) {S:Nat->Prop} (bE:w.heap.size<=w'.heap.size)
  (hw:∀b,b<w.heap.size->(∀n,S n->¬rL G n b)->w'.heap[b]? =w.heap[b]?) (kZ:∀b,b<w.heap.size->Cz w w' b) (lM:G'.Im=G.Im)
  (hS:∀n,S n->∃gr m sz xs ar,h n=some (.row gr m sz xs)/\h' n=some (.row gr m sz ar)/\Ev w' (G.g n) (G'.g n) gr m sz ar)
  (hN:∀n,¬S n->h' n=h n/\G'.g n=G.g n):HR B E w' G' h' used []/\aT w G h (fun n=>used n=true) w' G' h'/\∀n b,aP b (G'.g n).px->aP b (G.g n).px:=by
 have ne:∀n,h' n≠none->h n≠none:=by
  intro n hn
  by_cases hs:S n
  ·obtain⟨gr,m,sz,xs,ar,e1,e2,_⟩:=hS n hs
   rw[e1];simp
  ·rwa[(hN n hs).1] at hn
 have fA:∀n,(G'.g n).nl=(G.g n).nl/\(G'.g n).b=(G.g n).b/\(G'.g n).o=(G.g n).o/\(G'.g n).cap=(G.g n).cap/\(G'.g n).na=(G.g n).na:=by
  intro n
  by_cases hs:S n
  ·obtain⟨gr,m,sz,xs,ar,e1,e2,c⟩:=hS n hs
   exact⟨c.nl,c.b,c.o,c.cap,c.na⟩
  ·rw[(hN n hs).2];exact⟨rfl,rfl,rfl,rfl,rfl⟩
 have sub:∀n b,aP b (G'.g n).px->aP b (G.g n).px:=by
  intro n b hb
  by_cases hs:S n
  ·obtain⟨gr,m,sz,xs,ar,e1,e2,c⟩:=hS n hs
   exact c.sub b hb
  ·rwa[(hN n hs).2] at hb
 have mg:∀n gr m sz ar,h' n=some (.row gr m sz ar)->∃xs,h n=some (.row gr m sz xs):=by
  intro n gr m sz ar hn
  by_cases hs:S n
  ·obtain⟨GI,m1,wq,xs,uk,e1,e2,_⟩:=hS n hs
   rw[e2] at hn
   injection hn with hn
   injection hn with a1 a2 a3 a4
   subst a1 a2 a3
   exact⟨xs,e1⟩
  ·rw[(hN n hs).1] at hn;exact⟨ar,hn⟩
 have Ts:∀n cs,h' n=some (.box cs)->h n=some (.box cs)/\¬S n:=by
  intro n cs hn
  by_cases hs:S n
  ·obtain⟨GI,m1,wq,xs,uk,e1,e2,_⟩:=hS n hs
   rw[e2] at hn;cases hn
  ·rw[(hN n hs).1] at hn;exact⟨hn,hs⟩
 have afF:∀b,G.Im b->w'.heap[b]? =w.heap[b]? :=by
  intro b hb
  refine hw b (H.fx b hb) fun n hs hf=>?_
  obtain⟨gr,m,sz,xs,ar,e1,e2,c⟩:=hS n hs
  rcases hf with⟨hl,rfl⟩|hF
  ·exact(H.own n (by rw[e1];simp) hl).1 hb
  ·rcases c.fl with c1|rfl
   ·exact c1 b hF
   ·exact((H.row n gr .live sz xs e1).mode.1 b hF).1 hb
 have Nu:∀n,¬S n->h n≠none->(G.g n).nl=false->w'.heap[(G.g n).b]? =w.heap[(G.g n).b]? :=by
  intro n hs hn hl
  refine hw _ (H.own n hn hl).2.2 fun q hq hf=>?_
  obtain⟨gr,m,sz,xs,ar,e1,e2,c⟩:=hS q hq
  have aw:n≠q:=fun e=>hs (e▸hq)
  rcases hf with⟨zN,hb⟩|hF
  ·exact H.inj n q hn (by rw[e1];simp) aw hl zN hb
  ·rcases c.fl with c1|rfl
   ·exact c1 _ hF
   ·exact H.live q gr sz xs e1 _ hF n hn hl rfl
 have afG:∀n gr m sz xs,¬S n->h n=some (.row gr m sz xs)->∀b,aP b (G.g n).px->w'.heap[b]? =w.heap[b]? :=by
  intro n gr m sz xs hs hn b hb
  refine hw _ (H.pT hn hb) fun q hq hf=>?_
  obtain⟨bh,m',aG,uk,aaa,e1,e2,c⟩:=hS q hq
  have aw:n≠q:=fun e=>hs (e▸hq)
  exact H.GD aw hn e1 c.fl (.inr hb) hf
 have K:aT w G h (fun n=>used n=true) w' G' h':=by
  refine⟨fun b hb=>by rw[lM];exact hb,fun b hb o=>hZ (afF b hb) o,fun n _ hn=>⟨ne n hn,fA n⟩,fun n gr sz ar _ hn=>?_⟩
  obtain⟨xs,e⟩:=mg n gr .live sz ar hn
  refine⟨⟨gr,xs,e⟩,fun k j pc hk hL=>?_⟩
  by_cases hs:S n
  ·obtain⟨GI,m1,wq,uk,aaa,e1,e2,c⟩:=hS n hs
   rw[e] at e1
   injection e1 with e1
   injection e1 with _ e1 _ _
   exact c.live e1.symm k j pc hk hL
  ·rw[(hN n hs).2];exact⟨pc,hk,rfl,hL⟩
 refine⟨⟨fun n hn=>H.iA n (ne n hn),fun m cs c n hm=>H.gi m cs c n (Ts m cs hm).1,fun n cs hn=>?_,fun n gr m sz ar hn=>?_,fun n hn hl=>?_,fun n n' hn bk aw hl dq=>?_,
  fun b hb=>?_,fun b hb=>H.ox b (by rw[lM] at hb;exact hb),fun n n' gr m sz xs bh m' aG ar hn bk hm bI aw b hb aR=>?_,fun n gr sz xs hn b hb n' bk hl=>?_,?_,?_,?_⟩,K,sub⟩
 ·obtain⟨h1,hs⟩:=Ts n cs hn
  obtain⟨a1,a2,a3⟩:=H.box n cs h1
  have hb:=Nu n hs (by rw[h1];simp) a1
  rw[(hN n hs).2]
  refine⟨a1,a2.congr hb,fun j c hj=>?_⟩
  obtain⟨v,v1,v2,v3⟩:=a3 j c hj
  exact⟨v,(hZ hb _).trans v1,v2,v3.eI K fun q hq=>H.gi n cs c q h1 (List.mem_of_getElem? hj) hq⟩
 ·by_cases hs:S n
  ·obtain⟨GI,m1,wq,uk,aaa,e1,e2,c⟩:=hS n hs
   rw[e2] at hn
   injection hn with hn
   injection hn with q1 q2 q3 q4
   subst q1 q2 q3 q4
   have hr:=H.row n GI m1 wq uk e1
   refine⟨hr.pos,c.er,fun hl=>?_,fun hl=>?_,fun hl hg=>?_,?_⟩
   ·rw[c.nl] at hl
    refine⟨c.nlx hl,fun hg=>?_⟩
    rw[c.cap]
    exact(hr.nl hl).2 hg
   ·rw[c.nl] at hl
    obtain⟨l1,l2,l3⟩:=hr.dB hl
    obtain⟨c1,c2⟩:=c.dB hl
    rw[c.b,c.o,c.cap]
    exact⟨(kZ _ l1.lt).j7 l1,c1,c2⟩
   ·rw[c.nl] at hl
    obtain⟨r2,cur,e,r3,r4⟩:=hr.room hl hg
    obtain⟨iO,s1,s2⟩:=kZ (G.g n).b (H.own n (by rw[e1];simp) hl).2.2 cur e r3
    unfold E0
    rw[c.b,c.o,c.cap]
    exact⟨r2,iO,e,s1,s2.trans r4⟩
   ·have hm:=hr.mode
    cases m1 with
    |aA=>exact absurd rfl c.m1
    |ae=>exact⟨fun b hb=>by
     have aR:=c.sub b hb
     have:=hm.1 b aR
     exact⟨by rw[lM];exact this.1,(kZ b this.2.1.lt).j7 this.2.1,this.2.2⟩,c.sep⟩
    |live=>exact⟨fun b hb=>by
     have aR:=c.sub b hb
     have:=hm.1 b aR
     exact⟨by rw[lM];exact this.1,(kZ b this.2.1.lt).j7 this.2.1,this.2.2⟩,c.sep⟩
  ·rw[(hN n hs).1] at hn
   rw[(hN n hs).2]
   have hr:=H.row n gr m sz ar hn
   have fZ:=afG n gr m sz ar hs hn
   refine⟨hr.pos,hr.er,hr.nl,fun hl=>?_,fun hl hg=>?_,?_⟩
   ·obtain⟨l1,l2,l3⟩:=hr.dB hl
    have hb:=Nu n hs (by rw[hn];simp) hl
    exact⟨l1.congr hb,l2.congr (fun o=>hZ hb o) (fun b' aR o=>hZ (fZ b' aR) o),l3⟩
   ·obtain⟨r2,cur,e,r3,r4⟩:=hr.room hl hg
    exact⟨r2,cur,e,(Nu n hs (by rw[hn];simp) hl).trans r3,r4⟩
   ·have hm:=hr.mode
    cases m with
    |aA=>exact fun b hb=>by rw[lM];exact hm b hb
    |ae=>exact⟨fun b hb=>⟨by rw[lM];exact(hm.1 b hb).1,(hm.1 b hb).2.1.congr (fZ b hb),(hm.1 b hb).2.2⟩,hm.2⟩
    |live=>exact⟨fun b hb=>⟨by rw[lM];exact(hm.1 b hb).1,(hm.1 b hb).2.1.congr (fZ b hb),(hm.1 b hb).2.2⟩,hm.2⟩
 ·obtain⟨s1,s2,s3,s4,s5⟩:=fA n
  rw[s1] at hl
  rw[s2]
  obtain⟨o1,o2,o3⟩:=H.own n (ne n hn) hl
  exact⟨by rw[lM];exact o1,o2,Nat.lt_of_lt_of_le o3 bE⟩
 ·rw[(fA n).1] at hl
  rw[(fA n').1] at dq
  rw[(fA n).2.1,(fA n').2.1]
  exact H.inj n n' (ne n hn) (ne n' bk) aw hl dq
 ·rw[lM] at hb
  exact Nat.lt_of_lt_of_le (H.fx b hb) bE
 ·obtain⟨x1,e1⟩:=mg n gr m sz xs hn
  obtain⟨x2,e2⟩:=mg n' bh m' aG ar bk
  exact H.fi n n' gr m sz x1 bh m' aG x2 e1 e2 hm bI aw b (sub n b hb) (sub n' b aR)
 ·obtain⟨x1,e1⟩:=mg n gr .live sz xs hn
  rw[(fA n').1] at hl
  rw[(fA n').2.1]
  exact H.live n gr sz x1 e1 b (sub n b hb) n' (ne n' bk) hl
 ·intro i pc hi;simp at hi
 ·intro i j pc c8 b _ hi;simp at hi
 ·intro i pc n gr m sz xs b hi;simp at hi
def BQ (σ σ1:St) (it:c6) (x:C):Prop:=
 match it with
 |.nil _=>True
 |.row n=>∃gr m rs xs ar,σ.h n=some (.row gr m rs xs)/\x=.list rs ar/\σ1.h n=some (.row gr m rs ar)
 |.nest n k off=>∃gr m rs xs e,σ.h n=some (.row gr m rs xs)/\xs[k]? =some e/\σ1.h n=some (.row gr m rs (xs.set k (e.set off x)))
theorem ai3 {it:c6} {x:C} {σ1:St} (hx:σ.mT it x=some σ1):σ1.env=σ.env/\σ1.used=σ.used/\(∀n,it.dC≠some n->σ1.h n=σ.h n)/\BQ σ σ1 it x:=by
 cases it with
 |nil sz=>simp only[St.mT] at hx;injection hx with hx;subst hx;exact⟨rfl,rfl,fun _ _=>rfl,trivial⟩
 |row n=>
  cases x with
  |int k i=>simp[St.mT] at hx
  |bool b=>simp[St.mT] at hx
  |list sz xs=>
   simp only[St.mT] at hx
   split at hx
   ·rename_i gr m rs kb hn
    split at hx
    ·rename_i e
     injection hx with hx
     subst hx
     subst e
     exact⟨rfl,rfl,fun q hq=>cb _ _ _ _ (fun e=>hq (by rw[e];rfl)),gr,m,rs,kb,xs,hn,rfl,bC _ _ _⟩
    ·cases hx
   ·cases hx
 |nest n k off=>
  simp only[St.mT] at hx
  split at hx
  ·rename_i gr m rs xs hn
   split at hx
   ·rename_i e he
    injection hx with hx
    subst hx
    exact⟨rfl,rfl,fun q hq=>cb _ _ _ _ (fun e=>hq (by rw[e];rfl)),gr,m,rs,xs,e,hn,he,bC _ _ _⟩
   ·cases hx
  ·cases hx
theorem BQ.congr {σ σ1 τ nP:St} {it:c6} {x:C} (hx:BQ σ σ1 it x) (h1:∀n,it.dC=some n->τ.h n=σ.h n) (h2:∀n,it.dC=some n->nP.h n=σ1.h n):BQ τ nP it x:=by
 cases it with
 |nil sz=>trivial
 |row n=>obtain⟨gr,m,rs,xs,ar,e1,e2,e3⟩:=hx;exact⟨gr,m,rs,xs,ar,(h1 n rfl).trans e1,e2,(h2 n rfl).trans e3⟩
 |nest n k off=>obtain⟨gr,m,rs,xs,e,e1,e2,e3⟩:=hx;exact⟨gr,m,rs,xs,e,(h1 n rfl).trans e1,e2,(h2 n rfl).trans e3⟩
theorem KL {it:c6×Mode} {its:List (c6×Mode)} (h:it.1.dC=none):(it::its).filterMap (·.1.dC)=its.filterMap (·.1.dC):=List.filterMap_cons_none h
theorem zA {it:c6×Mode} {its:List (c6×Mode)} {n:Nat} (h:it.1.dC=some n):(it::its).filterMap (·.1.dC)=n::its.filterMap (·.1.dC):=List.filterMap_cons_some h
theorem Yn:∀{its:List (c6×Mode)} {d7:List C} {σ σ1:St},σ.oG its d7=some σ1->(its.filterMap (·.1.dC)).Nodup->σ1.env=σ.env/\σ1.used=σ.used/\
  (∀n,n∉its.filterMap (·.1.dC)->σ1.h n=σ.h n)/\∀(i:Nat) (it:c6×Mode) (x:C),its[i]? =some it->d7[i]? =some x->BQ σ σ1 it.1 x
 |[],[],σ,σ1,hx,fL=>by
  simp only[St.oG] at hx
  injection hx with hx
  subst hx
  exact⟨rfl,rfl,fun _ _=>rfl,by intro i it x h;simp at h⟩
 |it::its,x::d7,σ,σ2,hx,fL=>by
  simp only[St.oG] at hx
  split at hx
  ·rename_i σ1 e1
   obtain⟨p1,p2,p3,p4⟩:=ai3 e1
   have vc:(its.filterMap (·.1.dC)).Nodup:=by
    cases hn:it.1.dC with
    |none=>rw[KL hn] at fL;exact fL
    |some n=>rw[zA hn] at fL;exact(List.nodup_cons.1 fL).2
   have nq:∀n,it.1.dC=some n->n∉its.filterMap (·.1.dC):=by
    intro n hn
    rw[zA hn] at fL
    exact(List.nodup_cons.1 fL).1
   obtain⟨q1,q2,q3,q4⟩:=Yn hx vc
   refine⟨q1.trans p1,q2.trans p2,fun n hn=>?_,fun i xW x' hi eT=>?_⟩
   ·have h1:it.1.dC≠some n:=by
     intro e
     rw[zA e] at hn
     exact hn (by simp)
    have h2:n∉its.filterMap (·.1.dC):=by
     intro hm
     apply hn
     cases hq:it.1.dC with
     |none=>rw[KL hq];exact hm
     |some q=>rw[zA hq];exact List.mem_cons_of_mem _ hm
    exact(q3 n h2).trans (p3 n h1)
   ·cases i with
    |zero=>
     simp at hi eT
     subst hi
     subst eT
     exact p4.congr (fun _ _=>rfl) (fun n hn=>q3 n (nq n hn))
    |succ i=>
     have hi':its[i]? =some xW:=by simpa using hi
     refine(q4 i xW x' hi' (by simpa using eT)).congr (fun n hn=>?_) (fun _ _=>rfl)
     refine(p3 n ?_).symm
     intro e
     refine nq n e ?_
     rw[List.mem_filterMap]
     exact⟨xW,List.mem_of_getElem? hi',hn⟩
  ·cases hx
 |[],_::_,σ,σ1,hx,_=>by simp[St.oG] at hx
 |_::_,[],σ,σ1,hx,_=>by simp[St.oG] at hx
theorem H5:∀{its:List (c6×Mode)},(its.filterMap (·.1.dC)).Nodup->∀{i j:Nat} {x y:c6×Mode} {n:Nat},its[i]? =some x->its[j]? =some y->x.1.dC=some n->y.1.dC=some n->i=j
 |[],_,i,j,x,y,n,hi,_,_,_=>by simp at hi
 |it::its,fL,i,j,x,y,n,hi,hj,hx,hy=>by
  have vc:(its.filterMap (·.1.dC)).Nodup:=by
   cases hn:it.1.dC with
   |none=>rw[KL hn] at fL;exact fL
   |some n=>rw[zA hn] at fL;exact(List.nodup_cons.1 fL).2
  have nq:∀n,it.1.dC=some n->∀(k:Nat) (z:c6×Mode),its[k]? =some z->z.1.dC≠some n:=by
   intro n hn k z hk e
   rw[zA hn] at fL
   exact(List.nodup_cons.1 fL).1 (List.mem_filterMap.2 ⟨z,List.mem_of_getElem? hk,e⟩)
  cases i with
  |zero=>
   cases j with
   |zero=>rfl
   |succ j=>
    simp at hi hj
    subst hi
    exact absurd hy (nq n hx j y hj)
  |succ i=>
   cases j with
   |zero=>
    simp at hi hj
    subst hj
    exact absurd hx (nq n hy i x hi)
   |succ j=>exact congrArg (·+1) (H5 vc (i:=i) (j:=j) (by simpa using hi) (by simpa using hj) hx hy)
end
end Go.Am
