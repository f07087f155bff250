/- AmN: calls that change lists of their arguments: what becomes of the caller's names. No condition. -/
import Derived.Test.YtbgmbplglejidaaAmM
set_option linter.unusedVariables false
namespace Go.Am
section
variable {B:Nat} {E:Ex} {w0 w w':World} {G G':Gh} {N:Nat} {h h':Nat->Option ao} {used:Nat->Bool}
variable {P:Program} {o:Oper} {a:Act} {σ σ':St} {Q:Exit->Act->World->Prop}
structure FC (w':World) (p p':PB) (gr:Bool) (m:Mode) (sz:Nat) (aq:List (List C)):Prop where
 m1:m≠ .aD
 fl:(∀b,¬aV b p.px)\/m=.live
 nl:p'.nl=p.nl
 b:p'.b=p.b
 o:p'.o=p.o
 cap:p'.cap=p.cap
 na:p'.na=p.na
 er:aq=p'.px.map (fun e=>e.map PC.er)
 nlx:p.nl=true->p'.px=[]
 dR:p.nl=false->oD w' p.b p.o sz p'.px/\p'.px.length<=p.cap
 sep:ij p'.px
 sub:∀b,aV b p'.px->aV b p.px
 live:m=.live->∀k j pc,At p.px k j pc->pc.gB=true->∃dg,At p'.px k j dg/\dg.val=pc.val/\dg.gB=true
theorem HR.Jw (H:HR B E w G h used []) {S:Nat->Prop} (bD:w.heap.size<=w'.heap.size)
  (hw:∀b,b<w.heap.size->(∀n,S n->¬rq G n b)->w'.heap[b]? =w.heap[b]?) (lE:∀b,b<w.heap.size->Cz w w' b) (mA:G'.Im=G.Im)
  (hS:∀n,S n->∃gr m sz xs aq,h n=some (.row gr m sz xs)/\h' n=some (.row gr m sz aq)/\FC w' (G.g n) (G'.g n) gr m sz aq)
  (hN:∀n,¬S n->h' n=h n/\G'.g n=G.g n):HR B E w' G' h' used []/\bc w G h (fun n=>used n=true) w' G' h'/\∀n b,aV b (G'.g n).px->aV b (G.g n).px:=by
 have ne:∀n,h' n≠none->h n≠none:=by
  intro n hn
  by_cases hs:S n
  ·obtain⟨gr,m,sz,xs,aq,e1,e2,_⟩:=hS n hs
   rw[e1];simp
  ·rwa[(hN n hs).1] at hn
 have fY:∀n,(G'.g n).nl=(G.g n).nl/\(G'.g n).b=(G.g n).b/\(G'.g n).o=(G.g n).o/\(G'.g n).cap=(G.g n).cap/\(G'.g n).na=(G.g n).na:=by
  intro n
  by_cases hs:S n
  ·obtain⟨gr,m,sz,xs,aq,e1,e2,c⟩:=hS n hs
   exact⟨c.nl,c.b,c.o,c.cap,c.na⟩
  ·rw[(hN n hs).2];exact⟨rfl,rfl,rfl,rfl,rfl⟩
 have sub:∀n b,aV b (G'.g n).px->aV b (G.g n).px:=by
  intro n b hb
  by_cases hs:S n
  ·obtain⟨gr,m,sz,xs,aq,e1,e2,c⟩:=hS n hs
   exact c.sub b hb
  ·rwa[(hN n hs).2] at hb
 have mU:∀n gr m sz aq,h' n=some (.row gr m sz aq)->∃xs,h n=some (.row gr m sz xs):=by
  intro n gr m sz aq hn
  by_cases hs:S n
  ·obtain⟨Ix,m1,r5,xs,qT,e1,e2,_⟩:=hS n hs
   rw[e2] at hn
   injection hn with hn
   injection hn with a1 a2 a3 a4
   subst a1 a2 a3
   exact⟨xs,e1⟩
  ·rw[(hN n hs).1] at hn;exact⟨aq,hn⟩
 have Wm:∀n cs,h' n=some (.box cs)->h n=some (.box cs)/\¬S n:=by
  intro n cs hn
  by_cases hs:S n
  ·obtain⟨Ix,m1,r5,xs,qT,e1,e2,_⟩:=hS n hs
   rw[e2] at hn;cases hn
  ·rw[(hN n hs).1] at hn;exact⟨hn,hs⟩
 have ajf:∀b,G.Im b->w'.heap[b]? =w.heap[b]? :=by
  intro b hb
  refine hw b (H.fW b hb) fun n hs hf=>?_
  obtain⟨gr,m,sz,xs,aq,e1,e2,c⟩:=hS n hs
  rcases hf with⟨hl,rfl⟩|hF
  ·exact(H.own n (by rw[e1];simp) hl).1 hb
  ·rcases c.fl with c1|rfl
   ·exact c1 b hF
   ·exact((H.row n gr .live sz xs e1).mode.1 b hF).1 hb
 have Pv:∀n,¬S n->h n≠none->(G.g n).nl=false->w'.heap[(G.g n).b]? =w.heap[(G.g n).b]? :=by
  intro n hs hn hl
  refine hw _ (H.own n hn hl).2.2 fun q hq hf=>?_
  obtain⟨gr,m,sz,xs,aq,e1,e2,c⟩:=hS q hq
  have aB:n≠q:=fun e=>hs (e▸hq)
  rcases hf with⟨yo,hb⟩|hF
  ·exact H.inj n q hn (by rw[e1];simp) aB hl yo hb
  ·rcases c.fl with c1|rfl
   ·exact c1 _ hF
   ·exact H.live q gr sz xs e1 _ hF n hn hl rfl
 have ajg:∀n gr m sz xs,¬S n->h n=some (.row gr m sz xs)->∀b,aV b (G.g n).px->w'.heap[b]? =w.heap[b]? :=by
  intro n gr m sz xs hs hn b hb
  refine hw _ (H.qI hn hb) fun q hq hf=>?_
  obtain⟨bk,m',aJ,qT,ac8,e1,e2,c⟩:=hS q hq
  have aB:n≠q:=fun e=>hs (e▸hq)
  exact H.DB aB hn e1 c.fl (.inr hb) hf
 have K:bc w G h (fun n=>used n=true) w' G' h':=by
  refine⟨fun b hb=>by rw[mA];exact hb,fun b hb o=>iF (ajf b hb) o,fun n _ hn=>⟨ne n hn,fY n⟩,fun n gr sz aq _ hn=>?_⟩
  obtain⟨xs,e⟩:=mU n gr .live sz aq hn
  refine⟨⟨gr,xs,e⟩,fun k j pc hk hL=>?_⟩
  by_cases hs:S n
  ·obtain⟨Ix,m1,r5,qT,ac8,e1,e2,c⟩:=hS n hs
   rw[e] at e1
   injection e1 with e1
   injection e1 with _ e1 _ _
   exact c.live e1.symm k j pc hk hL
  ·rw[(hN n hs).2];exact⟨pc,hk,rfl,hL⟩
 refine⟨⟨fun n hn=>H.iG n (ne n hn),fun m cs c n hm=>H.gH m cs c n (Wm m cs hm).1,fun n cs hn=>?_,fun n gr m sz aq hn=>?_,fun n hn hl=>?_,fun n n' hn bj aB hl dw=>?_,
  fun b hb=>?_,fun b hb=>H.pf b (by rw[mA] at hb;exact hb),fun n n' gr m sz xs bk m' aJ aq hn bj hm bJ aB b hb aY=>?_,fun n gr sz xs hn b hb n' bj hl=>?_,?_,?_,?_⟩,K,sub⟩
 ·obtain⟨h1,hs⟩:=Wm n cs hn
  obtain⟨a1,a2,a3⟩:=H.box n cs h1
  have hb:=Pv n hs (by rw[h1];simp) a1
  rw[(hN n hs).2]
  refine⟨a1,a2.congr hb,fun j c hj=>?_⟩
  obtain⟨v,v1,v2,v3⟩:=a3 j c hj
  exact⟨v,(iF hb _).trans v1,v2,v3.fe K fun q hq=>H.gH n cs c q h1 (List.mem_of_getElem? hj) hq⟩
 ·by_cases hs:S n
  ·obtain⟨Ix,m1,r5,qT,ac8,e1,e2,c⟩:=hS n hs
   rw[e2] at hn
   injection hn with hn
   injection hn with q1 q2 q3 q4
   subst q1 q2 q3 q4
   have hr:=H.row n Ix m1 r5 qT e1
   refine⟨hr.pos,c.er,fun hl=>?_,fun hl=>?_,fun hl hg=>?_,?_⟩
   ·rw[c.nl] at hl
    refine⟨c.nlx hl,fun hg=>?_⟩
    rw[c.cap]
    exact(hr.nl hl).2 hg
   ·rw[c.nl] at hl
    obtain⟨l1,l2,l3⟩:=hr.dR hl
    obtain⟨c1,c2⟩:=c.dR hl
    rw[c.b,c.o,c.cap]
    exact⟨(lE _ l1.lt).ie l1,c1,c2⟩
   ·rw[c.nl] at hl
    obtain⟨r2,cur,e,r3,r4⟩:=hr.room hl hg
    obtain⟨jr,s1,s2⟩:=lE (G.g n).b (H.own n (by rw[e1];simp) hl).2.2 cur e r3
    unfold Ga
    rw[c.b,c.o,c.cap]
    exact⟨r2,jr,e,s1,s2.trans r4⟩
   ·have hm:=hr.mode
    cases m1 with
    |aD=>exact absurd rfl c.m1
    |ae=>exact⟨fun b hb=>by
     have aY:=c.sub b hb
     have:=hm.1 b aY
     exact⟨by rw[mA];exact this.1,(lE b this.2.1.lt).ie this.2.1,this.2.2⟩,c.sep⟩
    |live=>exact⟨fun b hb=>by
     have aY:=c.sub b hb
     have:=hm.1 b aY
     exact⟨by rw[mA];exact this.1,(lE b this.2.1.lt).ie this.2.1,this.2.2⟩,c.sep⟩
  ·rw[(hN n hs).1] at hn
   rw[(hN n hs).2]
   have hr:=H.row n gr m sz aq hn
   have fc:=ajg n gr m sz aq hs hn
   refine⟨hr.pos,hr.er,hr.nl,fun hl=>?_,fun hl hg=>?_,?_⟩
   ·obtain⟨l1,l2,l3⟩:=hr.dR hl
    have hb:=Pv n hs (by rw[hn];simp) hl
    exact⟨l1.congr hb,l2.congr (fun o=>iF hb o) (fun b' aY o=>iF (fc b' aY) o),l3⟩
   ·obtain⟨r2,cur,e,r3,r4⟩:=hr.room hl hg
    exact⟨r2,cur,e,(Pv n hs (by rw[hn];simp) hl).trans r3,r4⟩
   ·have hm:=hr.mode
    cases m with
    |aD=>exact fun b hb=>by rw[mA];exact hm b hb
    |ae=>exact⟨fun b hb=>⟨by rw[mA];exact(hm.1 b hb).1,(hm.1 b hb).2.1.congr (fc b hb),(hm.1 b hb).2.2⟩,hm.2⟩
    |live=>exact⟨fun b hb=>⟨by rw[mA];exact(hm.1 b hb).1,(hm.1 b hb).2.1.congr (fc b hb),(hm.1 b hb).2.2⟩,hm.2⟩
 ·obtain⟨s1,s2,s3,s4,s5⟩:=fY n
  rw[s1] at hl
  rw[s2]
  obtain⟨o1,o2,o3⟩:=H.own n (ne n hn) hl
  exact⟨by rw[mA];exact o1,o2,Nat.lt_of_lt_of_le o3 bD⟩
 ·rw[(fY n).1] at hl
  rw[(fY n').1] at dw
  rw[(fY n).2.1,(fY n').2.1]
  exact H.inj n n' (ne n hn) (ne n' bj) aB hl dw
 ·rw[mA] at hb
  exact Nat.lt_of_lt_of_le (H.fW b hb) bD
 ·obtain⟨x1,e1⟩:=mU n gr m sz xs hn
  obtain⟨x2,e2⟩:=mU n' bk m' aJ aq bj
  exact H.fJ n n' gr m sz x1 bk m' aJ x2 e1 e2 hm bJ aB b (sub n b hb) (sub n' b aY)
 ·obtain⟨x1,e1⟩:=mU n gr .live sz xs hn
  rw[(fY n').1] at hl
  rw[(fY n').2.1]
  exact H.live n gr sz x1 e1 b (sub n b hb) n' (ne n' bj) hl
 ·intro i pc hi;simp at hi
 ·intro i j pc dg b _ hi;simp at hi
 ·intro i pc n gr m sz xs b hi;simp at hi
def CK (σ σ1:St) (it:cM) (x:C):Prop:=
 match it with
 |.nil _=>True
 |.row n=>∃gr m rs xs aq,σ.h n=some (.row gr m rs xs)/\x=.list rs aq/\σ1.h n=some (.row gr m rs aq)
 |.nest n k off=>∃gr m rs xs e,σ.h n=some (.row gr m rs xs)/\xs[k]? =some e/\σ1.h n=some (.row gr m rs (xs.set k (e.set off x)))
theorem ane {it:cM} {x:C} {σ1:St} (hx:σ.nr it x=some σ1):σ1.env=σ.env/\σ1.used=σ.used/\(∀n,it.dA≠some n->σ1.h n=σ.h n)/\CK σ σ1 it x:=by
 cases it with
 |nil sz=>simp only[St.nr] at hx;injection hx with hx;subst hx;exact⟨rfl,rfl,fun _ _=>rfl,trivial⟩
 |row n=>
  cases x with
  |int k i=>simp[St.nr] at hx
  |bool b=>simp[St.nr] at hx
  |list sz xs=>
   simp only[St.nr] at hx
   split at hx
   ·rename_i gr m rs kA hn
    split at hx
    ·rename_i e
     injection hx with hx
     subst hx
     subst e
     exact⟨rfl,rfl,fun q hq=>cq _ _ _ _ (fun e=>hq (by rw[e];rfl)),gr,m,rs,kA,xs,hn,rfl,bF _ _ _⟩
    ·cases hx
   ·cases hx
 |nest n k off=>
  simp only[St.nr] at hx
  split at hx
  ·rename_i gr m rs xs hn
   split at hx
   ·rename_i e he
    injection hx with hx
    subst hx
    exact⟨rfl,rfl,fun q hq=>cq _ _ _ _ (fun e=>hq (by rw[e];rfl)),gr,m,rs,xs,e,hn,he,bF _ _ _⟩
   ·cases hx
  ·cases hx
theorem CK.congr {σ σ1 τ oA:St} {it:cM} {x:C} (hx:CK σ σ1 it x) (h1:∀n,it.dA=some n->τ.h n=σ.h n) (h2:∀n,it.dA=some n->oA.h n=σ1.h n):CK τ oA it x:=by
 cases it with
 |nil sz=>trivial
 |row n=>obtain⟨gr,m,rs,xs,aq,e1,e2,e3⟩:=hx;exact⟨gr,m,rs,xs,aq,(h1 n rfl).trans e1,e2,(h2 n rfl).trans e3⟩
 |nest n k off=>obtain⟨gr,m,rs,xs,e,e1,e2,e3⟩:=hx;exact⟨gr,m,rs,xs,e,(h1 n rfl).trans e1,e2,(h2 n rfl).trans e3⟩
theorem MK {it:cM×Mode} {its:List (cM×Mode)} (h:it.1.dA=none):(it::its).filterMap (·.1.dA)=its.filterMap (·.1.dA):=List.filterMap_cons_none h
theorem AH {it:cM×Mode} {its:List (cM×Mode)} {n:Nat} (h:it.1.dA=some n):(it::its).filterMap (·.1.dA)=n::its.filterMap (·.1.dA):=List.filterMap_cons_some h
theorem aa5:∀{its:List (cM×Mode)} {eV:List C} {σ σ1:St},σ.pC its eV=some σ1->(its.filterMap (·.1.dA)).Nodup->σ1.env=σ.env/\σ1.used=σ.used/\
  (∀n,n∉its.filterMap (·.1.dA)->σ1.h n=σ.h n)/\∀(i:Nat) (it:cM×Mode) (x:C),its[i]? =some it->eV[i]? =some x->CK σ σ1 it.1 x
 |[],[],σ,σ1,hx,gi=>by
  simp only[St.pC] at hx
  injection hx with hx
  subst hx
  exact⟨rfl,rfl,fun _ _=>rfl,by intro i it x h;simp at h⟩
 |it::its,x::eV,σ,σ2,hx,gi=>by
  simp only[St.pC] at hx
  split at hx
  ·rename_i σ1 e1
   obtain⟨p1,p2,p3,p4⟩:=ane e1
   have sJ:(its.filterMap (·.1.dA)).Nodup:=by
    cases hn:it.1.dA with
    |none=>rw[MK hn] at gi;exact gi
    |some n=>rw[AH hn] at gi;exact(List.nodup_cons.1 gi).2
   have nX:∀n,it.1.dA=some n->n∉its.filterMap (·.1.dA):=by
    intro n hn
    rw[AH hn] at gi
    exact(List.nodup_cons.1 gi).1
   obtain⟨q1,q2,q3,q4⟩:=aa5 hx sJ
   refine⟨q1.trans p1,q2.trans p2,fun n hn=>?_,fun i yK x' hi fM=>?_⟩
   ·have h1:it.1.dA≠some n:=by
     intro e
     rw[AH e] at hn
     exact hn (by simp)
    have h2:n∉its.filterMap (·.1.dA):=by
     intro hm
     apply hn
     cases hq:it.1.dA with
     |none=>rw[MK hq];exact hm
     |some q=>rw[AH hq];exact List.mem_cons_of_mem _ hm
    exact(q3 n h2).trans (p3 n h1)
   ·cases i with
    |zero=>
     simp at hi fM
     subst hi
     subst fM
     exact p4.congr (fun _ _=>rfl) (fun n hn=>q3 n (nX n hn))
    |succ i=>
     have hi':its[i]? =some yK:=by simpa using hi
     refine(q4 i yK x' hi' (by simpa using fM)).congr (fun n hn=>?_) (fun _ _=>rfl)
     refine(p3 n ?_).symm
     intro e
     refine nX n e ?_
     rw[List.mem_filterMap]
     exact⟨yK,List.mem_of_getElem? hi',hn⟩
  ·cases hx
 |[],_::_,σ,σ1,hx,_=>by simp[St.pC] at hx
 |_::_,[],σ,σ1,hx,_=>by simp[St.pC] at hx
theorem Jx:∀{its:List (cM×Mode)},(its.filterMap (·.1.dA)).Nodup->∀{i j:Nat} {x y:cM×Mode} {n:Nat},its[i]? =some x->its[j]? =some y->x.1.dA=some n->y.1.dA=some n->i=j
 |[],_,i,j,x,y,n,hi,_,_,_=>by simp at hi
 |it::its,gi,i,j,x,y,n,hi,hj,hx,hy=>by
  have sJ:(its.filterMap (·.1.dA)).Nodup:=by
   cases hn:it.1.dA with
   |none=>rw[MK hn] at gi;exact gi
   |some n=>rw[AH hn] at gi;exact(List.nodup_cons.1 gi).2
  have nX:∀n,it.1.dA=some n->∀(k:Nat) (z:cM×Mode),its[k]? =some z->z.1.dA≠some n:=by
   intro n hn k z hk e
   rw[AH hn] at gi
   exact(List.nodup_cons.1 gi).1 (List.mem_filterMap.2 ⟨z,List.mem_of_getElem? hk,e⟩)
  cases i with
  |zero=>
   cases j with
   |zero=>rfl
   |succ j=>
    simp at hi hj
    subst hi
    exact absurd hy (nX n hx j y hj)
  |succ i=>
   cases j with
   |zero=>
    simp at hi hj
    subst hj
    exact absurd hx (nX n hy i x hi)
   |succ j=>exact congrArg (·+1) (Jx sJ (i:=i) (j:=j) (by simpa using hi) (by simpa using hj) hx hy)
end
end Go.Am
