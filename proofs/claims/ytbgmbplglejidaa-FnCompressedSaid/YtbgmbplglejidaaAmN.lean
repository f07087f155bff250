/- AmN: calls that change lists of their arguments: what becomes of the caller's names. No condition. -/
import Derived.Test.YtbgmbplglejidaaAmM
set_option linter.unusedVariables false
namespace Go.Am
section
variable {B:Nat} {E:Ex} {w0 w w':World} {G G':Gh} {N:Nat} {h h':Nat->Option ao} {used:Nat->Bool}
variable {P:Program} {o:Oper} {a:Act} {σ σ':St} {Q:Exit->Act->World->Prop}
structure Gm (w':World) (p p':PB) (gr:Bool) (m:Mode) (sz:Nat) (aq:List (List C)):Prop where
 m1:m≠ .aF
 fl:(∀b,¬aX b p.px)\/m=.live
 nl:p'.nl=p.nl
 b:p'.b=p.b
 o:p'.o=p.o
 cap:p'.cap=p.cap
 na:p'.na=p.na
 er:aq=p'.px.map (fun e=>e.map PC.er)
 nlx:p.nl=true->p'.px=[]
 dV:p.nl=false->pg w' p.b p.o sz p'.px/\p'.px.length<=p.cap
 sep:iy p'.px
 sub:∀b,aX b p'.px->aX b p.px
 live:m=.live->∀k j pc,At p.px k j pc->pc.gL=true->∃dn,At p'.px k j dn/\dn.val=pc.val/\dn.gL=true
theorem HR.Km (H:HR B E w G h used []) {S:Nat->Prop} (bI:w.heap.size<=w'.heap.size)
  (hw:∀b,b<w.heap.size->(∀n,S n->¬rZ G n b)->w'.heap[b]? =w.heap[b]?) (mq:∀b,b<w.heap.size->Cz w w' b) (mW:G'.Im=G.Im)
  (hS:∀n,S n->∃gr m sz xs aq,h n=some (.row gr m sz xs)/\h' n=some (.row gr m sz aq)/\Gm w' (G.g n) (G'.g n) gr m sz aq)
  (hN:∀n,¬S n->h' n=h n/\G'.g n=G.g n):HR B E w' G' h' used []/\bf w G h (fun n=>used n=true) w' G' h'/\∀n b,aX b (G'.g n).px->aX b (G.g n).px:=by
 have ne:∀n,h' n≠none->h n≠none:=by
  intro n hn
  by_cases hs:S n
  ·obtain⟨gr,m,sz,xs,aq,e1,e2,_⟩:=hS n hs
   rw[e1];simp
  ·rwa[(hN n hs).1] at hn
 have f9:∀n,(G'.g n).nl=(G.g n).nl/\(G'.g n).b=(G.g n).b/\(G'.g n).o=(G.g n).o/\(G'.g n).cap=(G.g n).cap/\(G'.g n).na=(G.g n).na:=by
  intro n
  by_cases hs:S n
  ·obtain⟨gr,m,sz,xs,aq,e1,e2,c⟩:=hS n hs
   exact⟨c.nl,c.b,c.o,c.cap,c.na⟩
  ·rw[(hN n hs).2];exact⟨rfl,rfl,rfl,rfl,rfl⟩
 have sub:∀n b,aX b (G'.g n).px->aX b (G.g n).px:=by
  intro n b hb
  by_cases hs:S n
  ·obtain⟨gr,m,sz,xs,aq,e1,e2,c⟩:=hS n hs
   exact c.sub b hb
  ·rwa[(hN n hs).2] at hb
 have nv:∀n gr m sz aq,h' n=some (.row gr m sz aq)->∃xs,h n=some (.row gr m sz xs):=by
  intro n gr m sz aq hn
  by_cases hs:S n
  ·obtain⟨Jf,m1,sG,xs,rG,e1,e2,_⟩:=hS n hs
   rw[e2] at hn
   injection hn with hn
   injection hn with a1 a2 a3 a4
   subst a1 a2 a3
   exact⟨xs,e1⟩
  ·rw[(hN n hs).1] at hn;exact⟨aq,hn⟩
 have W9:∀n cs,h' n=some (.box cs)->h n=some (.box cs)/\¬S n:=by
  intro n cs hn
  by_cases hs:S n
  ·obtain⟨Jf,m1,sG,xs,rG,e1,e2,_⟩:=hS n hs
   rw[e2] at hn;cases hn
  ·rw[(hN n hs).1] at hn;exact⟨hn,hs⟩
 have ajP:∀b,G.Im b->w'.heap[b]? =w.heap[b]? :=by
  intro b hb
  refine hw b (H.fW b hb) fun n hs hf=>?_
  obtain⟨gr,m,sz,xs,aq,e1,e2,c⟩:=hS n hs
  rcases hf with⟨hl,rfl⟩|hF
  ·exact(H.own n (by rw[e1];simp) hl).1 hb
  ·rcases c.fl with c1|rfl
   ·exact c1 b hF
   ·exact((H.row n gr .live sz xs e1).mode.1 b hF).1 hb
 have Qo:∀n,¬S n->h n≠none->(G.g n).nl=false->w'.heap[(G.g n).b]? =w.heap[(G.g n).b]? :=by
  intro n hs hn hl
  refine hw _ (H.own n hn hl).2.2 fun q hq hf=>?_
  obtain⟨gr,m,sz,xs,aq,e1,e2,c⟩:=hS q hq
  have aC:n≠q:=fun e=>hs (e▸hq)
  rcases hf with⟨yI,hb⟩|hF
  ·exact H.inj n q hn (by rw[e1];simp) aC hl yI hb
  ·rcases c.fl with c1|rfl
   ·exact c1 _ hF
   ·exact H.live q gr sz xs e1 _ hF n hn hl rfl
 have ajQ:∀n gr m sz xs,¬S n->h n=some (.row gr m sz xs)->∀b,aX b (G.g n).px->w'.heap[b]? =w.heap[b]? :=by
  intro n gr m sz xs hs hn b hb
  refine hw _ (H.rq hn hb) fun q hq hf=>?_
  obtain⟨bm,m',aJ,rG,ad0,e1,e2,c⟩:=hS q hq
  have aC:n≠q:=fun e=>hs (e▸hq)
  exact H.Ee aC hn e1 c.fl (.inr hb) hf
 have K:bf w G h (fun n=>used n=true) w' G' h':=by
  refine⟨fun b hb=>by rw[mW];exact hb,fun b hb o=>iJ (ajP b hb) o,fun n _ hn=>⟨ne n hn,f9 n⟩,fun n gr sz aq _ hn=>?_⟩
  obtain⟨xs,e⟩:=nv n gr .live sz aq hn
  refine⟨⟨gr,xs,e⟩,fun k j pc hk hL=>?_⟩
  by_cases hs:S n
  ·obtain⟨Jf,m1,sG,rG,ad0,e1,e2,c⟩:=hS n hs
   rw[e] at e1
   injection e1 with e1
   injection e1 with _ e1 _ _
   exact c.live e1.symm k j pc hk hL
  ·rw[(hN n hs).2];exact⟨pc,hk,rfl,hL⟩
 refine⟨⟨fun n hn=>H.iK n (ne n hn),fun m cs c n hm=>H.gV m cs c n (W9 m cs hm).1,fun n cs hn=>?_,fun n gr m sz aq hn=>?_,fun n hn hl=>?_,fun n n' hn bk aC hl dE=>?_,
  fun b hb=>?_,fun b hb=>H.pP b (by rw[mW] at hb;exact hb),fun n n' gr m sz xs bm m' aJ aq hn bk hm bM aC b hb aY=>?_,fun n gr sz xs hn b hb n' bk hl=>?_,?_,?_,?_⟩,K,sub⟩
 ·obtain⟨h1,hs⟩:=W9 n cs hn
  obtain⟨a1,a2,a3⟩:=H.box n cs h1
  have hb:=Qo n hs (by rw[h1];simp) a1
  rw[(hN n hs).2]
  refine⟨a1,a2.congr hb,fun j c hj=>?_⟩
  obtain⟨v,v1,v2,v3⟩:=a3 j c hj
  exact⟨v,(iJ hb _).trans v1,v2,v3.ff K fun q hq=>H.gV n cs c q h1 (List.mem_of_getElem? hj) hq⟩
 ·by_cases hs:S n
  ·obtain⟨Jf,m1,sG,rG,ad0,e1,e2,c⟩:=hS n hs
   rw[e2] at hn
   injection hn with hn
   injection hn with q1 q2 q3 q4
   subst q1 q2 q3 q4
   have hr:=H.row n Jf m1 sG rG e1
   refine⟨hr.pos,c.er,fun hl=>?_,fun hl=>?_,fun hl hg=>?_,?_⟩
   ·rw[c.nl] at hl
    refine⟨c.nlx hl,fun hg=>?_⟩
    rw[c.cap]
    exact(hr.nl hl).2 hg
   ·rw[c.nl] at hl
    obtain⟨l1,l2,l3⟩:=hr.dV hl
    obtain⟨c1,c2⟩:=c.dV hl
    rw[c.b,c.o,c.cap]
    exact⟨(mq _ l1.lt).iu l1,c1,c2⟩
   ·rw[c.nl] at hl
    obtain⟨r2,cur,e,r3,r4⟩:=hr.room hl hg
    obtain⟨jC,s1,s2⟩:=mq (G.g n).b (H.own n (by rw[e1];simp) hl).2.2 cur e r3
    unfold GV
    rw[c.b,c.o,c.cap]
    exact⟨r2,jC,e,s1,s2.trans r4⟩
   ·have hm:=hr.mode
    cases m1 with
    |aF=>exact absurd rfl c.m1
    |ab=>exact⟨fun b hb=>by
     have aY:=c.sub b hb
     have:=hm.1 b aY
     exact⟨by rw[mW];exact this.1,(mq b this.2.1.lt).iu this.2.1,this.2.2⟩,c.sep⟩
    |live=>exact⟨fun b hb=>by
     have aY:=c.sub b hb
     have:=hm.1 b aY
     exact⟨by rw[mW];exact this.1,(mq b this.2.1.lt).iu this.2.1,this.2.2⟩,c.sep⟩
  ·rw[(hN n hs).1] at hn
   rw[(hN n hs).2]
   have hr:=H.row n gr m sz aq hn
   have eW:=ajQ n gr m sz aq hs hn
   refine⟨hr.pos,hr.er,hr.nl,fun hl=>?_,fun hl hg=>?_,?_⟩
   ·obtain⟨l1,l2,l3⟩:=hr.dV hl
    have hb:=Qo n hs (by rw[hn];simp) hl
    exact⟨l1.congr hb,l2.congr (fun o=>iJ hb o) (fun b' aY o=>iJ (eW b' aY) o),l3⟩
   ·obtain⟨r2,cur,e,r3,r4⟩:=hr.room hl hg
    exact⟨r2,cur,e,(Qo n hs (by rw[hn];simp) hl).trans r3,r4⟩
   ·have hm:=hr.mode
    cases m with
    |aF=>exact fun b hb=>by rw[mW];exact hm b hb
    |ab=>exact⟨fun b hb=>⟨by rw[mW];exact(hm.1 b hb).1,(hm.1 b hb).2.1.congr (eW b hb),(hm.1 b hb).2.2⟩,hm.2⟩
    |live=>exact⟨fun b hb=>⟨by rw[mW];exact(hm.1 b hb).1,(hm.1 b hb).2.1.congr (eW b hb),(hm.1 b hb).2.2⟩,hm.2⟩
 ·obtain⟨s1,s2,s3,s4,s5⟩:=f9 n
  rw[s1] at hl
  rw[s2]
  obtain⟨o1,o2,o3⟩:=H.own n (ne n hn) hl
  exact⟨by rw[mW];exact o1,o2,Nat.lt_of_lt_of_le o3 bI⟩
 ·rw[(f9 n).1] at hl
  rw[(f9 n').1] at dE
  rw[(f9 n).2.1,(f9 n').2.1]
  exact H.inj n n' (ne n hn) (ne n' bk) aC hl dE
 ·rw[mW] at hb
  exact Nat.lt_of_lt_of_le (H.fW b hb) bI
 ·obtain⟨x1,e1⟩:=nv n gr m sz xs hn
  obtain⟨x2,e2⟩:=nv n' bm m' aJ aq bk
  exact H.fI n n' gr m sz x1 bm m' aJ x2 e1 e2 hm bM aC b (sub n b hb) (sub n' b aY)
 ·obtain⟨x1,e1⟩:=nv n gr .live sz xs hn
  rw[(f9 n').1] at hl
  rw[(f9 n').2.1]
  exact H.live n gr sz x1 e1 b (sub n b hb) n' (ne n' bk) hl
 ·intro i pc hi;simp at hi
 ·intro i j pc dn b _ hi;simp at hi
 ·intro i pc n gr m sz xs b hi;simp at hi
def Dh (σ σ1:St) (it:cR) (x:C):Prop:=
 match it with
 |.nil _=>True
 |.row n=>∃gr m rs xs aq,σ.h n=some (.row gr m rs xs)/\x=.list rs aq/\σ1.h n=some (.row gr m rs aq)
 |.nest n k off=>∃gr m rs xs e,σ.h n=some (.row gr m rs xs)/\xs[k]? =some e/\σ1.h n=some (.row gr m rs (xs.set k (e.set off x)))
theorem anI {it:cR} {x:C} {σ1:St} (hx:σ.nX it x=some σ1):σ1.env=σ.env/\σ1.used=σ.used/\(∀n,it.dF≠some n->σ1.h n=σ.h n)/\Dh σ σ1 it x:=by
 cases it with
 |nil sz=>simp only[St.nX] at hx;injection hx with hx;subst hx;exact⟨rfl,rfl,fun _ _=>rfl,trivial⟩
 |row n=>
  cases x with
  |int k i=>simp[St.nX] at hx
  |bool b=>simp[St.nX] at hx
  |list sz xs=>
   simp only[St.nX] at hx
   split at hx
   ·rename_i gr m rs kR hn
    split at hx
    ·rename_i e
     injection hx with hx
     subst hx
     subst e
     exact⟨rfl,rfl,fun q hq=>cz _ _ _ _ (fun e=>hq (by rw[e];rfl)),gr,m,rs,kR,xs,hn,rfl,bG _ _ _⟩
    ·cases hx
   ·cases hx
 |nest n k off=>
  simp only[St.nX] at hx
  split at hx
  ·rename_i gr m rs xs hn
   split at hx
   ·rename_i e he
    injection hx with hx
    subst hx
    exact⟨rfl,rfl,fun q hq=>cz _ _ _ _ (fun e=>hq (by rw[e];rfl)),gr,m,rs,xs,e,hn,he,bG _ _ _⟩
   ·cases hx
  ·cases hx
theorem Dh.congr {σ σ1 τ o8:St} {it:cR} {x:C} (hx:Dh σ σ1 it x) (h1:∀n,it.dF=some n->τ.h n=σ.h n) (h2:∀n,it.dF=some n->o8.h n=σ1.h n):Dh τ o8 it x:=by
 cases it with
 |nil sz=>trivial
 |row n=>obtain⟨gr,m,rs,xs,aq,e1,e2,e3⟩:=hx;exact⟨gr,m,rs,xs,aq,(h1 n rfl).trans e1,e2,(h2 n rfl).trans e3⟩
 |nest n k off=>obtain⟨gr,m,rs,xs,e,e1,e2,e3⟩:=hx;exact⟨gr,m,rs,xs,e,(h1 n rfl).trans e1,e2,(h2 n rfl).trans e3⟩
theorem NI {it:cR×Mode} {its:List (cR×Mode)} (h:it.1.dF=none):(it::its).filterMap (·.1.dF)=its.filterMap (·.1.dF):=List.filterMap_cons_none h
theorem Bh {it:cR×Mode} {its:List (cR×Mode)} {n:Nat} (h:it.1.dF=some n):(it::its).filterMap (·.1.dF)=n::its.filterMap (·.1.dF):=List.filterMap_cons_some h
theorem abN:∀{its:List (cR×Mode)} {eZ:List C} {σ σ1:St},σ.qa its eZ=some σ1->(its.filterMap (·.1.dF)).Nodup->σ1.env=σ.env/\σ1.used=σ.used/\
  (∀n,n∉its.filterMap (·.1.dF)->σ1.h n=σ.h n)/\∀(i:Nat) (it:cR×Mode) (x:C),its[i]? =some it->eZ[i]? =some x->Dh σ σ1 it.1 x
 |[],[],σ,σ1,hx,gz=>by
  simp only[St.qa] at hx
  injection hx with hx
  subst hx
  exact⟨rfl,rfl,fun _ _=>rfl,by intro i it x h;simp at h⟩
 |it::its,x::eZ,σ,σ2,hx,gz=>by
  simp only[St.qa] at hx
  split at hx
  ·rename_i σ1 e1
   obtain⟨p1,p2,p3,p4⟩:=anI e1
   have th:(its.filterMap (·.1.dF)).Nodup:=by
    cases hn:it.1.dF with
    |none=>rw[NI hn] at gz;exact gz
    |some n=>rw[Bh hn] at gz;exact(List.nodup_cons.1 gz).2
   have oD:∀n,it.1.dF=some n->n∉its.filterMap (·.1.dF):=by
    intro n hn
    rw[Bh hn] at gz
    exact(List.nodup_cons.1 gz).1
   obtain⟨q1,q2,q3,q4⟩:=abN hx th
   refine⟨q1.trans p1,q2.trans p2,fun n hn=>?_,fun i y6 x' hi fM=>?_⟩
   ·have h1:it.1.dF≠some n:=by
     intro e
     rw[Bh e] at hn
     exact hn (by simp)
    have h2:n∉its.filterMap (·.1.dF):=by
     intro hm
     apply hn
     cases hq:it.1.dF with
     |none=>rw[NI hq];exact hm
     |some q=>rw[Bh hq];exact List.mem_cons_of_mem _ hm
    exact(q3 n h2).trans (p3 n h1)
   ·cases i with
    |zero=>
     simp at hi fM
     subst hi
     subst fM
     exact p4.congr (fun _ _=>rfl) (fun n hn=>q3 n (oD n hn))
    |succ i=>
     have hi':its[i]? =some y6:=by simpa using hi
     refine(q4 i y6 x' hi' (by simpa using fM)).congr (fun n hn=>?_) (fun _ _=>rfl)
     refine(p3 n ?_).symm
     intro e
     refine oD n e ?_
     rw[List.mem_filterMap]
     exact⟨y6,List.mem_of_getElem? hi',hn⟩
  ·cases hx
 |[],_::_,σ,σ1,hx,_=>by simp[St.qa] at hx
 |_::_,[],σ,σ1,hx,_=>by simp[St.qa] at hx
theorem Kn:∀{its:List (cR×Mode)},(its.filterMap (·.1.dF)).Nodup->∀{i j:Nat} {x y:cR×Mode} {n:Nat},its[i]? =some x->its[j]? =some y->x.1.dF=some n->y.1.dF=some n->i=j
 |[],_,i,j,x,y,n,hi,_,_,_=>by simp at hi
 |it::its,gz,i,j,x,y,n,hi,hj,hx,hy=>by
  have th:(its.filterMap (·.1.dF)).Nodup:=by
   cases hn:it.1.dF with
   |none=>rw[NI hn] at gz;exact gz
   |some n=>rw[Bh hn] at gz;exact(List.nodup_cons.1 gz).2
  have oD:∀n,it.1.dF=some n->∀(k:Nat) (z:cR×Mode),its[k]? =some z->z.1.dF≠some n:=by
   intro n hn k z hk e
   rw[Bh hn] at gz
   exact(List.nodup_cons.1 gz).1 (List.mem_filterMap.2 ⟨z,List.mem_of_getElem? hk,e⟩)
  cases i with
  |zero=>
   cases j with
   |zero=>rfl
   |succ j=>
    simp at hi hj
    subst hi
    exact absurd hy (oD n hx j y hj)
  |succ i=>
   cases j with
   |zero=>
    simp at hi hj
    subst hj
    exact absurd hx (oD n hy i x hi)
   |succ j=>exact congrArg (·+1) (Kn th (i:=i) (j:=j) (by simpa using hi) (by simpa using hj) hx hy)
end
end Go.Am
