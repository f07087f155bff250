/- AmN: calls that change lists of their arguments: what becomes of the caller's names. No condition. -/
import Derived.Test.YtifmggmhdcdgbaaAmM
set_option linter.unusedVariables false
namespace Go.Am
section
variable {B:Nat} {E:Ex} {w0 w w':World} {G G':Gh} {N:Nat} {h h':Nat->Option ar} {used:Nat->Bool}
variable {P:Program} {o:Oper} {a:Act} {σ σ':St} {Q:Exit->Act->World->Prop}
structure FO (w':World) (p p':PB) (gr:Bool) (m:Mode) (sz:Nat) (av:List (List C)):Prop where
 m1:m≠ .aA
 fl:(∀b,¬aS b p.px)\/m=.live
 nl:p'.nl=p.nl
 b:p'.b=p.b
 o:p'.o=p.o
 cap:p'.cap=p.cap
 na:p'.na=p.na
 er:av=p'.px.map (fun e=>e.map PC.er)
 nlx:p.nl=true->p'.px=[]
 dD:p.nl=false->oF w' p.b p.o sz p'.px/\p'.px.length<=p.cap
 sep:g7 p'.px
 sub:∀b,aS b p'.px->aS b p.px
 live:m=.live->∀k j pc,At p.px k j pc->pc.gk=true->∃c6,At p'.px k j c6/\c6.val=pc.val/\c6.gk=true
theorem HR.Rr (H:HR B E w G h used []) {S:Nat->Prop} (bD:w.heap.size<=w'.heap.size)
  (hw:∀b,b<w.heap.size->(∀n,S n->¬su G n b)->w'.heap[b]? =w.heap[b]?) (lv:∀b,b<w.heap.size->Cz w w' b) (lY:G'.Im=G.Im)
  (hS:∀n,S n->∃gr m sz xs av,h n=some (.row gr m sz xs)/\h' n=some (.row gr m sz av)/\FO w' (G.g n) (G'.g n) gr m sz av)
  (hN:∀n,¬S n->h' n=h n/\G'.g n=G.g n):HR B E w' G' h' used []/\aW w G h (fun n=>used n=true) w' G' h'/\∀n b,aS b (G'.g n).px->aS b (G.g n).px:=by
 have ne:∀n,h' n≠none->h n≠none:=by
  intro n hn
  by_cases hs:S n
  ·obtain⟨gr,m,sz,xs,av,e1,e2,_⟩:=hS n hs
   rw[e1];simp
  ·rwa[(hN n hs).1] at hn
 have fM:∀n,(G'.g n).nl=(G.g n).nl/\(G'.g n).b=(G.g n).b/\(G'.g n).o=(G.g n).o/\(G'.g n).cap=(G.g n).cap/\(G'.g n).na=(G.g n).na:=by
  intro n
  by_cases hs:S n
  ·obtain⟨gr,m,sz,xs,av,e1,e2,c⟩:=hS n hs
   exact⟨c.nl,c.b,c.o,c.cap,c.na⟩
  ·rw[(hN n hs).2];exact⟨rfl,rfl,rfl,rfl,rfl⟩
 have sub:∀n b,aS b (G'.g n).px->aS b (G.g n).px:=by
  intro n b hb
  by_cases hs:S n
  ·obtain⟨gr,m,sz,xs,av,e1,e2,c⟩:=hS n hs
   exact c.sub b hb
  ·rwa[(hN n hs).2] at hb
 have mB:∀n gr m sz av,h' n=some (.row gr m sz av)->∃xs,h n=some (.row gr m sz xs):=by
  intro n gr m sz av hn
  by_cases hs:S n
  ·obtain⟨Ir,m1,xx,xs,vr,e1,e2,_⟩:=hS n hs
   rw[e2] at hn
   injection hn with hn
   injection hn with a1 a2 a3 a4
   subst a1 a2 a3
   exact⟨xs,e1⟩
  ·rw[(hN n hs).1] at hn;exact⟨av,hn⟩
 have VV:∀n cs,h' n=some (.box cs)->h n=some (.box cs)/\¬S n:=by
  intro n cs hn
  by_cases hs:S n
  ·obtain⟨Ir,m1,xx,xs,vr,e1,e2,_⟩:=hS n hs
   rw[e2] at hn;cases hn
  ·rw[(hN n hs).1] at hn;exact⟨hn,hs⟩
 have aiW:∀b,G.Im b->w'.heap[b]? =w.heap[b]? :=by
  intro b hb
  refine hw b (H.fI b hb) fun n hs hf=>?_
  obtain⟨gr,m,sz,xs,av,e1,e2,c⟩:=hS n hs
  rcases hf with⟨hl,rfl⟩|hF
  ·exact(H.own n (by rw[e1];simp) hl).1 hb
  ·rcases c.fl with c1|rfl
   ·exact c1 b hF
   ·exact((H.row n gr .live sz xs e1).mode.1 b hF).1 hb
 have PL:∀n,¬S n->h n≠none->(G.g n).nl=false->w'.heap[(G.g n).b]? =w.heap[(G.g n).b]? :=by
  intro n hs hn hl
  refine hw _ (H.own n hn hl).2.2 fun q hq hf=>?_
  obtain⟨gr,m,sz,xs,av,e1,e2,c⟩:=hS q hq
  have ax:n≠q:=fun e=>hs (e▸hq)
  rcases hf with⟨DU,hb⟩|hF
  ·exact H.inj n q hn (by rw[e1];simp) ax hl DU hb
  ·rcases c.fl with c1|rfl
   ·exact c1 _ hF
   ·exact H.live q gr sz xs e1 _ hF n hn hl rfl
 have aiX:∀n gr m sz xs,¬S n->h n=some (.row gr m sz xs)->∀b,aS b (G.g n).px->w'.heap[b]? =w.heap[b]? :=by
  intro n gr m sz xs hs hn b hb
  refine hw _ (H.qC hn hb) fun q hq hf=>?_
  obtain⟨bk,m',aK,vr,acR,e1,e2,c⟩:=hS q hq
  have ax:n≠q:=fun e=>hs (e▸hq)
  exact H.Io ax hn e1 c.fl (.inr hb) hf
 have K:aW w G h (fun n=>used n=true) w' G' h':=by
  refine⟨fun b hb=>by rw[lY];exact hb,fun b hb o=>io (aiW b hb) o,fun n _ hn=>⟨ne n hn,fM n⟩,fun n gr sz av _ hn=>?_⟩
  obtain⟨xs,e⟩:=mB n gr .live sz av hn
  refine⟨⟨gr,xs,e⟩,fun k j pc hk hL=>?_⟩
  by_cases hs:S n
  ·obtain⟨Ir,m1,xx,vr,acR,e1,e2,c⟩:=hS n hs
   rw[e] at e1
   injection e1 with e1
   injection e1 with _ e1 _ _
   exact c.live e1.symm k j pc hk hL
  ·rw[(hN n hs).2];exact⟨pc,hk,rfl,hL⟩
 refine⟨⟨fun n hn=>H.iS n (ne n hn),fun m cs c n hm=>H.gy m cs c n (VV m cs hm).1,fun n cs hn=>?_,fun n gr m sz av hn=>?_,fun n hn hl=>?_,fun n n' hn bm ax hl dt=>?_,
  fun b hb=>?_,fun b hb=>H.oT b (by rw[lY] at hb;exact hb),fun n n' gr m sz xs bk m' aK av hn bm hm bB ax b hb aT=>?_,fun n gr sz xs hn b hb n' bm hl=>?_,?_,?_,?_⟩,K,sub⟩
 ·obtain⟨h1,hs⟩:=VV n cs hn
  obtain⟨a1,a2,a3⟩:=H.box n cs h1
  have hb:=PL n hs (by rw[h1];simp) a1
  rw[(hN n hs).2]
  refine⟨a1,a2.congr hb,fun j c hj=>?_⟩
  obtain⟨v,v1,v2,v3⟩:=a3 j c hj
  exact⟨v,(io hb _).trans v1,v2,v3.eM K fun q hq=>H.gy n cs c q h1 (List.mem_of_getElem? hj) hq⟩
 ·by_cases hs:S n
  ·obtain⟨Ir,m1,xx,vr,acR,e1,e2,c⟩:=hS n hs
   rw[e2] at hn
   injection hn with hn
   injection hn with q1 q2 q3 q4
   subst q1 q2 q3 q4
   have hr:=H.row n Ir m1 xx vr e1
   refine⟨hr.pos,c.er,fun hl=>?_,fun hl=>?_,fun hl hg=>?_,?_⟩
   ·rw[c.nl] at hl
    refine⟨c.nlx hl,fun hg=>?_⟩
    rw[c.cap]
    exact(hr.nl hl).2 hg
   ·rw[c.nl] at hl
    obtain⟨l1,l2,l3⟩:=hr.dD hl
    obtain⟨c1,c2⟩:=c.dD hl
    rw[c.b,c.o,c.cap]
    exact⟨(lv _ l1.lt).kg l1,c1,c2⟩
   ·rw[c.nl] at hl
    obtain⟨r2,cur,e,r3,r4⟩:=hr.room hl hg
    obtain⟨jm,s1,s2⟩:=lv (G.g n).b (H.own n (by rw[e1];simp) hl).2.2 cur e r3
    unfold Gr
    rw[c.b,c.o,c.cap]
    exact⟨r2,jm,e,s1,s2.trans r4⟩
   ·have hm:=hr.mode
    cases m1 with
    |aA=>exact absurd rfl c.m1
    |ab=>exact⟨fun b hb=>by
     have aT:=c.sub b hb
     have:=hm.1 b aT
     exact⟨by rw[lY];exact this.1,(lv b this.2.1.lt).kg this.2.1,this.2.2⟩,c.sep⟩
    |live=>exact⟨fun b hb=>by
     have aT:=c.sub b hb
     have:=hm.1 b aT
     exact⟨by rw[lY];exact this.1,(lv b this.2.1.lt).kg this.2.1,this.2.2⟩,c.sep⟩
  ·rw[(hN n hs).1] at hn
   rw[(hN n hs).2]
   have hr:=H.row n gr m sz av hn
   have jK:=aiX n gr m sz av hs hn
   refine⟨hr.pos,hr.er,hr.nl,fun hl=>?_,fun hl hg=>?_,?_⟩
   ·obtain⟨l1,l2,l3⟩:=hr.dD hl
    have hb:=PL n hs (by rw[hn];simp) hl
    exact⟨l1.congr hb,l2.congr (fun o=>io hb o) (fun b' aT o=>io (jK b' aT) o),l3⟩
   ·obtain⟨r2,cur,e,r3,r4⟩:=hr.room hl hg
    exact⟨r2,cur,e,(PL n hs (by rw[hn];simp) hl).trans r3,r4⟩
   ·have hm:=hr.mode
    cases m with
    |aA=>exact fun b hb=>by rw[lY];exact hm b hb
    |ab=>exact⟨fun b hb=>⟨by rw[lY];exact(hm.1 b hb).1,(hm.1 b hb).2.1.congr (jK b hb),(hm.1 b hb).2.2⟩,hm.2⟩
    |live=>exact⟨fun b hb=>⟨by rw[lY];exact(hm.1 b hb).1,(hm.1 b hb).2.1.congr (jK b hb),(hm.1 b hb).2.2⟩,hm.2⟩
 ·obtain⟨s1,s2,s3,s4,s5⟩:=fM n
  rw[s1] at hl
  rw[s2]
  obtain⟨o1,o2,o3⟩:=H.own n (ne n hn) hl
  exact⟨by rw[lY];exact o1,o2,Nat.lt_of_lt_of_le o3 bD⟩
 ·rw[(fM n).1] at hl
  rw[(fM n').1] at dt
  rw[(fM n).2.1,(fM n').2.1]
  exact H.inj n n' (ne n hn) (ne n' bm) ax hl dt
 ·rw[lY] at hb
  exact Nat.lt_of_lt_of_le (H.fI b hb) bD
 ·obtain⟨x1,e1⟩:=mB n gr m sz xs hn
  obtain⟨x2,e2⟩:=mB n' bk m' aK av bm
  exact H.fv n n' gr m sz x1 bk m' aK x2 e1 e2 hm bB ax b (sub n b hb) (sub n' b aT)
 ·obtain⟨x1,e1⟩:=mB n gr .live sz xs hn
  rw[(fM n').1] at hl
  rw[(fM n').2.1]
  exact H.live n gr sz x1 e1 b (sub n b hb) n' (ne n' bm) hl
 ·intro i pc hi;simp at hi
 ·intro i j pc c6 b _ hi;simp at hi
 ·intro i pc n gr m sz xs b hi;simp at hi
def CT (σ σ1:St) (it:cZ) (x:C):Prop:=
 match it with
 |.nil _=>True
 |.row n=>∃gr m rs xs av,σ.h n=some (.row gr m rs xs)/\x=.list rs av/\σ1.h n=some (.row gr m rs av)
 |.nest n k off=>∃gr m rs xs e,σ.h n=some (.row gr m rs xs)/\xs[k]? =some e/\σ1.h n=some (.row gr m rs (xs.set k (e.set off x)))
theorem am1 {it:cZ} {x:C} {σ1:St} (hx:σ.nd it x=some σ1):σ1.env=σ.env/\σ1.used=σ.used/\(∀n,it.dE≠some n->σ1.h n=σ.h n)/\CT σ σ1 it x:=by
 cases it with
 |nil sz=>simp only[St.nd] at hx;injection hx with hx;subst hx;exact⟨rfl,rfl,fun _ _=>rfl,trivial⟩
 |row n=>
  cases x with
  |int k i=>simp[St.nd] at hx
  |bool b=>simp[St.nd] at hx
  |list sz xs=>
   simp only[St.nd] at hx
   split at hx
   ·rename_i gr m rs km hn
    split at hx
    ·rename_i e
     injection hx with hx
     subst hx
     subst e
     exact⟨rfl,rfl,fun q hq=>bZ _ _ _ _ (fun e=>hq (by rw[e];rfl)),gr,m,rs,km,xs,hn,rfl,bA _ _ _⟩
    ·cases hx
   ·cases hx
 |nest n k off=>
  simp only[St.nd] at hx
  split at hx
  ·rename_i gr m rs xs hn
   split at hx
   ·rename_i e he
    injection hx with hx
    subst hx
    exact⟨rfl,rfl,fun q hq=>bZ _ _ _ _ (fun e=>hq (by rw[e];rfl)),gr,m,rs,xs,e,hn,he,bA _ _ _⟩
   ·cases hx
  ·cases hx
theorem CT.congr {σ σ1 τ oy:St} {it:cZ} {x:C} (hx:CT σ σ1 it x) (h1:∀n,it.dE=some n->τ.h n=σ.h n) (h2:∀n,it.dE=some n->oy.h n=σ1.h n):CT τ oy it x:=by
 cases it with
 |nil sz=>trivial
 |row n=>obtain⟨gr,m,rs,xs,av,e1,e2,e3⟩:=hx;exact⟨gr,m,rs,xs,av,(h1 n rfl).trans e1,e2,(h2 n rfl).trans e3⟩
 |nest n k off=>obtain⟨gr,m,rs,xs,e,e1,e2,e3⟩:=hx;exact⟨gr,m,rs,xs,e,(h1 n rfl).trans e1,e2,(h2 n rfl).trans e3⟩
theorem M6 {it:cZ×Mode} {its:List (cZ×Mode)} (h:it.1.dE=none):(it::its).filterMap (·.1.dE)=its.filterMap (·.1.dE):=List.filterMap_cons_none h
theorem Ar {it:cZ×Mode} {its:List (cZ×Mode)} {n:Nat} (h:it.1.dE=some n):(it::its).filterMap (·.1.dE)=n::its.filterMap (·.1.dE):=List.filterMap_cons_some h
theorem aaQ:∀{its:List (cZ×Mode)} {ew:List C} {σ σ1:St},σ.o9 its ew=some σ1->(its.filterMap (·.1.dE)).Nodup->σ1.env=σ.env/\σ1.used=σ.used/\
  (∀n,n∉its.filterMap (·.1.dE)->σ1.h n=σ.h n)/\∀(i:Nat) (it:cZ×Mode) (x:C),its[i]? =some it->ew[i]? =some x->CT σ σ1 it.1 x
 |[],[],σ,σ1,hx,fW=>by
  simp only[St.o9] at hx
  injection hx with hx
  subst hx
  exact⟨rfl,rfl,fun _ _=>rfl,by intro i it x h;simp at h⟩
 |it::its,x::ew,σ,σ2,hx,fW=>by
  simp only[St.o9] at hx
  split at hx
  ·rename_i σ1 e1
   obtain⟨p1,p2,p3,p4⟩:=am1 e1
   have ww:(its.filterMap (·.1.dE)).Nodup:=by
    cases hn:it.1.dE with
    |none=>rw[M6 hn] at fW;exact fW
    |some n=>rw[Ar hn] at fW;exact(List.nodup_cons.1 fW).2
   have nM:∀n,it.1.dE=some n->n∉its.filterMap (·.1.dE):=by
    intro n hn
    rw[Ar hn] at fW
    exact(List.nodup_cons.1 fW).1
   obtain⟨q1,q2,q3,q4⟩:=aaQ hx ww
   refine⟨q1.trans p1,q2.trans p2,fun n hn=>?_,fun i yX x' hi dU=>?_⟩
   ·have h1:it.1.dE≠some n:=by
     intro e
     rw[Ar e] at hn
     exact hn (by simp)
    have h2:n∉its.filterMap (·.1.dE):=by
     intro hm
     apply hn
     cases hq:it.1.dE with
     |none=>rw[M6 hq];exact hm
     |some q=>rw[Ar hq];exact List.mem_cons_of_mem _ hm
    exact(q3 n h2).trans (p3 n h1)
   ·cases i with
    |zero=>
     simp at hi dU
     subst hi
     subst dU
     exact p4.congr (fun _ _=>rfl) (fun n hn=>q3 n (nM n hn))
    |succ i=>
     have hi':its[i]? =some yX:=by simpa using hi
     refine(q4 i yX x' hi' (by simpa using dU)).congr (fun n hn=>?_) (fun _ _=>rfl)
     refine(p3 n ?_).symm
     intro e
     refine nM n e ?_
     rw[List.mem_filterMap]
     exact⟨yX,List.mem_of_getElem? hi',hn⟩
  ·cases hx
 |[],_::_,σ,σ1,hx,_=>by simp[St.o9] at hx
 |_::_,[],σ,σ1,hx,_=>by simp[St.o9] at hx
theorem Kj:∀{its:List (cZ×Mode)},(its.filterMap (·.1.dE)).Nodup->∀{i j:Nat} {x y:cZ×Mode} {n:Nat},its[i]? =some x->its[j]? =some y->x.1.dE=some n->y.1.dE=some n->i=j
 |[],_,i,j,x,y,n,hi,_,_,_=>by simp at hi
 |it::its,fW,i,j,x,y,n,hi,hj,hx,hy=>by
  have ww:(its.filterMap (·.1.dE)).Nodup:=by
   cases hn:it.1.dE with
   |none=>rw[M6 hn] at fW;exact fW
   |some n=>rw[Ar hn] at fW;exact(List.nodup_cons.1 fW).2
  have nM:∀n,it.1.dE=some n->∀(k:Nat) (z:cZ×Mode),its[k]? =some z->z.1.dE≠some n:=by
   intro n hn k z hk e
   rw[Ar hn] at fW
   exact(List.nodup_cons.1 fW).1 (List.mem_filterMap.2 ⟨z,List.mem_of_getElem? hk,e⟩)
  cases i with
  |zero=>
   cases j with
   |zero=>rfl
   |succ j=>
    simp at hi hj
    subst hi
    exact absurd hy (nM n hx j y hj)
  |succ i=>
   cases j with
   |zero=>
    simp at hi hj
    subst hj
    exact absurd hx (nM n hy i x hi)
   |succ j=>exact congrArg (·+1) (Kj ww (i:=i) (j:=j) (by simpa using hi) (by simpa using hj) hx hy)
end
end Go.Am
