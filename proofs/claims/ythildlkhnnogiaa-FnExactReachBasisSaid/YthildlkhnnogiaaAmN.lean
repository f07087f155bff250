/- AmN: calls that change lists of their arguments: what becomes of the caller's names. No condition. -/
import Derived.Test.YthildlkhnnogiaaAmM
set_option linter.unusedVariables false
namespace Go.Am
section
variable {B:Nat} {E:Ex} {w0 w w':World} {G G':Gh} {N:Nat} {h h':Nat->Option aj} {used:Nat->Bool}
variable {P:Program} {o:Oper} {a:Act} {σ σ':St} {Q:Exit->Act->World->Prop}
structure Ds (w':World) (p p':PB) (gr:Bool) (m:Mode) (sz:Nat) (ak:List (List C)):Prop where
 m1:m≠ .aG
 fl:(∀b,¬aP b p.px)\/m=.live
 nl:p'.nl=p.nl
 b:p'.b=p.b
 o:p'.o=p.o
 cap:p'.cap=p.cap
 na:p'.na=p.na
 er:ak=p'.px.map (fun e=>e.map PC.er)
 nlx:p.nl=true->p'.px=[]
 cZ:p.nl=false->lR w' p.b p.o sz p'.px/\p'.px.length<=p.cap
 sep:gF p'.px
 sub:∀b,aP b p'.px->aP b p.px
 live:m=.live->∀k j pc,At p.px k j pc->pc.f6=true->∃cm,At p'.px k j cm/\cm.val=pc.val/\cm.f6=true
 nr:gr=true->m=.live->qg w' sz p'.px
theorem HR.Fq (H:HR B E w G h used []) {S:Nat->Prop} (bn:w.heap.size<=w'.heap.size)
  (hw:∀b,b<w.heap.size->(∀n,S n->¬rP G n b)->w'.heap[b]? =w.heap[b]?) (ik:∀b,b<w.heap.size->Cz w w' b) (kv:G'.Im=G.Im)
  (hS:∀n,S n->∃gr m sz xs ak,h n=some (.row gr m sz xs)/\h' n=some (.row gr m sz ak)/\Ds w' (G.g n) (G'.g n) gr m sz ak)
  (hN:∀n,¬S n->h' n=h n/\G'.g n=G.g n):HR B E w' G' h' used []/\aR w G h (fun n=>used n=true) w' G' h'/\∀n b,aP b (G'.g n).px->aP b (G.g n).px:=by
 have ne:∀n,h' n≠none->h n≠none:=by
  intro n hn
  by_cases hs:S n
  ·obtain⟨gr,m,sz,xs,ak,e1,e2,_⟩:=hS n hs
   rw[e1];simp
  ·rwa[(hN n hs).1] at hn
 have fU:∀n,(G'.g n).nl=(G.g n).nl/\(G'.g n).b=(G.g n).b/\(G'.g n).o=(G.g n).o/\(G'.g n).cap=(G.g n).cap/\(G'.g n).na=(G.g n).na:=by
  intro n
  by_cases hs:S n
  ·obtain⟨gr,m,sz,xs,ak,e1,e2,c⟩:=hS n hs
   exact⟨c.nl,c.b,c.o,c.cap,c.na⟩
  ·rw[(hN n hs).2];exact⟨rfl,rfl,rfl,rfl,rfl⟩
 have sub:∀n b,aP b (G'.g n).px->aP b (G.g n).px:=by
  intro n b hb
  by_cases hs:S n
  ·obtain⟨gr,m,sz,xs,ak,e1,e2,c⟩:=hS n hs
   exact c.sub b hb
  ·rwa[(hN n hs).2] at hb
 have mP:∀n gr m sz ak,h' n=some (.row gr m sz ak)->∃xs,h n=some (.row gr m sz xs):=by
  intro n gr m sz ak hn
  by_cases hs:S n
  ·obtain⟨IP,m1,sE,xs,ry,e1,e2,_⟩:=hS n hs
   rw[e2] at hn
   injection hn with hn
   injection hn with a1 a2 a3 a4
   subst a1 a2 a3
   exact⟨xs,e1⟩
  ·rw[(hN n hs).1] at hn;exact⟨ak,hn⟩
 have Vw:∀n cs,h' n=some (.box cs)->h n=some (.box cs)/\¬S n:=by
  intro n cs hn
  by_cases hs:S n
  ·obtain⟨IP,m1,sE,xs,ry,e1,e2,_⟩:=hS n hs
   rw[e2] at hn;cases hn
  ·rw[(hN n hs).1] at hn;exact⟨hn,hs⟩
 have ahF:∀b,G.Im b->w'.heap[b]? =w.heap[b]? :=by
  intro b hb
  refine hw b (H.e7 b hb) fun n hs hf=>?_
  obtain⟨gr,m,sz,xs,ak,e1,e2,c⟩:=hS n hs
  rcases hf with⟨hl,rfl⟩|hF
  ·exact(H.own n (by rw[e1];simp) hl).1 hb
  ·rcases c.fl with c1|rfl
   ·exact c1 b hF
   ·exact((H.row n gr .live sz xs e1).mode.1 b hF).1 hb
 have Pv:∀n,¬S n->h n≠none->(G.g n).nl=false->w'.heap[(G.g n).b]? =w.heap[(G.g n).b]? :=by
  intro n hs hn hl
  refine hw _ (H.own n hn hl).2.2 fun q hq hf=>?_
  obtain⟨gr,m,sz,xs,ak,e1,e2,c⟩:=hS q hq
  have av:n≠q:=fun e=>hs (e▸hq)
  rcases hf with⟨vh,hb⟩|hF
  ·exact H.inj n q hn (by rw[e1];simp) av hl vh hb
  ·rcases c.fl with c1|rfl
   ·exact c1 _ hF
   ·exact H.live q gr sz xs e1 _ hF n hn hl rfl
 have ahG:∀n gr m sz xs,¬S n->h n=some (.row gr m sz xs)->∀b,aP b (G.g n).px->w'.heap[b]? =w.heap[b]? :=by
  intro n gr m sz xs hs hn b hb
  refine hw _ (H.mO hn hb) fun q hq hf=>?_
  obtain⟨aW,m',ax,ry,abX,e1,e2,c⟩:=hS q hq
  have av:n≠q:=fun e=>hs (e▸hq)
  exact H.Ed av hn e1 c.fl (.inr hb) hf
 have K:aR w G h (fun n=>used n=true) w' G' h':=by
  refine⟨fun b hb=>by rw[kv];exact hb,fun b hb o=>fO (ahF b hb) o,fun n _ hn=>⟨ne n hn,fU n⟩,fun n gr sz ak _ hn=>?_⟩
  obtain⟨xs,e⟩:=mP n gr .live sz ak hn
  refine⟨⟨gr,xs,e⟩,fun k j pc hk hL=>?_⟩
  by_cases hs:S n
  ·obtain⟨IP,m1,sE,ry,abX,e1,e2,c⟩:=hS n hs
   rw[e] at e1
   injection e1 with e1
   injection e1 with _ e1 _ _
   exact c.live e1.symm k j pc hk hL
  ·rw[(hN n hs).2];exact⟨pc,hk,rfl,hL⟩
 refine⟨⟨fun n hn=>H.gT n (ne n hn),fun m cs c n hm=>H.gd m cs c n (Vw m cs hm).1,fun n cs hn=>?_,fun n gr m sz ak hn=>?_,fun n hn hl=>?_,fun n n' hn bh av hl dg=>?_,
  fun b hb=>?_,fun b hb=>H.ov b (by rw[kv] at hb;exact hb),fun n n' gr m sz xs aW m' ax ak hn bh hm bm av b hb aE=>?_,fun n gr sz xs hn b hb n' bh hl=>?_,?_,?_,?_⟩,K,sub⟩
 ·obtain⟨h1,hs⟩:=Vw n cs hn
  obtain⟨a1,a2,a3⟩:=H.box n cs h1
  have hb:=Pv n hs (by rw[h1];simp) a1
  rw[(hN n hs).2]
  refine⟨a1,a2.congr hb,fun j c hj=>?_⟩
  obtain⟨v,v1,v2,v3⟩:=a3 j c hj
  exact⟨v,(fO hb _).trans v1,v2,v3.eJ K fun q hq=>H.gd n cs c q h1 (List.mem_of_getElem? hj) hq⟩
 ·by_cases hs:S n
  ·obtain⟨IP,m1,sE,ry,abX,e1,e2,c⟩:=hS n hs
   rw[e2] at hn
   injection hn with hn
   injection hn with q1 q2 q3 q4
   subst q1 q2 q3 q4
   have hr:=H.row n IP m1 sE ry e1
   refine⟨hr.pos,c.er,fun hl=>?_,fun hl=>?_,fun hl hg=>?_,?_,c.nr⟩
   ·rw[c.nl] at hl
    refine⟨c.nlx hl,fun hg=>?_⟩
    rw[c.cap]
    exact(hr.nl hl).2 hg
   ·rw[c.nl] at hl
    obtain⟨l1,l2,l3⟩:=hr.cZ hl
    obtain⟨c1,c2⟩:=c.cZ hl
    rw[c.b,c.o,c.cap]
    exact⟨(ik _ l1.lt).iT l1,c1,c2⟩
   ·rw[c.nl] at hl
    obtain⟨r2,cur,e,r3,r4⟩:=hr.room hl hg
    obtain⟨ie,s1,s2⟩:=ik (G.g n).b (H.own n (by rw[e1];simp) hl).2.2 cur e r3
    unfold AY
    rw[c.b,c.o,c.cap]
    exact⟨r2,ie,e,s1,s2.trans r4⟩
   ·have hm:=hr.mode
    cases m1 with
    |aG=>exact absurd rfl c.m1
    |af=>exact⟨fun b hb=>by
     have aE:=c.sub b hb
     have:=hm.1 b aE
     exact⟨by rw[kv];exact this.1,(ik b this.2.1.lt).iT this.2.1,this.2.2⟩,c.sep⟩
    |live=>exact⟨fun b hb=>by
     have aE:=c.sub b hb
     have:=hm.1 b aE
     exact⟨by rw[kv];exact this.1,(ik b this.2.1.lt).iT this.2.1,this.2.2⟩,c.sep⟩
  ·rw[(hN n hs).1] at hn
   rw[(hN n hs).2]
   have hr:=H.row n gr m sz ak hn
   have dR:=ahG n gr m sz ak hs hn
   refine⟨hr.pos,hr.er,hr.nl,fun hl=>?_,fun hl hg=>?_,?_,fun hg hm=>(hr.nr hg hm).congr dR⟩
   ·obtain⟨l1,l2,l3⟩:=hr.cZ hl
    have hb:=Pv n hs (by rw[hn];simp) hl
    exact⟨l1.congr hb,l2.congr (fun o=>fO hb o) (fun b' aE o=>fO (dR b' aE) o),l3⟩
   ·obtain⟨r2,cur,e,r3,r4⟩:=hr.room hl hg
    exact⟨r2,cur,e,(Pv n hs (by rw[hn];simp) hl).trans r3,r4⟩
   ·have hm:=hr.mode
    cases m with
    |aG=>exact fun b hb=>by rw[kv];exact hm b hb
    |af=>exact⟨fun b hb=>⟨by rw[kv];exact(hm.1 b hb).1,(hm.1 b hb).2.1.congr (dR b hb),(hm.1 b hb).2.2⟩,hm.2⟩
    |live=>exact⟨fun b hb=>⟨by rw[kv];exact(hm.1 b hb).1,(hm.1 b hb).2.1.congr (dR b hb),(hm.1 b hb).2.2⟩,hm.2⟩
 ·obtain⟨s1,s2,s3,s4,s5⟩:=fU n
  rw[s1] at hl
  rw[s2]
  obtain⟨o1,o2,o3⟩:=H.own n (ne n hn) hl
  exact⟨by rw[kv];exact o1,o2,Nat.lt_of_lt_of_le o3 bn⟩
 ·rw[(fU n).1] at hl
  rw[(fU n').1] at dg
  rw[(fU n).2.1,(fU n').2.1]
  exact H.inj n n' (ne n hn) (ne n' bh) av hl dg
 ·rw[kv] at hb
  exact Nat.lt_of_lt_of_le (H.e7 b hb) bn
 ·obtain⟨x1,e1⟩:=mP n gr m sz xs hn
  obtain⟨x2,e2⟩:=mP n' aW m' ax ak bh
  exact H.eV n n' gr m sz x1 aW m' ax x2 e1 e2 hm bm av b (sub n b hb) (sub n' b aE)
 ·obtain⟨x1,e1⟩:=mP n gr .live sz xs hn
  rw[(fU n').1] at hl
  rw[(fU n').2.1]
  exact H.live n gr sz x1 e1 b (sub n b hb) n' (ne n' bh) hl
 ·intro i pc hi;simp at hi
 ·intro i j pc cm b _ hi;simp at hi
 ·intro i pc n gr m sz xs b hi;simp at hi
def Dx (σ σ1:St) (it:cq) (x:C):Prop:=
 match it with
 |.nil _=>True
 |.row n=>∃gr m rs xs ak,σ.h n=some (.row gr m rs xs)/\x=.list rs ak/\σ1.h n=some (.row gr m rs ak)
 |.nest n k off=>∃gr m rs xs e,σ.h n=some (.row gr m rs xs)/\xs[k]? =some e/\σ1.h n=some (.row gr m rs (xs.set k (e.set off x)))
theorem akW {it:cq} {x:C} {σ1:St} (hx:σ.nG it x=some σ1):σ1.env=σ.env/\σ1.used=σ.used/\(∀n,it.dq≠some n->σ1.h n=σ.h n)/\Dx σ σ1 it x:=by
 cases it with
 |nil sz=>simp only[St.nG] at hx;injection hx with hx;subst hx;exact⟨rfl,rfl,fun _ _=>rfl,trivial⟩
 |row n=>
  cases x with
  |int k i=>simp[St.nG] at hx
  |bool b=>simp[St.nG] at hx
  |list sz xs=>
   simp only[St.nG] at hx
   split at hx
   ·rename_i gr m rs hZ hn
    split at hx
    ·rename_i e
     injection hx with hx
     subst hx
     subst e
     exact⟨rfl,rfl,fun q hq=>bP _ _ _ _ (fun e=>hq (by rw[e];rfl)),gr,m,rs,hZ,xs,hn,rfl,bo _ _ _⟩
    ·cases hx
   ·cases hx
 |nest n k off=>
  simp only[St.nG] at hx
  split at hx
  ·rename_i gr m rs xs hn
   split at hx
   ·rename_i e he
    injection hx with hx
    subst hx
    exact⟨rfl,rfl,fun q hq=>bP _ _ _ _ (fun e=>hq (by rw[e];rfl)),gr,m,rs,xs,e,hn,he,bo _ _ _⟩
   ·cases hx
  ·cases hx
theorem Dx.congr {σ σ1 τ mU:St} {it:cq} {x:C} (hx:Dx σ σ1 it x) (h1:∀n,it.dq=some n->τ.h n=σ.h n) (h2:∀n,it.dq=some n->mU.h n=σ1.h n):Dx τ mU it x:=by
 cases it with
 |nil sz=>trivial
 |row n=>obtain⟨gr,m,rs,xs,ak,e1,e2,e3⟩:=hx;exact⟨gr,m,rs,xs,ak,(h1 n rfl).trans e1,e2,(h2 n rfl).trans e3⟩
 |nest n k off=>obtain⟨gr,m,rs,xs,e,e1,e2,e3⟩:=hx;exact⟨gr,m,rs,xs,e,(h1 n rfl).trans e1,e2,(h2 n rfl).trans e3⟩
theorem Na {it:cq×Mode} {its:List (cq×Mode)} (h:it.1.dq=none):(it::its).filterMap (·.1.dq)=its.filterMap (·.1.dq):=List.filterMap_cons_none h
theorem BC {it:cq×Mode} {its:List (cq×Mode)} {n:Nat} (h:it.1.dq=some n):(it::its).filterMap (·.1.dq)=n::its.filterMap (·.1.dq):=List.filterMap_cons_some h
theorem ZT:∀{its:List (cq×Mode)} {cM:List C} {σ σ1:St},σ.mL its cM=some σ1->(its.filterMap (·.1.dq)).Nodup->σ1.env=σ.env/\σ1.used=σ.used/\
  (∀n,n∉its.filterMap (·.1.dq)->σ1.h n=σ.h n)/\∀(i:Nat) (it:cq×Mode) (x:C),its[i]? =some it->cM[i]? =some x->Dx σ σ1 it.1 x
 |[],[],σ,σ1,hx,d7=>by
  simp only[St.mL] at hx
  injection hx with hx
  subst hx
  exact⟨rfl,rfl,fun _ _=>rfl,by intro i it x h;simp at h⟩
 |it::its,x::cM,σ,σ2,hx,d7=>by
  simp only[St.mL] at hx
  split at hx
  ·rename_i σ1 e1
   obtain⟨p1,p2,p3,p4⟩:=akW e1
   have tu:(its.filterMap (·.1.dq)).Nodup:=by
    cases hn:it.1.dq with
    |none=>rw[Na hn] at d7;exact d7
    |some n=>rw[BC hn] at d7;exact(List.nodup_cons.1 d7).2
   have ly:∀n,it.1.dq=some n->n∉its.filterMap (·.1.dq):=by
    intro n hn
    rw[BC hn] at d7
    exact(List.nodup_cons.1 d7).1
   obtain⟨q1,q2,q3,q4⟩:=ZT hx tu
   refine⟨q1.trans p1,q2.trans p2,fun n hn=>?_,fun i zR x' hi eZ=>?_⟩
   ·have h1:it.1.dq≠some n:=by
     intro e
     rw[BC e] at hn
     exact hn (by simp)
    have h2:n∉its.filterMap (·.1.dq):=by
     intro hm
     apply hn
     cases hq:it.1.dq with
     |none=>rw[Na hq];exact hm
     |some q=>rw[BC hq];exact List.mem_cons_of_mem _ hm
    exact(q3 n h2).trans (p3 n h1)
   ·cases i with
    |zero=>
     simp at hi eZ
     subst hi
     subst eZ
     exact p4.congr (fun _ _=>rfl) (fun n hn=>q3 n (ly n hn))
    |succ i=>
     have hi':its[i]? =some zR:=by simpa using hi
     refine(q4 i zR x' hi' (by simpa using eZ)).congr (fun n hn=>?_) (fun _ _=>rfl)
     refine(p3 n ?_).symm
     intro e
     refine ly n e ?_
     rw[List.mem_filterMap]
     exact⟨zR,List.mem_of_getElem? hi',hn⟩
  ·cases hx
 |[],_::_,σ,σ1,hx,_=>by simp[St.mL] at hx
 |_::_,[],σ,σ1,hx,_=>by simp[St.mL] at hx
theorem JT:∀{its:List (cq×Mode)},(its.filterMap (·.1.dq)).Nodup->∀{i j:Nat} {x y:cq×Mode} {n:Nat},its[i]? =some x->its[j]? =some y->x.1.dq=some n->y.1.dq=some n->i=j
 |[],_,i,j,x,y,n,hi,_,_,_=>by simp at hi
 |it::its,d7,i,j,x,y,n,hi,hj,hx,hy=>by
  have tu:(its.filterMap (·.1.dq)).Nodup:=by
   cases hn:it.1.dq with
   |none=>rw[Na hn] at d7;exact d7
   |some n=>rw[BC hn] at d7;exact(List.nodup_cons.1 d7).2
  have ly:∀n,it.1.dq=some n->∀(k:Nat) (z:cq×Mode),its[k]? =some z->z.1.dq≠some n:=by
   intro n hn k z hk e
   rw[BC hn] at d7
   exact(List.nodup_cons.1 d7).1 (List.mem_filterMap.2 ⟨z,List.mem_of_getElem? hk,e⟩)
  cases i with
  |zero=>
   cases j with
   |zero=>rfl
   |succ j=>
    simp at hi hj
    subst hi
    exact absurd hy (ly n hx j y hj)
  |succ i=>
   cases j with
   |zero=>
    simp at hi hj
    subst hj
    exact absurd hx (ly n hy i x hi)
   |succ j=>exact congrArg (·+1) (JT tu (i:=i) (j:=j) (by simpa using hi) (by simpa using hj) hx hy)
end
end Go.Am
