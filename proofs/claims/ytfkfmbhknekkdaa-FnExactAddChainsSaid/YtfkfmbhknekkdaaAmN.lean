/- AmN: calls that change lists of their arguments: what becomes of the caller's names. No condition. -/
import Derived.Test.YtfkfmbhknekkdaaAmM
set_option linter.unusedVariables false
namespace Go.Am
section
variable {B:Nat} {E:Ex} {w0 w w':World} {G G':Gh} {N:Nat} {h h':Nat->Option ak} {used:Nat->Bool}
variable {P:Program} {o:Oper} {a:Act} {σ σ':St} {Q:Exit->Act->World->Prop}
structure Dl (w':World) (p p':PB) (gr:Bool) (m:Mode) (sz:Nat) (ao:List (List C)):Prop where
 m1:m≠ .aF
 fl:(∀b,¬aN b p.px)\/m=.live
 nl:p'.nl=p.nl
 b:p'.b=p.b
 o:p'.o=p.o
 cap:p'.cap=p.cap
 na:p'.na=p.na
 er:ao=p'.px.map (fun e=>e.map PC.er)
 nlx:p.nl=true->p'.px=[]
 dv:p.nl=false->mQ w' p.b p.o sz p'.px/\p'.px.length<=p.cap
 sep:gx p'.px
 sub:∀b,aN b p'.px->aN b p.px
 live:m=.live->∀k j pc,At p.px k j pc->pc.fR=true->∃dd,At p'.px k j dd/\dd.val=pc.val/\dd.fR=true
theorem HR.Gm (H:HR B E w G h used []) {S:Nat->Prop} (bo:w.heap.size<=w'.heap.size)
  (hw:∀b,b<w.heap.size->(∀n,S n->¬qJ G n b)->w'.heap[b]? =w.heap[b]?) (jY:∀b,b<w.heap.size->Cz w w' b) (kH:G'.Im=G.Im)
  (hS:∀n,S n->∃gr m sz xs ao,h n=some (.row gr m sz xs)/\h' n=some (.row gr m sz ao)/\Dl w' (G.g n) (G'.g n) gr m sz ao)
  (hN:∀n,¬S n->h' n=h n/\G'.g n=G.g n):HR B E w' G' h' used []/\aQ w G h (fun n=>used n=true) w' G' h'/\∀n b,aN b (G'.g n).px->aN b (G.g n).px:=by
 have ne:∀n,h' n≠none->h n≠none:=by
  intro n hn
  by_cases hs:S n
  ·obtain⟨gr,m,sz,xs,ao,e1,e2,_⟩:=hS n hs
   rw[e1];simp
  ·rwa[(hN n hs).1] at hn
 have fA:∀n,(G'.g n).nl=(G.g n).nl/\(G'.g n).b=(G.g n).b/\(G'.g n).o=(G.g n).o/\(G'.g n).cap=(G.g n).cap/\(G'.g n).na=(G.g n).na:=by
  intro n
  by_cases hs:S n
  ·obtain⟨gr,m,sz,xs,ao,e1,e2,c⟩:=hS n hs
   exact⟨c.nl,c.b,c.o,c.cap,c.na⟩
  ·rw[(hN n hs).2];exact⟨rfl,rfl,rfl,rfl,rfl⟩
 have sub:∀n b,aN b (G'.g n).px->aN b (G.g n).px:=by
  intro n b hb
  by_cases hs:S n
  ·obtain⟨gr,m,sz,xs,ao,e1,e2,c⟩:=hS n hs
   exact c.sub b hb
  ·rwa[(hN n hs).2] at hb
 have kY:∀n gr m sz ao,h' n=some (.row gr m sz ao)->∃xs,h n=some (.row gr m sz xs):=by
  intro n gr m sz ao hn
  by_cases hs:S n
  ·obtain⟨Fb,m1,qf,xs,oW,e1,e2,_⟩:=hS n hs
   rw[e2] at hn
   injection hn with hn
   injection hn with a1 a2 a3 a4
   subst a1 a2 a3
   exact⟨xs,e1⟩
  ·rw[(hN n hs).1] at hn;exact⟨ao,hn⟩
 have Rr:∀n cs,h' n=some (.box cs)->h n=some (.box cs)/\¬S n:=by
  intro n cs hn
  by_cases hs:S n
  ·obtain⟨Fb,m1,qf,xs,oW,e1,e2,_⟩:=hS n hs
   rw[e2] at hn;cases hn
  ·rw[(hN n hs).1] at hn;exact⟨hn,hs⟩
 have af1:∀b,G.Im b->w'.heap[b]? =w.heap[b]? :=by
  intro b hb
  refine hw b (H.fv b hb) fun n hs hf=>?_
  obtain⟨gr,m,sz,xs,ao,e1,e2,c⟩:=hS n hs
  rcases hf with⟨hl,rfl⟩|hF
  ·exact(H.own n (by rw[e1];simp) hl).1 hb
  ·rcases c.fl with c1|rfl
   ·exact c1 b hF
   ·exact((H.row n gr .live sz xs e1).mode.1 b hF).1 hb
 have L0:∀n,¬S n->h n≠none->(G.g n).nl=false->w'.heap[(G.g n).b]? =w.heap[(G.g n).b]? :=by
  intro n hs hn hl
  refine hw _ (H.own n hn hl).2.2 fun q hq hf=>?_
  obtain⟨gr,m,sz,xs,ao,e1,e2,c⟩:=hS q hq
  have av:n≠q:=fun e=>hs (e▸hq)
  rcases hf with⟨sC,hb⟩|hF
  ·exact H.inj n q hn (by rw[e1];simp) av hl sC hb
  ·rcases c.fl with c1|rfl
   ·exact c1 _ hF
   ·exact H.live q gr sz xs e1 _ hF n hn hl rfl
 have af2:∀n gr m sz xs,¬S n->h n=some (.row gr m sz xs)->∀b,aN b (G.g n).px->w'.heap[b]? =w.heap[b]? :=by
  intro n gr m sz xs hs hn b hb
  refine hw _ (H.oK hn hb) fun q hq hf=>?_
  obtain⟨aU,m',aC,oW,ZE,e1,e2,c⟩:=hS q hq
  have av:n≠q:=fun e=>hs (e▸hq)
  exact H.Bo av hn e1 c.fl (.inr hb) hf
 have K:aQ w G h (fun n=>used n=true) w' G' h':=by
  refine⟨fun b hb=>by rw[kH];exact hb,fun b hb o=>gL (af1 b hb) o,fun n _ hn=>⟨ne n hn,fA n⟩,fun n gr sz ao _ hn=>?_⟩
  obtain⟨xs,e⟩:=kY n gr .live sz ao hn
  refine⟨⟨gr,xs,e⟩,fun k j pc hk hL=>?_⟩
  by_cases hs:S n
  ·obtain⟨Fb,m1,qf,oW,ZE,e1,e2,c⟩:=hS n hs
   rw[e] at e1
   injection e1 with e1
   injection e1 with _ e1 _ _
   exact c.live e1.symm k j pc hk hL
  ·rw[(hN n hs).2];exact⟨pc,hk,rfl,hL⟩
 refine⟨⟨fun n hn=>H.gN n (ne n hn),fun m cs c n hm=>H.fW m cs c n (Rr m cs hm).1,fun n cs hn=>?_,fun n gr m sz ao hn=>?_,fun n hn hl=>?_,fun n n' hn bC av hl cT=>?_,
  fun b hb=>?_,fun b hb=>H.oq b (by rw[kH] at hb;exact hb),fun n n' gr m sz xs aU m' aC ao hn bC hm bx av b hb aL=>?_,fun n gr sz xs hn b hb n' bC hl=>?_,?_,?_,?_⟩,K,sub⟩
 ·obtain⟨h1,hs⟩:=Rr n cs hn
  obtain⟨a1,a2,a3⟩:=H.box n cs h1
  have hb:=L0 n hs (by rw[h1];simp) a1
  rw[(hN n hs).2]
  refine⟨a1,a2.congr hb,fun j c hj=>?_⟩
  obtain⟨v,v1,v2,v3⟩:=a3 j c hj
  exact⟨v,(gL hb _).trans v1,v2,v3.eI K fun q hq=>H.fW n cs c q h1 (List.mem_of_getElem? hj) hq⟩
 ·by_cases hs:S n
  ·obtain⟨Fb,m1,qf,oW,ZE,e1,e2,c⟩:=hS n hs
   rw[e2] at hn
   injection hn with hn
   injection hn with q1 q2 q3 q4
   subst q1 q2 q3 q4
   have hr:=H.row n Fb m1 qf oW e1
   refine⟨hr.pos,c.er,fun hl=>?_,fun hl=>?_,fun hl hg=>?_,?_⟩
   ·rw[c.nl] at hl
    refine⟨c.nlx hl,fun hg=>?_⟩
    rw[c.cap]
    exact(hr.nl hl).2 hg
   ·rw[c.nl] at hl
    obtain⟨l1,l2,l3⟩:=hr.dv hl
    obtain⟨c1,c2⟩:=c.dv hl
    rw[c.b,c.o,c.cap]
    exact⟨(jY _ l1.lt).iU l1,c1,c2⟩
   ·rw[c.nl] at hl
    obtain⟨r2,cur,e,r3,r4⟩:=hr.room hl hg
    obtain⟨iw,s1,s2⟩:=jY (G.g n).b (H.own n (by rw[e1];simp) hl).2.2 cur e r3
    unfold Ds
    rw[c.b,c.o,c.cap]
    exact⟨r2,iw,e,s1,s2.trans r4⟩
   ·have hm:=hr.mode
    cases m1 with
    |aF=>exact absurd rfl c.m1
    |aj=>exact⟨fun b hb=>by
     have aL:=c.sub b hb
     have:=hm.1 b aL
     exact⟨by rw[kH];exact this.1,(jY b this.2.1.lt).iU this.2.1,this.2.2⟩,c.sep⟩
    |live=>exact⟨fun b hb=>by
     have aL:=c.sub b hb
     have:=hm.1 b aL
     exact⟨by rw[kH];exact this.1,(jY b this.2.1.lt).iU this.2.1,this.2.2⟩,c.sep⟩
  ·rw[(hN n hs).1] at hn
   rw[(hN n hs).2]
   have hr:=H.row n gr m sz ao hn
   have d9:=af2 n gr m sz ao hs hn
   refine⟨hr.pos,hr.er,hr.nl,fun hl=>?_,fun hl hg=>?_,?_⟩
   ·obtain⟨l1,l2,l3⟩:=hr.dv hl
    have hb:=L0 n hs (by rw[hn];simp) hl
    exact⟨l1.congr hb,l2.congr (fun o=>gL hb o) (fun b' aL o=>gL (d9 b' aL) o),l3⟩
   ·obtain⟨r2,cur,e,r3,r4⟩:=hr.room hl hg
    exact⟨r2,cur,e,(L0 n hs (by rw[hn];simp) hl).trans r3,r4⟩
   ·have hm:=hr.mode
    cases m with
    |aF=>exact fun b hb=>by rw[kH];exact hm b hb
    |aj=>exact⟨fun b hb=>⟨by rw[kH];exact(hm.1 b hb).1,(hm.1 b hb).2.1.congr (d9 b hb),(hm.1 b hb).2.2⟩,hm.2⟩
    |live=>exact⟨fun b hb=>⟨by rw[kH];exact(hm.1 b hb).1,(hm.1 b hb).2.1.congr (d9 b hb),(hm.1 b hb).2.2⟩,hm.2⟩
 ·obtain⟨s1,s2,s3,s4,s5⟩:=fA n
  rw[s1] at hl
  rw[s2]
  obtain⟨o1,o2,o3⟩:=H.own n (ne n hn) hl
  exact⟨by rw[kH];exact o1,o2,Nat.lt_of_lt_of_le o3 bo⟩
 ·rw[(fA n).1] at hl
  rw[(fA n').1] at cT
  rw[(fA n).2.1,(fA n').2.1]
  exact H.inj n n' (ne n hn) (ne n' bC) av hl cT
 ·rw[kH] at hb
  exact Nat.lt_of_lt_of_le (H.fv b hb) bo
 ·obtain⟨x1,e1⟩:=kY n gr m sz xs hn
  obtain⟨x2,e2⟩:=kY n' aU m' aC ao bC
  exact H.fg n n' gr m sz x1 aU m' aC x2 e1 e2 hm bx av b (sub n b hb) (sub n' b aL)
 ·obtain⟨x1,e1⟩:=kY n gr .live sz xs hn
  rw[(fA n').1] at hl
  rw[(fA n').2.1]
  exact H.live n gr sz x1 e1 b (sub n b hb) n' (ne n' bC) hl
 ·intro i pc hi;simp at hi
 ·intro i j pc dd b _ hi;simp at hi
 ·intro i pc n gr m sz xs b hi;simp at hi
def AA (σ σ1:St) (it:ct) (x:C):Prop:=
 match it with
 |.nil _=>True
 |.row n=>∃gr m rs xs ao,σ.h n=some (.row gr m rs xs)/\x=.list rs ao/\σ1.h n=some (.row gr m rs ao)
 |.nest n k off=>∃gr m rs xs e,σ.h n=some (.row gr m rs xs)/\xs[k]? =some e/\σ1.h n=some (.row gr m rs (xs.set k (e.set off x)))
theorem ajk {it:ct} {x:C} {σ1:St} (hx:σ.lL it x=some σ1):σ1.env=σ.env/\σ1.used=σ.used/\(∀n,it.de≠some n->σ1.h n=σ.h n)/\AA σ σ1 it x:=by
 cases it with
 |nil sz=>simp only[St.lL] at hx;injection hx with hx;subst hx;exact⟨rfl,rfl,fun _ _=>rfl,trivial⟩
 |row n=>
  cases x with
  |int k i=>simp[St.lL] at hx
  |bool b=>simp[St.lL] at hx
  |list sz xs=>
   simp only[St.lL] at hx
   split at hx
   ·rename_i gr m rs ju hn
    split at hx
    ·rename_i e
     injection hx with hx
     subst hx
     subst e
     exact⟨rfl,rfl,fun q hq=>cd _ _ _ _ (fun e=>hq (by rw[e];rfl)),gr,m,rs,ju,xs,hn,rfl,bu _ _ _⟩
    ·cases hx
   ·cases hx
 |nest n k off=>
  simp only[St.lL] at hx
  split at hx
  ·rename_i gr m rs xs hn
   split at hx
   ·rename_i e he
    injection hx with hx
    subst hx
    exact⟨rfl,rfl,fun q hq=>cd _ _ _ _ (fun e=>hq (by rw[e];rfl)),gr,m,rs,xs,e,hn,he,bu _ _ _⟩
   ·cases hx
  ·cases hx
theorem AA.congr {σ σ1 τ mN:St} {it:ct} {x:C} (hx:AA σ σ1 it x) (h1:∀n,it.de=some n->τ.h n=σ.h n) (h2:∀n,it.de=some n->mN.h n=σ1.h n):AA τ mN it x:=by
 cases it with
 |nil sz=>trivial
 |row n=>obtain⟨gr,m,rs,xs,ao,e1,e2,e3⟩:=hx;exact⟨gr,m,rs,xs,ao,(h1 n rfl).trans e1,e2,(h2 n rfl).trans e3⟩
 |nest n k off=>obtain⟨gr,m,rs,xs,e,e1,e2,e3⟩:=hx;exact⟨gr,m,rs,xs,e,(h1 n rfl).trans e1,e2,(h2 n rfl).trans e3⟩
theorem JE {it:ct×Mode} {its:List (ct×Mode)} (h:it.1.de=none):(it::its).filterMap (·.1.de)=its.filterMap (·.1.de):=List.filterMap_cons_none h
theorem yz {it:ct×Mode} {its:List (ct×Mode)} {n:Nat} (h:it.1.de=some n):(it::its).filterMap (·.1.de)=n::its.filterMap (·.1.de):=List.filterMap_cons_some h
theorem XF:∀{its:List (ct×Mode)} {cP:List C} {σ σ1:St},σ.kT its cP=some σ1->(its.filterMap (·.1.de)).Nodup->σ1.env=σ.env/\σ1.used=σ.used/\
  (∀n,n∉its.filterMap (·.1.de)->σ1.h n=σ.h n)/\∀(i:Nat) (it:ct×Mode) (x:C),its[i]? =some it->cP[i]? =some x->AA σ σ1 it.1 x
 |[],[],σ,σ1,hx,dN=>by
  simp only[St.kT] at hx
  injection hx with hx
  subst hx
  exact⟨rfl,rfl,fun _ _=>rfl,by intro i it x h;simp at h⟩
 |it::its,x::cP,σ,σ2,hx,dN=>by
  simp only[St.kT] at hx
  split at hx
  ·rename_i σ1 e1
   obtain⟨p1,p2,p3,p4⟩:=ajk e1
   have qT:(its.filterMap (·.1.de)).Nodup:=by
    cases hn:it.1.de with
    |none=>rw[JE hn] at dN;exact dN
    |some n=>rw[yz hn] at dN;exact(List.nodup_cons.1 dN).2
   have lC:∀n,it.1.de=some n->n∉its.filterMap (·.1.de):=by
    intro n hn
    rw[yz hn] at dN
    exact(List.nodup_cons.1 dN).1
   obtain⟨q1,q2,q3,q4⟩:=XF hx qT
   refine⟨q1.trans p1,q2.trans p2,fun n hn=>?_,fun i wP x' hi gk=>?_⟩
   ·have h1:it.1.de≠some n:=by
     intro e
     rw[yz e] at hn
     exact hn (by simp)
    have h2:n∉its.filterMap (·.1.de):=by
     intro hm
     apply hn
     cases hq:it.1.de with
     |none=>rw[JE hq];exact hm
     |some q=>rw[yz hq];exact List.mem_cons_of_mem _ hm
    exact(q3 n h2).trans (p3 n h1)
   ·cases i with
    |zero=>
     simp at hi gk
     subst hi
     subst gk
     exact p4.congr (fun _ _=>rfl) (fun n hn=>q3 n (lC n hn))
    |succ i=>
     have hi':its[i]? =some wP:=by simpa using hi
     refine(q4 i wP x' hi' (by simpa using gk)).congr (fun n hn=>?_) (fun _ _=>rfl)
     refine(p3 n ?_).symm
     intro e
     refine lC n e ?_
     rw[List.mem_filterMap]
     exact⟨wP,List.mem_of_getElem? hi',hn⟩
  ·cases hx
 |[],_::_,σ,σ1,hx,_=>by simp[St.kT] at hx
 |_::_,[],σ,σ1,hx,_=>by simp[St.kT] at hx
theorem Gn:∀{its:List (ct×Mode)},(its.filterMap (·.1.de)).Nodup->∀{i j:Nat} {x y:ct×Mode} {n:Nat},its[i]? =some x->its[j]? =some y->x.1.de=some n->y.1.de=some n->i=j
 |[],_,i,j,x,y,n,hi,_,_,_=>by simp at hi
 |it::its,dN,i,j,x,y,n,hi,hj,hx,hy=>by
  have qT:(its.filterMap (·.1.de)).Nodup:=by
   cases hn:it.1.de with
   |none=>rw[JE hn] at dN;exact dN
   |some n=>rw[yz hn] at dN;exact(List.nodup_cons.1 dN).2
  have lC:∀n,it.1.de=some n->∀(k:Nat) (z:ct×Mode),its[k]? =some z->z.1.de≠some n:=by
   intro n hn k z hk e
   rw[yz hn] at dN
   exact(List.nodup_cons.1 dN).1 (List.mem_filterMap.2 ⟨z,List.mem_of_getElem? hk,e⟩)
  cases i with
  |zero=>
   cases j with
   |zero=>rfl
   |succ j=>
    simp at hi hj
    subst hi
    exact absurd hy (lC n hx j y hj)
  |succ i=>
   cases j with
   |zero=>
    simp at hi hj
    subst hj
    exact absurd hx (lC n hy i x hi)
   |succ j=>exact congrArg (·+1) (Gn qT (i:=i) (j:=j) (by simpa using hi) (by simpa using hj) hx hy)
end
end Go.Am
