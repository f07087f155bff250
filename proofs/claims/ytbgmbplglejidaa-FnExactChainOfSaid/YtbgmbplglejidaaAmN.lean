/- AmN: calls that change lists of their arguments: what becomes of the caller's names. No condition. -/
import Derived.Test.YtbgmbplglejidaaAmM
set_option linter.unusedVariables false
namespace Go.Am
section
variable {B:Nat} {E:Ex} {w0 w w':World} {G G':Gh} {N:Nat} {h h':Nat->Option aq} {used:Nat->Bool}
variable {P:Program} {o:Oper} {a:Act} {σ σ':St} {Q:Exit->Act->World->Prop}
structure FO (w':World) (p p':PB) (gr:Bool) (m:Mode) (sz:Nat) (ar:List (List C)):Prop where
 m1:m≠ .aO
 fl:(∀b,¬aX b p.px)\/m=.live
 nl:p'.nl=p.nl
 b:p'.b=p.b
 o:p'.o=p.o
 cap:p'.cap=p.cap
 na:p'.na=p.na
 er:ar=p'.px.map (fun e=>e.map PC.er)
 nlx:p.nl=true->p'.px=[]
 dT:p.nl=false->oD w' p.b p.o sz p'.px/\p'.px.length<=p.cap
 sep:ig p'.px
 sub:∀b,aX b p'.px->aX b p.px
 live:m=.live->∀k j pc,At p.px k j pc->pc.gx=true->∃di,At p'.px k j di/\di.val=pc.val/\di.gx=true
theorem HR.JK (H:HR B E w G h used []) {S:Nat->Prop} (bF:w.heap.size<=w'.heap.size)
  (hw:∀b,b<w.heap.size->(∀n,S n->¬rp G n b)->w'.heap[b]? =w.heap[b]?) (lI:∀b,b<w.heap.size->Cz w w' b) (mA:G'.Im=G.Im)
  (hS:∀n,S n->∃gr m sz xs ar,h n=some (.row gr m sz xs)/\h' n=some (.row gr m sz ar)/\FO w' (G.g n) (G'.g n) gr m sz ar)
  (hN:∀n,¬S n->h' n=h n/\G'.g n=G.g n):HR B E w' G' h' used []/\aZ w G h (fun n=>used n=true) w' G' h'/\∀n b,aX b (G'.g n).px->aX b (G.g n).px:=by
 have ne:∀n,h' n≠none->h n≠none:=by
  intro n hn
  by_cases hs:S n
  ·obtain⟨gr,m,sz,xs,ar,e1,e2,_⟩:=hS n hs
   rw[e1];simp
  ·rwa[(hN n hs).1] at hn
 have fP:∀n,(G'.g n).nl=(G.g n).nl/\(G'.g n).b=(G.g n).b/\(G'.g n).o=(G.g n).o/\(G'.g n).cap=(G.g n).cap/\(G'.g n).na=(G.g n).na:=by
  intro n
  by_cases hs:S n
  ·obtain⟨gr,m,sz,xs,ar,e1,e2,c⟩:=hS n hs
   exact⟨c.nl,c.b,c.o,c.cap,c.na⟩
  ·rw[(hN n hs).2];exact⟨rfl,rfl,rfl,rfl,rfl⟩
 have sub:∀n b,aX b (G'.g n).px->aX b (G.g n).px:=by
  intro n b hb
  by_cases hs:S n
  ·obtain⟨gr,m,sz,xs,ar,e1,e2,c⟩:=hS n hs
   exact c.sub b hb
  ·rwa[(hN n hs).2] at hb
 have mT:∀n gr m sz ar,h' n=some (.row gr m sz ar)->∃xs,h n=some (.row gr m sz xs):=by
  intro n gr m sz ar hn
  by_cases hs:S n
  ·obtain⟨IE,m1,r5,xs,qV,e1,e2,_⟩:=hS n hs
   rw[e2] at hn
   injection hn with hn
   injection hn with a1 a2 a3 a4
   subst a1 a2 a3
   exact⟨xs,e1⟩
  ·rw[(hN n hs).1] at hn;exact⟨ar,hn⟩
 have Xm:∀n cs,h' n=some (.box cs)->h n=some (.box cs)/\¬S n:=by
  intro n cs hn
  by_cases hs:S n
  ·obtain⟨IE,m1,r5,xs,qV,e1,e2,_⟩:=hS n hs
   rw[e2] at hn;cases hn
  ·rw[(hN n hs).1] at hn;exact⟨hn,hs⟩
 have akh:∀b,G.Im b->w'.heap[b]? =w.heap[b]? :=by
  intro b hb
  refine hw b (H.fL b hb) fun n hs hf=>?_
  obtain⟨gr,m,sz,xs,ar,e1,e2,c⟩:=hS n hs
  rcases hf with⟨hl,rfl⟩|hF
  ·exact(H.own n (by rw[e1];simp) hl).1 hb
  ·rcases c.fl with c1|rfl
   ·exact c1 b hF
   ·exact((H.row n gr .live sz xs e1).mode.1 b hF).1 hb
 have Qe:∀n,¬S n->h n≠none->(G.g n).nl=false->w'.heap[(G.g n).b]? =w.heap[(G.g n).b]? :=by
  intro n hs hn hl
  refine hw _ (H.own n hn hl).2.2 fun q hq hf=>?_
  obtain⟨gr,m,sz,xs,ar,e1,e2,c⟩:=hS q hq
  have aE:n≠q:=fun e=>hs (e▸hq)
  rcases hf with⟨yx,hb⟩|hF
  ·exact H.inj n q hn (by rw[e1];simp) aE hl yx hb
  ·rcases c.fl with c1|rfl
   ·exact c1 _ hF
   ·exact H.live q gr sz xs e1 _ hF n hn hl rfl
 have aki:∀n gr m sz xs,¬S n->h n=some (.row gr m sz xs)->∀b,aX b (G.g n).px->w'.heap[b]? =w.heap[b]? :=by
  intro n gr m sz xs hs hn b hb
  refine hw _ (H.qL hn hb) fun q hq hf=>?_
  obtain⟨bj,m',aL,qV,ad9,e1,e2,c⟩:=hS q hq
  have aE:n≠q:=fun e=>hs (e▸hq)
  exact H.DA aE hn e1 c.fl (.inr hb) hf
 have K:aZ w G h (fun n=>used n=true) w' G' h':=by
  refine⟨fun b hb=>by rw[mA];exact hb,fun b hb o=>iz (akh b hb) o,fun n _ hn=>⟨ne n hn,fP n⟩,fun n gr sz ar _ hn=>?_⟩
  obtain⟨xs,e⟩:=mT n gr .live sz ar hn
  refine⟨⟨gr,xs,e⟩,fun k j pc hk hL=>?_⟩
  by_cases hs:S n
  ·obtain⟨IE,m1,r5,qV,ad9,e1,e2,c⟩:=hS n hs
   rw[e] at e1
   injection e1 with e1
   injection e1 with _ e1 _ _
   exact c.live e1.symm k j pc hk hL
  ·rw[(hN n hs).2];exact⟨pc,hk,rfl,hL⟩
 refine⟨⟨fun n hn=>H.iA n (ne n hn),fun m cs c n hm=>H.gC m cs c n (Xm m cs hm).1,fun n cs hn=>?_,fun n gr m sz ar hn=>?_,fun n hn hl=>?_,fun n n' hn bk aE hl dR=>?_,
  fun b hb=>?_,fun b hb=>H.oY b (by rw[mA] at hb;exact hb),fun n n' gr m sz xs bj m' aL ar hn bk hm bI aE b hb aW=>?_,fun n gr sz xs hn b hb n' bk hl=>?_,?_,?_,?_⟩,K,sub⟩
 ·obtain⟨h1,hs⟩:=Xm n cs hn
  obtain⟨a1,a2,a3⟩:=H.box n cs h1
  have hb:=Qe n hs (by rw[h1];simp) a1
  rw[(hN n hs).2]
  refine⟨a1,a2.congr hb,fun j c hj=>?_⟩
  obtain⟨v,v1,v2,v3⟩:=a3 j c hj
  exact⟨v,(iz hb _).trans v1,v2,v3.eV K fun q hq=>H.gC n cs c q h1 (List.mem_of_getElem? hj) hq⟩
 ·by_cases hs:S n
  ·obtain⟨IE,m1,r5,qV,ad9,e1,e2,c⟩:=hS n hs
   rw[e2] at hn
   injection hn with hn
   injection hn with q1 q2 q3 q4
   subst q1 q2 q3 q4
   have hr:=H.row n IE m1 r5 qV e1
   refine⟨hr.pos,c.er,fun hl=>?_,fun hl=>?_,fun hl hg=>?_,?_⟩
   ·rw[c.nl] at hl
    refine⟨c.nlx hl,fun hg=>?_⟩
    rw[c.cap]
    exact(hr.nl hl).2 hg
   ·rw[c.nl] at hl
    obtain⟨l1,l2,l3⟩:=hr.dT hl
    obtain⟨c1,c2⟩:=c.dT hl
    rw[c.b,c.o,c.cap]
    exact⟨(lI _ l1.lt).jc l1,c1,c2⟩
   ·rw[c.nl] at hl
    obtain⟨r2,cur,e,r3,r4⟩:=hr.room hl hg
    obtain⟨ji,s1,s2⟩:=lI (G.g n).b (H.own n (by rw[e1];simp) hl).2.2 cur e r3
    unfold F8
    rw[c.b,c.o,c.cap]
    exact⟨r2,ji,e,s1,s2.trans r4⟩
   ·have hm:=hr.mode
    cases m1 with
    |aO=>exact absurd rfl c.m1
    |ab=>exact⟨fun b hb=>by
     have aW:=c.sub b hb
     have:=hm.1 b aW
     exact⟨by rw[mA];exact this.1,(lI b this.2.1.lt).jc this.2.1,this.2.2⟩,c.sep⟩
    |live=>exact⟨fun b hb=>by
     have aW:=c.sub b hb
     have:=hm.1 b aW
     exact⟨by rw[mA];exact this.1,(lI b this.2.1.lt).jc this.2.1,this.2.2⟩,c.sep⟩
  ·rw[(hN n hs).1] at hn
   rw[(hN n hs).2]
   have hr:=H.row n gr m sz ar hn
   have eS:=aki n gr m sz ar hs hn
   refine⟨hr.pos,hr.er,hr.nl,fun hl=>?_,fun hl hg=>?_,?_⟩
   ·obtain⟨l1,l2,l3⟩:=hr.dT hl
    have hb:=Qe n hs (by rw[hn];simp) hl
    exact⟨l1.congr hb,l2.congr (fun o=>iz hb o) (fun b' aW o=>iz (eS b' aW) o),l3⟩
   ·obtain⟨r2,cur,e,r3,r4⟩:=hr.room hl hg
    exact⟨r2,cur,e,(Qe n hs (by rw[hn];simp) hl).trans r3,r4⟩
   ·have hm:=hr.mode
    cases m with
    |aO=>exact fun b hb=>by rw[mA];exact hm b hb
    |ab=>exact⟨fun b hb=>⟨by rw[mA];exact(hm.1 b hb).1,(hm.1 b hb).2.1.congr (eS b hb),(hm.1 b hb).2.2⟩,hm.2⟩
    |live=>exact⟨fun b hb=>⟨by rw[mA];exact(hm.1 b hb).1,(hm.1 b hb).2.1.congr (eS b hb),(hm.1 b hb).2.2⟩,hm.2⟩
 ·obtain⟨s1,s2,s3,s4,s5⟩:=fP n
  rw[s1] at hl
  rw[s2]
  obtain⟨o1,o2,o3⟩:=H.own n (ne n hn) hl
  exact⟨by rw[mA];exact o1,o2,Nat.lt_of_lt_of_le o3 bF⟩
 ·rw[(fP n).1] at hl
  rw[(fP n').1] at dR
  rw[(fP n).2.1,(fP n').2.1]
  exact H.inj n n' (ne n hn) (ne n' bk) aE hl dR
 ·rw[mA] at hb
  exact Nat.lt_of_lt_of_le (H.fL b hb) bF
 ·obtain⟨x1,e1⟩:=mT n gr m sz xs hn
  obtain⟨x2,e2⟩:=mT n' bj m' aL ar bk
  exact H.fA n n' gr m sz x1 bj m' aL x2 e1 e2 hm bI aE b (sub n b hb) (sub n' b aW)
 ·obtain⟨x1,e1⟩:=mT n gr .live sz xs hn
  rw[(fP n').1] at hl
  rw[(fP n').2.1]
  exact H.live n gr sz x1 e1 b (sub n b hb) n' (ne n' bk) hl
 ·intro i pc hi;simp at hi
 ·intro i j pc di b _ hi;simp at hi
 ·intro i pc n gr m sz xs b hi;simp at hi
def CM (σ σ1:St) (it:cI) (x:C):Prop:=
 match it with
 |.nil _=>True
 |.row n=>∃gr m rs xs ar,σ.h n=some (.row gr m rs xs)/\x=.list rs ar/\σ1.h n=some (.row gr m rs ar)
 |.nest n k off=>∃gr m rs xs e,σ.h n=some (.row gr m rs xs)/\xs[k]? =some e/\σ1.h n=some (.row gr m rs (xs.set k (e.set off x)))
theorem aoO {it:cI} {x:C} {σ1:St} (hx:σ.nr it x=some σ1):σ1.env=σ.env/\σ1.used=σ.used/\(∀n,it.dB≠some n->σ1.h n=σ.h n)/\CM σ σ1 it x:=by
 cases it with
 |nil sz=>simp only[St.nr] at hx;injection hx with hx;subst hx;exact⟨rfl,rfl,fun _ _=>rfl,trivial⟩
 |row n=>
  cases x with
  |int k i=>simp[St.nr] at hx
  |bool b=>simp[St.nr] at hx
  |list sz xs=>
   simp only[St.nr] at hx
   split at hx
   ·rename_i gr m rs kz hn
    split at hx
    ·rename_i e
     injection hx with hx
     subst hx
     subst e
     exact⟨rfl,rfl,fun q hq=>cb _ _ _ _ (fun e=>hq (by rw[e];rfl)),gr,m,rs,kz,xs,hn,rfl,bE _ _ _⟩
    ·cases hx
   ·cases hx
 |nest n k off=>
  simp only[St.nr] at hx
  split at hx
  ·rename_i gr m rs xs hn
   split at hx
   ·rename_i e he
    injection hx with hx
    subst hx
    exact⟨rfl,rfl,fun q hq=>cb _ _ _ _ (fun e=>hq (by rw[e];rfl)),gr,m,rs,xs,e,hn,he,bE _ _ _⟩
   ·cases hx
  ·cases hx
theorem CM.congr {σ σ1 τ oz:St} {it:cI} {x:C} (hx:CM σ σ1 it x) (h1:∀n,it.dB=some n->τ.h n=σ.h n) (h2:∀n,it.dB=some n->oz.h n=σ1.h n):CM τ oz it x:=by
 cases it with
 |nil sz=>trivial
 |row n=>obtain⟨gr,m,rs,xs,ar,e1,e2,e3⟩:=hx;exact⟨gr,m,rs,xs,ar,(h1 n rfl).trans e1,e2,(h2 n rfl).trans e3⟩
 |nest n k off=>obtain⟨gr,m,rs,xs,e,e1,e2,e3⟩:=hx;exact⟨gr,m,rs,xs,e,(h1 n rfl).trans e1,e2,(h2 n rfl).trans e3⟩
theorem Nh {it:cI×Mode} {its:List (cI×Mode)} (h:it.1.dB=none):(it::its).filterMap (·.1.dB)=its.filterMap (·.1.dB):=List.filterMap_cons_none h
theorem AJ {it:cI×Mode} {its:List (cI×Mode)} {n:Nat} (h:it.1.dB=some n):(it::its).filterMap (·.1.dB)=n::its.filterMap (·.1.dB):=List.filterMap_cons_some h
theorem abS:∀{its:List (cI×Mode)} {eI:List C} {σ σ1:St},σ.pw its eI=some σ1->(its.filterMap (·.1.dB)).Nodup->σ1.env=σ.env/\σ1.used=σ.used/\
  (∀n,n∉its.filterMap (·.1.dB)->σ1.h n=σ.h n)/\∀(i:Nat) (it:cI×Mode) (x:C),its[i]? =some it->eI[i]? =some x->CM σ σ1 it.1 x
 |[],[],σ,σ1,hx,gb=>by
  simp only[St.pw] at hx
  injection hx with hx
  subst hx
  exact⟨rfl,rfl,fun _ _=>rfl,by intro i it x h;simp at h⟩
 |it::its,x::eI,σ,σ2,hx,gb=>by
  simp only[St.pw] at hx
  split at hx
  ·rename_i σ1 e1
   obtain⟨p1,p2,p3,p4⟩:=aoO e1
   have sS:(its.filterMap (·.1.dB)).Nodup:=by
    cases hn:it.1.dB with
    |none=>rw[Nh hn] at gb;exact gb
    |some n=>rw[AJ hn] at gb;exact(List.nodup_cons.1 gb).2
   have nT:∀n,it.1.dB=some n->n∉its.filterMap (·.1.dB):=by
    intro n hn
    rw[AJ hn] at gb
    exact(List.nodup_cons.1 gb).1
   obtain⟨q1,q2,q3,q4⟩:=abS hx sS
   refine⟨q1.trans p1,q2.trans p2,fun n hn=>?_,fun i yS x' hi fm=>?_⟩
   ·have h1:it.1.dB≠some n:=by
     intro e
     rw[AJ e] at hn
     exact hn (by simp)
    have h2:n∉its.filterMap (·.1.dB):=by
     intro hm
     apply hn
     cases hq:it.1.dB with
     |none=>rw[Nh hq];exact hm
     |some q=>rw[AJ hq];exact List.mem_cons_of_mem _ hm
    exact(q3 n h2).trans (p3 n h1)
   ·cases i with
    |zero=>
     simp at hi fm
     subst hi
     subst fm
     exact p4.congr (fun _ _=>rfl) (fun n hn=>q3 n (nT n hn))
    |succ i=>
     have hi':its[i]? =some yS:=by simpa using hi
     refine(q4 i yS x' hi' (by simpa using fm)).congr (fun n hn=>?_) (fun _ _=>rfl)
     refine(p3 n ?_).symm
     intro e
     refine nT n e ?_
     rw[List.mem_filterMap]
     exact⟨yS,List.mem_of_getElem? hi',hn⟩
  ·cases hx
 |[],_::_,σ,σ1,hx,_=>by simp[St.pw] at hx
 |_::_,[],σ,σ1,hx,_=>by simp[St.pw] at hx
theorem JL:∀{its:List (cI×Mode)},(its.filterMap (·.1.dB)).Nodup->∀{i j:Nat} {x y:cI×Mode} {n:Nat},its[i]? =some x->its[j]? =some y->x.1.dB=some n->y.1.dB=some n->i=j
 |[],_,i,j,x,y,n,hi,_,_,_=>by simp at hi
 |it::its,gb,i,j,x,y,n,hi,hj,hx,hy=>by
  have sS:(its.filterMap (·.1.dB)).Nodup:=by
   cases hn:it.1.dB with
   |none=>rw[Nh hn] at gb;exact gb
   |some n=>rw[AJ hn] at gb;exact(List.nodup_cons.1 gb).2
  have nT:∀n,it.1.dB=some n->∀(k:Nat) (z:cI×Mode),its[k]? =some z->z.1.dB≠some n:=by
   intro n hn k z hk e
   rw[AJ hn] at gb
   exact(List.nodup_cons.1 gb).1 (List.mem_filterMap.2 ⟨z,List.mem_of_getElem? hk,e⟩)
  cases i with
  |zero=>
   cases j with
   |zero=>rfl
   |succ j=>
    simp at hi hj
    subst hi
    exact absurd hy (nT n hx j y hj)
  |succ i=>
   cases j with
   |zero=>
    simp at hi hj
    subst hj
    exact absurd hx (nT n hy i x hi)
   |succ j=>exact congrArg (·+1) (JL sS (i:=i) (j:=j) (by simpa using hi) (by simpa using hj) hx hy)
end
end Go.Am
