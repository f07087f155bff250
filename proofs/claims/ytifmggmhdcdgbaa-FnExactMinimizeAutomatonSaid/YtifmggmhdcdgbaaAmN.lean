/- AmN: calls that change lists of their arguments: what becomes of the caller's names. No condition. -/
import Derived.Test.YtifmggmhdcdgbaaAmM
set_option linter.unusedVariables false
namespace Go.Am
section
variable {B:Nat} {E:Ex} {w0 w w':World} {G G':Gh} {N:Nat} {h h':Nat->Option aq} {used:Nat->Bool}
variable {P:Program} {o:Oper} {a:Act} {σ σ':St} {Q:Exit->Act->World->Prop}
structure Ez (w':World) (p p':PB) (gr:Bool) (m:Mode) (sz:Nat) (ar:List (List C)):Prop where
 m1:m≠ .aF
 fl:(∀b,¬aV b p.px)\/m=.live
 nl:p'.nl=p.nl
 b:p'.b=p.b
 o:p'.o=p.o
 cap:p'.cap=p.cap
 na:p'.na=p.na
 er:ar=p'.px.map (fun e=>e.map PC.er)
 nlx:p.nl=true->p'.px=[]
 dE:p.nl=false->oL w' p.b p.o sz p'.px/\p'.px.length<=p.cap
 sep:io p'.px
 sub:∀b,aV b p'.px->aV b p.px
 live:m=.live->∀k j pc,At p.px k j pc->pc.gy=true->∃df,At p'.px k j df/\df.val=pc.val/\df.gy=true
theorem HR.Py (H:HR B E w G h used []) {S:Nat->Prop} (bG:w.heap.size<=w'.heap.size)
  (hw:∀b,b<w.heap.size->(∀n,S n->¬sf G n b)->w'.heap[b]? =w.heap[b]?) (lM:∀b,b<w.heap.size->Cz w w' b) (mB:G'.Im=G.Im)
  (hS:∀n,S n->∃gr m sz xs ar,h n=some (.row gr m sz xs)/\h' n=some (.row gr m sz ar)/\Ez w' (G.g n) (G'.g n) gr m sz ar)
  (hN:∀n,¬S n->h' n=h n/\G'.g n=G.g n):HR B E w' G' h' used []/\aY w G h (fun n=>used n=true) w' G' h'/\∀n b,aV b (G'.g n).px->aV b (G.g n).px:=by
 have ne:∀n,h' n≠none->h n≠none:=by
  intro n hn
  by_cases hs:S n
  ·obtain⟨gr,m,sz,xs,ar,e1,e2,_⟩:=hS n hs
   rw[e1];simp
  ·rwa[(hN n hs).1] at hn
 have fP:∀n,(G'.g n).nl=(G.g n).nl/\(G'.g n).b=(G.g n).b/\(G'.g n).o=(G.g n).o/\(G'.g n).cap=(G.g n).cap/\(G'.g n).na=(G.g n).na:=by
  intro n
  by_cases hs:S n
  ·obtain⟨gr,m,sz,xs,ar,e1,e2,c⟩:=hS n hs
   exact⟨c.nl,c.b,c.o,c.cap,c.na⟩
  ·rw[(hN n hs).2];exact⟨rfl,rfl,rfl,rfl,rfl⟩
 have sub:∀n b,aV b (G'.g n).px->aV b (G.g n).px:=by
  intro n b hb
  by_cases hs:S n
  ·obtain⟨gr,m,sz,xs,ar,e1,e2,c⟩:=hS n hs
   exact c.sub b hb
  ·rwa[(hN n hs).2] at hb
 have mT:∀n gr m sz ar,h' n=some (.row gr m sz ar)->∃xs,h n=some (.row gr m sz xs):=by
  intro n gr m sz ar hn
  by_cases hs:S n
  ·obtain⟨G8,m1,wL,xs,uS,e1,e2,_⟩:=hS n hs
   rw[e2] at hn
   injection hn with hn
   injection hn with a1 a2 a3 a4
   subst a1 a2 a3
   exact⟨xs,e1⟩
  ·rw[(hN n hs).1] at hn;exact⟨ar,hn⟩
 have T9:∀n cs,h' n=some (.box cs)->h n=some (.box cs)/\¬S n:=by
  intro n cs hn
  by_cases hs:S n
  ·obtain⟨G8,m1,wL,xs,uS,e1,e2,_⟩:=hS n hs
   rw[e2] at hn;cases hn
  ·rw[(hN n hs).1] at hn;exact⟨hn,hs⟩
 have af1:∀b,G.Im b->w'.heap[b]? =w.heap[b]? :=by
  intro b hb
  refine hw b (H.fL b hb) fun n hs hf=>?_
  obtain⟨gr,m,sz,xs,ar,e1,e2,c⟩:=hS n hs
  rcases hf with⟨hl,rfl⟩|hF
  ·exact(H.own n (by rw[e1];simp) hl).1 hb
  ·rcases c.fl with c1|rfl
   ·exact c1 b hF
   ·exact((H.row n gr .live sz xs e1).mode.1 b hF).1 hb
 have NS:∀n,¬S n->h n≠none->(G.g n).nl=false->w'.heap[(G.g n).b]? =w.heap[(G.g n).b]? :=by
  intro n hs hn hl
  refine hw _ (H.own n hn hl).2.2 fun q hq hf=>?_
  obtain⟨gr,m,sz,xs,ar,e1,e2,c⟩:=hS q hq
  have aC:n≠q:=fun e=>hs (e▸hq)
  rcases hf with⟨CQ,hb⟩|hF
  ·exact H.inj n q hn (by rw[e1];simp) aC hl CQ hb
  ·rcases c.fl with c1|rfl
   ·exact c1 _ hF
   ·exact H.live q gr sz xs e1 _ hF n hn hl rfl
 have af2:∀n gr m sz xs,¬S n->h n=some (.row gr m sz xs)->∀b,aV b (G.g n).px->w'.heap[b]? =w.heap[b]? :=by
  intro n gr m sz xs hs hn b hb
  refine hw _ (H.qA hn hb) fun q hq hf=>?_
  obtain⟨bi,m',aK,uS,aaq,e1,e2,c⟩:=hS q hq
  have aC:n≠q:=fun e=>hs (e▸hq)
  exact H.G0 aC hn e1 c.fl (.inr hb) hf
 have K:aY w G h (fun n=>used n=true) w' G' h':=by
  refine⟨fun b hb=>by rw[mB];exact hb,fun b hb o=>iE (af1 b hb) o,fun n _ hn=>⟨ne n hn,fP n⟩,fun n gr sz ar _ hn=>?_⟩
  obtain⟨xs,e⟩:=mT n gr .live sz ar hn
  refine⟨⟨gr,xs,e⟩,fun k j pc hk hL=>?_⟩
  by_cases hs:S n
  ·obtain⟨G8,m1,wL,uS,aaq,e1,e2,c⟩:=hS n hs
   rw[e] at e1
   injection e1 with e1
   injection e1 with _ e1 _ _
   exact c.live e1.symm k j pc hk hL
  ·rw[(hN n hs).2];exact⟨pc,hk,rfl,hL⟩
 refine⟨⟨fun n hn=>H.jb n (ne n hn),fun m cs c n hm=>H.gT m cs c n (T9 m cs hm).1,fun n cs hn=>?_,fun n gr m sz ar hn=>?_,fun n hn hl=>?_,fun n n' hn bn aC hl dC=>?_,
  fun b hb=>?_,fun b hb=>H.pg b (by rw[mB] at hb;exact hb),fun n n' gr m sz xs bi m' aK ar hn bn hm bE aC b hb aX=>?_,fun n gr sz xs hn b hb n' bn hl=>?_,?_,?_,?_⟩,K,sub⟩
 ·obtain⟨h1,hs⟩:=T9 n cs hn
  obtain⟨a1,a2,a3⟩:=H.box n cs h1
  have hb:=NS n hs (by rw[h1];simp) a1
  rw[(hN n hs).2]
  refine⟨a1,a2.congr hb,fun j c hj=>?_⟩
  obtain⟨v,v1,v2,v3⟩:=a3 j c hj
  exact⟨v,(iE hb _).trans v1,v2,v3.eV K fun q hq=>H.gT n cs c q h1 (List.mem_of_getElem? hj) hq⟩
 ·by_cases hs:S n
  ·obtain⟨G8,m1,wL,uS,aaq,e1,e2,c⟩:=hS n hs
   rw[e2] at hn
   injection hn with hn
   injection hn with q1 q2 q3 q4
   subst q1 q2 q3 q4
   have hr:=H.row n G8 m1 wL uS e1
   refine⟨hr.pos,c.er,fun hl=>?_,fun hl=>?_,fun hl hg=>?_,?_⟩
   ·rw[c.nl] at hl
    refine⟨c.nlx hl,fun hg=>?_⟩
    rw[c.cap]
    exact(hr.nl hl).2 hg
   ·rw[c.nl] at hl
    obtain⟨l1,l2,l3⟩:=hr.dE hl
    obtain⟨c1,c2⟩:=c.dE hl
    rw[c.b,c.o,c.cap]
    exact⟨(lM _ l1.lt).kH l1,c1,c2⟩
   ·rw[c.nl] at hl
    obtain⟨r2,cur,e,r3,r4⟩:=hr.room hl hg
    obtain⟨jw,s1,s2⟩:=lM (G.g n).b (H.own n (by rw[e1];simp) hl).2.2 cur e r3
    unfold EX
    rw[c.b,c.o,c.cap]
    exact⟨r2,jw,e,s1,s2.trans r4⟩
   ·have hm:=hr.mode
    cases m1 with
    |aF=>exact absurd rfl c.m1
    |aa=>exact⟨fun b hb=>by
     have aX:=c.sub b hb
     have:=hm.1 b aX
     exact⟨by rw[mB];exact this.1,(lM b this.2.1.lt).kH this.2.1,this.2.2⟩,c.sep⟩
    |live=>exact⟨fun b hb=>by
     have aX:=c.sub b hb
     have:=hm.1 b aX
     exact⟨by rw[mB];exact this.1,(lM b this.2.1.lt).kH this.2.1,this.2.2⟩,c.sep⟩
  ·rw[(hN n hs).1] at hn
   rw[(hN n hs).2]
   have hr:=H.row n gr m sz ar hn
   have jZ:=af2 n gr m sz ar hs hn
   refine⟨hr.pos,hr.er,hr.nl,fun hl=>?_,fun hl hg=>?_,?_⟩
   ·obtain⟨l1,l2,l3⟩:=hr.dE hl
    have hb:=NS n hs (by rw[hn];simp) hl
    exact⟨l1.congr hb,l2.congr (fun o=>iE hb o) (fun b' aX o=>iE (jZ b' aX) o),l3⟩
   ·obtain⟨r2,cur,e,r3,r4⟩:=hr.room hl hg
    exact⟨r2,cur,e,(NS n hs (by rw[hn];simp) hl).trans r3,r4⟩
   ·have hm:=hr.mode
    cases m with
    |aF=>exact fun b hb=>by rw[mB];exact hm b hb
    |aa=>exact⟨fun b hb=>⟨by rw[mB];exact(hm.1 b hb).1,(hm.1 b hb).2.1.congr (jZ b hb),(hm.1 b hb).2.2⟩,hm.2⟩
    |live=>exact⟨fun b hb=>⟨by rw[mB];exact(hm.1 b hb).1,(hm.1 b hb).2.1.congr (jZ b hb),(hm.1 b hb).2.2⟩,hm.2⟩
 ·obtain⟨s1,s2,s3,s4,s5⟩:=fP n
  rw[s1] at hl
  rw[s2]
  obtain⟨o1,o2,o3⟩:=H.own n (ne n hn) hl
  exact⟨by rw[mB];exact o1,o2,Nat.lt_of_lt_of_le o3 bG⟩
 ·rw[(fP n).1] at hl
  rw[(fP n').1] at dC
  rw[(fP n).2.1,(fP n').2.1]
  exact H.inj n n' (ne n hn) (ne n' bn) aC hl dC
 ·rw[mB] at hb
  exact Nat.lt_of_lt_of_le (H.fL b hb) bG
 ·obtain⟨x1,e1⟩:=mT n gr m sz xs hn
  obtain⟨x2,e2⟩:=mT n' bi m' aK ar bn
  exact H.fy n n' gr m sz x1 bi m' aK x2 e1 e2 hm bE aC b (sub n b hb) (sub n' b aX)
 ·obtain⟨x1,e1⟩:=mT n gr .live sz xs hn
  rw[(fP n').1] at hl
  rw[(fP n').2.1]
  exact H.live n gr sz x1 e1 b (sub n b hb) n' (ne n' bn) hl
 ·intro i pc hi;simp at hi
 ·intro i j pc df b _ hi;simp at hi
 ·intro i pc n gr m sz xs b hi;simp at hi
def BR (σ σ1:St) (it:de) (x:C):Prop:=
 match it with
 |.nil _=>True
 |.row n=>∃gr m rs xs ar,σ.h n=some (.row gr m rs xs)/\x=.list rs ar/\σ1.h n=some (.row gr m rs ar)
 |.nest n k off=>∃gr m rs xs e,σ.h n=some (.row gr m rs xs)/\xs[k]? =some e/\σ1.h n=some (.row gr m rs (xs.set k (e.set off x)))
theorem ajB {it:de} {x:C} {σ1:St} (hx:σ.nD it x=some σ1):σ1.env=σ.env/\σ1.used=σ.used/\(∀n,it.dF≠some n->σ1.h n=σ.h n)/\BR σ σ1 it x:=by
 cases it with
 |nil sz=>simp only[St.nD] at hx;injection hx with hx;subst hx;exact⟨rfl,rfl,fun _ _=>rfl,trivial⟩
 |row n=>
  cases x with
  |int k i=>simp[St.nD] at hx
  |bool b=>simp[St.nD] at hx
  |list sz xs=>
   simp only[St.nD] at hx
   split at hx
   ·rename_i gr m rs kL hn
    split at hx
    ·rename_i e
     injection hx with hx
     subst hx
     subst e
     exact⟨rfl,rfl,fun q hq=>cd _ _ _ _ (fun e=>hq (by rw[e];rfl)),gr,m,rs,kL,xs,hn,rfl,bD _ _ _⟩
    ·cases hx
   ·cases hx
 |nest n k off=>
  simp only[St.nD] at hx
  split at hx
  ·rename_i gr m rs xs hn
   split at hx
   ·rename_i e he
    injection hx with hx
    subst hx
    exact⟨rfl,rfl,fun q hq=>cd _ _ _ _ (fun e=>hq (by rw[e];rfl)),gr,m,rs,xs,e,hn,he,bD _ _ _⟩
   ·cases hx
  ·cases hx
theorem BR.congr {σ σ1 τ oH:St} {it:de} {x:C} (hx:BR σ σ1 it x) (h1:∀n,it.dF=some n->τ.h n=σ.h n) (h2:∀n,it.dF=some n->oH.h n=σ1.h n):BR τ oH it x:=by
 cases it with
 |nil sz=>trivial
 |row n=>obtain⟨gr,m,rs,xs,ar,e1,e2,e3⟩:=hx;exact⟨gr,m,rs,xs,ar,(h1 n rfl).trans e1,e2,(h2 n rfl).trans e3⟩
 |nest n k off=>obtain⟨gr,m,rs,xs,e,e1,e2,e3⟩:=hx;exact⟨gr,m,rs,xs,e,(h1 n rfl).trans e1,e2,(h2 n rfl).trans e3⟩
theorem Lk {it:de×Mode} {its:List (de×Mode)} (h:it.1.dF=none):(it::its).filterMap (·.1.dF)=its.filterMap (·.1.dF):=List.filterMap_cons_none h
theorem zG {it:de×Mode} {its:List (de×Mode)} {n:Nat} (h:it.1.dF=some n):(it::its).filterMap (·.1.dF)=n::its.filterMap (·.1.dF):=List.filterMap_cons_some h
theorem Yx:∀{its:List (de×Mode)} {eJ:List C} {σ σ1:St},σ.pB its eJ=some σ1->(its.filterMap (·.1.dF)).Nodup->σ1.env=σ.env/\σ1.used=σ.used/\
  (∀n,n∉its.filterMap (·.1.dF)->σ1.h n=σ.h n)/\∀(i:Nat) (it:de×Mode) (x:C),its[i]? =some it->eJ[i]? =some x->BR σ σ1 it.1 x
 |[],[],σ,σ1,hx,gj=>by
  simp only[St.pB] at hx
  injection hx with hx
  subst hx
  exact⟨rfl,rfl,fun _ _=>rfl,by intro i it x h;simp at h⟩
 |it::its,x::eJ,σ,σ2,hx,gj=>by
  simp only[St.pB] at hx
  split at hx
  ·rename_i σ1 e1
   obtain⟨p1,p2,p3,p4⟩:=ajB e1
   have vE:(its.filterMap (·.1.dF)).Nodup:=by
    cases hn:it.1.dF with
    |none=>rw[Lk hn] at gj;exact gj
    |some n=>rw[zG hn] at gj;exact(List.nodup_cons.1 gj).2
   have n5:∀n,it.1.dF=some n->n∉its.filterMap (·.1.dF):=by
    intro n hn
    rw[zG hn] at gj
    exact(List.nodup_cons.1 gj).1
   obtain⟨q1,q2,q3,q4⟩:=Yx hx vE
   refine⟨q1.trans p1,q2.trans p2,fun n hn=>?_,fun i yc x' hi eT=>?_⟩
   ·have h1:it.1.dF≠some n:=by
     intro e
     rw[zG e] at hn
     exact hn (by simp)
    have h2:n∉its.filterMap (·.1.dF):=by
     intro hm
     apply hn
     cases hq:it.1.dF with
     |none=>rw[Lk hq];exact hm
     |some q=>rw[zG hq];exact List.mem_cons_of_mem _ hm
    exact(q3 n h2).trans (p3 n h1)
   ·cases i with
    |zero=>
     simp at hi eT
     subst hi
     subst eT
     exact p4.congr (fun _ _=>rfl) (fun n hn=>q3 n (n5 n hn))
    |succ i=>
     have hi':its[i]? =some yc:=by simpa using hi
     refine(q4 i yc x' hi' (by simpa using eT)).congr (fun n hn=>?_) (fun _ _=>rfl)
     refine(p3 n ?_).symm
     intro e
     refine n5 n e ?_
     rw[List.mem_filterMap]
     exact⟨yc,List.mem_of_getElem? hi',hn⟩
  ·cases hx
 |[],_::_,σ,σ1,hx,_=>by simp[St.pB] at hx
 |_::_,[],σ,σ1,hx,_=>by simp[St.pB] at hx
theorem Io:∀{its:List (de×Mode)},(its.filterMap (·.1.dF)).Nodup->∀{i j:Nat} {x y:de×Mode} {n:Nat},its[i]? =some x->its[j]? =some y->x.1.dF=some n->y.1.dF=some n->i=j
 |[],_,i,j,x,y,n,hi,_,_,_=>by simp at hi
 |it::its,gj,i,j,x,y,n,hi,hj,hx,hy=>by
  have vE:(its.filterMap (·.1.dF)).Nodup:=by
   cases hn:it.1.dF with
   |none=>rw[Lk hn] at gj;exact gj
   |some n=>rw[zG hn] at gj;exact(List.nodup_cons.1 gj).2
  have n5:∀n,it.1.dF=some n->∀(k:Nat) (z:de×Mode),its[k]? =some z->z.1.dF≠some n:=by
   intro n hn k z hk e
   rw[zG hn] at gj
   exact(List.nodup_cons.1 gj).1 (List.mem_filterMap.2 ⟨z,List.mem_of_getElem? hk,e⟩)
  cases i with
  |zero=>
   cases j with
   |zero=>rfl
   |succ j=>
    simp at hi hj
    subst hi
    exact absurd hy (n5 n hx j y hj)
  |succ i=>
   cases j with
   |zero=>
    simp at hi hj
    subst hj
    exact absurd hx (n5 n hy i x hi)
   |succ j=>exact congrArg (·+1) (Io vE (i:=i) (j:=j) (by simpa using hi) (by simpa using hj) hx hy)
end
end Go.Am
