/- AmN, AmO, AmR, AmS, AmT, AmU, AmV, AmX, Am17, Am18, Am19, Am20, Am21, Am22, Am23, AmA, AmD, AmE, AmF: parts of the proof. No condition. -/
import Derived.Test.YthildlkhnnogiaaAmM
set_option linter.unusedVariables false
set_option linter.unusedSimpArgs false
namespace Go.Am
section
variable {B:Nat} {E:Ex} {w0 w w':World} {G G':Gh} {N:Nat} {h h':Nat->Option aq} {used:Nat->Bool}
variable {P:Program} {o:Oper} {a:Act} {σ σ':St} {Q:Exit->Act->World->Prop}
structure EU (w':World) (p p':PB) (gr:Bool) (m:Mode) (sz:Nat) (ar:List (List C)):Prop where
 m1:m≠ .aI
 fl:(∀b,¬bf b p.px)\/m=.live
 nl:p'.nl=p.nl
 b:p'.b=p.b
 o:p'.o=p.o
 cap:p'.cap=p.cap
 na:p'.na=p.na
 er:ar=p'.px.map (fun e=>e.map PC.er)
 nlx:p.nl=true->p'.px=[]
 eI:p.nl=false->nD w' p.b p.o sz p'.px/\p'.px.length<=p.cap
 sep:iM p'.px
 sub:∀b,bf b p'.px->bf b p.px
 live:m=.live->∀k j pc,At p.px k j pc->pc.ie=true->∃dv,At p'.px k j dv/\dv.val=pc.val/\dv.ie=true
 nr:gr=true->m=.live->pn w' sz p'.px
theorem HR.GY (H:HR B E w G h used []) {S:Nat->Prop} (bU:w.heap.size<=w'.heap.size)
  (hw:∀b,b<w.heap.size->(∀n,S n->¬ta G n b)->w'.heap[b]? =w.heap[b]?) (jA:∀b,b<w.heap.size->Cz w w' b) (mE:G'.Im=G.Im)
  (hS:∀n,S n->∃gr m sz xs ar,h n=some (.row gr m sz xs)/\h' n=some (.row gr m sz ar)/\EU w' (G.g n) (G'.g n) gr m sz ar)
  (hN:∀n,¬S n->h' n=h n/\G'.g n=G.g n):HR B E w' G' h' used []/\bk w G h (fun n=>used n=true) w' G' h'/\∀n b,bf b (G'.g n).px->bf b (G.g n).px:=by
 have ne:∀n,h' n≠none->h n≠none:=by
  intro n hn;by_cases hs:S n
  ·obtain⟨gr,m,sz,xs,ar,e1,e2,_⟩:=hS n hs;rw[e1];simp
  ·rwa[(hN n hs).1] at hn
 have hJ:∀n,(G'.g n).nl=(G.g n).nl/\(G'.g n).b=(G.g n).b/\(G'.g n).o=(G.g n).o/\(G'.g n).cap=(G.g n).cap/\(G'.g n).na=(G.g n).na:=by
  intro n;by_cases hs:S n
  ·obtain⟨gr,m,sz,xs,ar,e1,e2,c⟩:=hS n hs;exact⟨c.nl,c.b,c.o,c.cap,c.na⟩
  ·rw[(hN n hs).2];exact⟨rfl,rfl,rfl,rfl,rfl⟩
 have sub:∀n b,bf b (G'.g n).px->bf b (G.g n).px:=by
  intro n b hb;by_cases hs:S n
  ·obtain⟨gr,m,sz,xs,ar,e1,e2,c⟩:=hS n hs;exact c.sub b hb
  ·rwa[(hN n hs).2] at hb
 have oh:∀n gr m sz ar,h' n=some (.row gr m sz ar)->∃xs,h n=some (.row gr m sz xs):=by
  intro n gr m sz ar hn;by_cases hs:S n
  ·obtain⟨KD,m1,tJ,xs,sL,e1,e2,_⟩:=hS n hs;rw[e2] at hn;injection hn with hn;injection hn with a1 a2 a3 a4;subst a1 a2 a3;exact⟨xs,e1⟩
  ·rw[(hN n hs).1] at hn;exact⟨ar,hn⟩
 have WV:∀n cs,h' n=some (.box cs)->h n=some (.box cs)/\¬S n:=by
  intro n cs hn;by_cases hs:S n
  ·obtain⟨KD,m1,tJ,xs,sL,e1,e2,_⟩:=hS n hs;rw[e2] at hn;cases hn
  ·rw[(hN n hs).1] at hn;exact⟨hn,hs⟩
 have anh:∀b,G.Im b->w'.heap[b]? =w.heap[b]? :=by
  intro b hb;refine hw b (H.gC b hb) fun n hs hf=>?_;obtain⟨gr,m,sz,xs,ar,e1,e2,c⟩:=hS n hs;rcases hf with⟨hl,rfl⟩|hF
  ·exact(H.own n (by rw[e1];simp) hl).1 hb
  ·rcases c.fl with c1|rfl
   ·exact c1 b hF
   ·exact((H.row n gr .live sz xs e1).mode.1 b hF).1 hb
 have Sc:∀n,¬S n->h n≠none->(G.g n).nl=false->w'.heap[(G.g n).b]? =w.heap[(G.g n).b]? :=by
  intro n hs hn hl;refine hw _ (H.own n hn hl).2.2 fun q hq hf=>?_;obtain⟨gr,m,sz,xs,ar,e1,e2,c⟩:=hS q hq;have aF:n≠q:=fun e=>hs (e▸hq);rcases hf with⟨qy,hb⟩|hF
  ·exact H.inj n q hn (by rw[e1];simp) aF hl qy hb
  ·rcases c.fl with c1|rfl
   ·exact c1 _ hF
   ·exact H.live q gr sz xs e1 _ hF n hn hl rfl
 have ani:∀n gr m sz xs,¬S n->h n=some (.row gr m sz xs)->∀b,bf b (G.g n).px->w'.heap[b]? =w.heap[b]? :=by
  intro n gr m sz xs hs hn b hb;refine hw _ (H.oZ hn hb) fun q hq hf=>?_;obtain⟨bn,m',aH,sL,agX,e1,e2,c⟩:=hS q hq;have aF:n≠q:=fun e=>hs (e▸hq);exact H.FQ aF hn e1 c.fl (.inr hb) hf
 have K:bk w G h (fun n=>used n=true) w' G' h':=by
  refine⟨fun b hb=>by rw[mE];exact hb,fun b hb o=>gU (anh b hb) o,fun n _ hn=>⟨ne n hn,hJ n⟩,fun n gr sz ar _ hn=>?_⟩;obtain⟨xs,e⟩:=oh n gr .live sz ar hn;refine⟨⟨gr,xs,e⟩,fun k j pc hk hL=>?_⟩;by_cases hs:S n
  ·obtain⟨KD,m1,tJ,sL,agX,e1,e2,c⟩:=hS n hs;rw[e] at e1;injection e1 with e1;injection e1 with _ e1 _ _;exact c.live e1.symm k j pc hk hL
  ·rw[(hN n hs).2];exact⟨pc,hk,rfl,hL⟩
 refine⟨⟨fun n hn=>H.ji n (ne n hn),fun m cs c n hm=>H.iq m cs c n (WV m cs hm).1,fun n cs hn=>?_,fun n gr m sz ar hn=>?_,fun n hn hl=>?_,fun n n' hn bu aF hl eG=>?_,
  fun b hb=>?_,fun b hb=>H.pH b (by rw[mE] at hb;exact hb),fun n n' gr m sz xs bn m' aH ar hn bu hm bL aF b hb aJ=>?_,fun n gr sz xs hn b hb n' bu hl=>?_,?_,?_,?_⟩,K,sub⟩
 ·obtain⟨h1,hs⟩:=WV n cs hn;obtain⟨a1,a2,a3⟩:=H.box n cs h1;have hb:=Sc n hs (by rw[h1];simp) a1;rw[(hN n hs).2];refine⟨a1,a2.congr hb,fun j c hj=>?_⟩;obtain⟨v,v1,v2,v3⟩:=a3 j c hj;exact⟨v,(gU hb _).trans v1,v2,v3.fP K fun q hq=>H.iq n cs c q h1 (List.mem_of_getElem? hj) hq⟩
 ·by_cases hs:S n
  ·obtain⟨KD,m1,tJ,sL,agX,e1,e2,c⟩:=hS n hs;rw[e2] at hn;injection hn with hn;injection hn with q1 q2 q3 q4;subst q1 q2 q3 q4;have hr:=H.row n KD m1 tJ sL e1;refine⟨hr.pos,c.er,fun hl=>?_,fun hl=>?_,fun hl hg=>?_,?_,c.nr⟩
   ·rw[c.nl] at hl;refine⟨c.nlx hl,fun hg=>?_⟩;rw[c.cap];exact(hr.nl hl).2 hg
   ·rw[c.nl] at hl;obtain⟨l1,l2,l3⟩:=hr.eI hl;obtain⟨c1,c2⟩:=c.eI hl;rw[c.b,c.o,c.cap];exact⟨(jA _ l1.lt).j7 l1,c1,c2⟩
   ·rw[c.nl] at hl;obtain⟨r2,cur,e,r3,r4⟩:=hr.room hl hg;obtain⟨ju,s1,s2⟩:=jA (G.g n).b (H.own n (by rw[e1];simp) hl).2.2 cur e r3;unfold E7;rw[c.b,c.o,c.cap];exact⟨r2,ju,e,s1,s2.trans r4⟩
   ·have hm:=hr.mode;cases m1 with
    |aI=>exact absurd rfl c.m1
    |aO=>exact⟨fun b hb=>by
     have aJ:=c.sub b hb;have:=hm.1 b aJ;exact⟨by rw[mE];exact this.1,(jA b this.2.1.lt).j7 this.2.1,this.2.2⟩,c.sep⟩
    |live=>exact⟨fun b hb=>by
     have aJ:=c.sub b hb;have:=hm.1 b aJ;exact⟨by rw[mE];exact this.1,(jA b this.2.1.lt).j7 this.2.1,this.2.2⟩,c.sep⟩
  ·rw[(hN n hs).1] at hn;rw[(hN n hs).2];have hr:=H.row n gr m sz ar hn;have eW:=ani n gr m sz ar hs hn;refine⟨hr.pos,hr.er,hr.nl,fun hl=>?_,fun hl hg=>?_,?_,fun hg hm=>(hr.nr hg hm).congr eW⟩
   ·obtain⟨l1,l2,l3⟩:=hr.eI hl;have hb:=Sc n hs (by rw[hn];simp) hl;exact⟨l1.congr hb,l2.congr (fun o=>gU hb o) (fun b' aJ o=>gU (eW b' aJ) o),l3⟩
   ·obtain⟨r2,cur,e,r3,r4⟩:=hr.room hl hg;exact⟨r2,cur,e,(Sc n hs (by rw[hn];simp) hl).trans r3,r4⟩
   ·have hm:=hr.mode;cases m with
    |aI=>exact fun b hb=>by rw[mE];exact hm b hb
    |aO=>exact⟨fun b hb=>⟨by rw[mE];exact(hm.1 b hb).1,(hm.1 b hb).2.1.congr (eW b hb),(hm.1 b hb).2.2⟩,hm.2⟩
    |live=>exact⟨fun b hb=>⟨by rw[mE];exact(hm.1 b hb).1,(hm.1 b hb).2.1.congr (eW b hb),(hm.1 b hb).2.2⟩,hm.2⟩
 ·obtain⟨s1,s2,s3,s4,s5⟩:=hJ n;rw[s1] at hl;rw[s2];obtain⟨o1,o2,o3⟩:=H.own n (ne n hn) hl;exact⟨by rw[mE];exact o1,o2,Nat.lt_of_lt_of_le o3 bU⟩
 ·rw[(hJ n).1] at hl;rw[(hJ n').1] at eG;rw[(hJ n).2.1,(hJ n').2.1];exact H.inj n n' (ne n hn) (ne n' bu) aF hl eG
 ·rw[mE] at hb;exact Nat.lt_of_lt_of_le (H.gC b hb) bU
 ·obtain⟨x1,e1⟩:=oh n gr m sz xs hn;obtain⟨x2,e2⟩:=oh n' bn m' aH ar bu;exact H.gn n n' gr m sz x1 bn m' aH x2 e1 e2 hm bL aF b (sub n b hb) (sub n' b aJ)
 ·obtain⟨x1,e1⟩:=oh n gr .live sz xs hn;rw[(hJ n').1] at hl;rw[(hJ n').2.1];exact H.live n gr sz x1 e1 b (sub n b hb) n' (ne n' bu) hl
 ·intro i pc hi;simp at hi
 ·intro i j pc dv b _ hi;simp at hi
 ·intro i pc n gr m sz xs b hi;simp at hi
def E4 (σ σ1:St) (it:dz) (x:C):Prop:=
 match it with
 |.nil _=>True
 |.row n=>∃gr m rs xs ar,σ.h n=some (.row gr m rs xs)/\x=.list rs ar/\σ1.h n=some (.row gr m rs ar)
 |.nest n k off=>∃gr m rs xs e,σ.h n=some (.row gr m rs xs)/\xs[k]? =some e/\σ1.h n=some (.row gr m rs (xs.set k (e.set off x)))
theorem ar6 {it:dz} {x:C} {σ1:St} (hx:σ.oW it x=some σ1):σ1.env=σ.env/\σ1.used=σ.used/\(∀n,it.eN≠some n->σ1.h n=σ.h n)/\E4 σ σ1 it x:=by
 cases it with
 |nil sz=>simp only[St.oW] at hx;injection hx with hx;subst hx;exact⟨rfl,rfl,fun _ _=>rfl,trivial⟩
 |row n=>
  cases x with
  |int k i=>simp[St.oW] at hx
  |bool b=>simp[St.oW] at hx
  |list sz xs=>
   simp only[St.oW] at hx;split at hx
   ·rename_i gr m rs jp hn;split at hx
    ·rename_i e;injection hx with hx;subst hx;subst e;exact⟨rfl,rfl,fun q hq=>cJ _ _ _ _ (fun e=>hq (by rw[e];rfl)),gr,m,rs,jp,xs,hn,rfl,bO _ _ _⟩
    ·cases hx
   ·cases hx
 |nest n k off=>
  simp only[St.oW] at hx;split at hx
  ·rename_i gr m rs xs hn;split at hx
   ·rename_i e he;injection hx with hx;subst hx;exact⟨rfl,rfl,fun q hq=>cJ _ _ _ _ (fun e=>hq (by rw[e];rfl)),gr,m,rs,xs,e,hn,he,bO _ _ _⟩
   ·cases hx
  ·cases hx
theorem E4.congr {σ σ1 τ oA:St} {it:dz} {x:C} (hx:E4 σ σ1 it x) (h1:∀n,it.eN=some n->τ.h n=σ.h n) (h2:∀n,it.eN=some n->oA.h n=σ1.h n):E4 τ oA it x:=by
 cases it with
 |nil sz=>trivial
 |row n=>obtain⟨gr,m,rs,xs,ar,e1,e2,e3⟩:=hx;exact⟨gr,m,rs,xs,ar,(h1 n rfl).trans e1,e2,(h2 n rfl).trans e3⟩
 |nest n k off=>obtain⟨gr,m,rs,xs,e,e1,e2,e3⟩:=hx;exact⟨gr,m,rs,xs,e,(h1 n rfl).trans e1,e2,(h2 n rfl).trans e3⟩
theorem P6 {it:dz×Mode} {its:List (dz×Mode)} (h:it.1.eN=none):(it::its).filterMap (·.1.eN)=its.filterMap (·.1.eN):=List.filterMap_cons_none h
theorem CV {it:dz×Mode} {its:List (dz×Mode)} {n:Nat} (h:it.1.eN=some n):(it::its).filterMap (·.1.eN)=n::its.filterMap (·.1.eN):=List.filterMap_cons_some h
theorem ads:∀{its:List (dz×Mode)} {dW:List C} {σ σ1:St},σ.od its dW=some σ1->(its.filterMap (·.1.eN)).Nodup->σ1.env=σ.env/\σ1.used=σ.used/\
  (∀n,n∉its.filterMap (·.1.eN)->σ1.h n=σ.h n)/\∀(i:Nat) (it:dz×Mode) (x:C),its[i]? =some it->dW[i]? =some x->E4 σ σ1 it.1 x
 |[],[],σ,σ1,hx,fx=>by
  simp only[St.od] at hx;injection hx with hx;subst hx;exact⟨rfl,rfl,fun _ _=>rfl,by intro i it x h;simp at h⟩
 |it::its,x::dW,σ,σ2,hx,fx=>by
  simp only[St.od] at hx;split at hx
  ·rename_i σ1 e1;obtain⟨p1,p2,p3,p4⟩:=ar6 e1;have uF:(its.filterMap (·.1.eN)).Nodup:=by
    cases hn:it.1.eN with
    |none=>rw[P6 hn] at fx;exact fx
    |some n=>rw[CV hn] at fx;exact(List.nodup_cons.1 fx).2
   have ni:∀n,it.1.eN=some n->n∉its.filterMap (·.1.eN):=by
    intro n hn;rw[CV hn] at fx;exact(List.nodup_cons.1 fx).1
   obtain⟨q1,q2,q3,q4⟩:=ads hx uF;refine⟨q1.trans p1,q2.trans p2,fun n hn=>?_,fun i AJ x' hi lS=>?_⟩
   ·have h1:it.1.eN≠some n:=by
     intro e;rw[CV e] at hn;exact hn (by simp)
    have h2:n∉its.filterMap (·.1.eN):=by
     intro hm;apply hn;cases hq:it.1.eN with
     |none=>rw[P6 hq];exact hm
     |some q=>rw[CV hq];exact List.mem_cons_of_mem _ hm
    exact(q3 n h2).trans (p3 n h1)
   ·cases i with
    |zero=>
     simp at hi lS;subst hi;subst lS;exact p4.congr (fun _ _=>rfl) (fun n hn=>q3 n (ni n hn))
    |succ i=>
     have hi':its[i]? =some AJ:=by simpa using hi
     refine(q4 i AJ x' hi' (by simpa using lS)).congr (fun n hn=>?_) (fun _ _=>rfl);refine(p3 n ?_).symm;intro e;refine ni n e ?_;rw[List.mem_filterMap];exact⟨AJ,List.mem_of_getElem? hi',hn⟩
  ·cases hx
 |[],_::_,σ,σ1,hx,_=>by simp[St.od] at hx
 |_::_,[],σ,σ1,hx,_=>by simp[St.od] at hx
theorem LS:∀{its:List (dz×Mode)},(its.filterMap (·.1.eN)).Nodup->∀{i j:Nat} {x y:dz×Mode} {n:Nat},its[i]? =some x->its[j]? =some y->x.1.eN=some n->y.1.eN=some n->i=j
 |[],_,i,j,x,y,n,hi,_,_,_=>by simp at hi
 |it::its,fx,i,j,x,y,n,hi,hj,hx,hy=>by
  have uF:(its.filterMap (·.1.eN)).Nodup:=by
   cases hn:it.1.eN with
   |none=>rw[P6 hn] at fx;exact fx
   |some n=>rw[CV hn] at fx;exact(List.nodup_cons.1 fx).2
  have ni:∀n,it.1.eN=some n->∀(k:Nat) (z:dz×Mode),its[k]? =some z->z.1.eN≠some n:=by
   intro n hn k z hk e;rw[CV hn] at fx;exact(List.nodup_cons.1 fx).1 (List.mem_filterMap.2 ⟨z,List.mem_of_getElem? hk,e⟩)
  cases i with
  |zero=>
   cases j with
   |zero=>rfl
   |succ j=>
    simp at hi hj;subst hi;exact absurd hy (ni n hx j y hj)
  |succ i=>
   cases j with
   |zero=>
    simp at hi hj;subst hj;exact absurd hx (ni n hy i x hi)
   |succ j=>exact congrArg (·+1) (LS uF (i:=i) (j:=j) (by simpa using hi) (by simpa using hj) hx hy)
end
section
variable {B:Nat} {E:Ex} {w0 w w':World} {G G':Gh} {N:Nat} {h h':Nat->Option aq} {used:Nat->Bool}
variable {P:Program} {o:Oper} {a:Act} {σ σ':St} {Q:Exit->Act->World->Prop}
def yN (p:PB):dz->PC->PB
 |.row _,.list _ _ _ px=>{p with px:=px}
 |.nest _ k off,q=>{p with px:=p.px.set k ((p.px.getD k []).set off q)}
 |_,_=>p
open Classical in
noncomputable def uA (G:Gh) (its:List (dz×Mode)) (qs:List PC):Gh:=
 ⟨G.Im,fun n=>if h:∃p:(dz×Mode)×PC,∃i:Nat,its[i]? =some p.1/\qs[i]? =some p.2/\p.1.1.eN=some n then yN (G.g n) h.choose.1.1 h.choose.2 else G.g n⟩
theorem ZH {its:List (dz×Mode)} {qs:List PC} (fx:(its.filterMap (·.1.eN)).Nodup) {i n:Nat} {it:dz×Mode} {q:PC} (hi:its[i]? =some it) (hq:qs[i]? =some q) (hn:it.1.eN=some n):
  (uA G its qs).g n=yN (G.g n) it.1 q:=by
 have rT:∃p:(dz×Mode)×PC,∃i:Nat,its[i]? =some p.1/\qs[i]? =some p.2/\p.1.1.eN=some n:=⟨(it,q),i,hi,hq,hn⟩;unfold uA;simp only
 rw[dif_pos rT];obtain⟨j,h1,h2,h3⟩:=rT.choose_spec;have iv:=LS fx h1 hi h3 hn;subst iv;rw[hi] at h1;rw[hq] at h2;injection h1 with h1;injection h2 with h2;rw[<-h1,<-h2]
theorem ZI {its:List (dz×Mode)} {qs:List PC} {n:Nat} (hn:n∉its.filterMap (·.1.eN)):(uA G its qs).g n=G.g n:=by
 unfold uA;simp only
 rw[dif_neg];rintro⟨p,i,h1,h2,h3⟩;exact hn (List.mem_filterMap.2 ⟨p.1,List.mem_of_getElem? h1,h3⟩)
theorem PC.Sm {pc q:PC} (hv:q.val=pc.val) (hL:pc.ie=true):∃sz a cap xs,q=.list sz a cap xs:=by
 cases pc with
 |int k n=>cases hL
 |bool b=>cases hL
 |list sz a cap xs=>
  cases q with
  |int k n=>cases hv
  |bool b=>cases hv
  |list sz a cap xs=>exact⟨_,_,_,_,rfl⟩
theorem Yt {px:List (List PC)} (hs:eO (px.map fun e=>e.map PC.er)=true) {k j:Nat} {c:PC} (hk:At px k j c):c.ie=false:=by
 obtain⟨e,he,hj⟩:=hk;have h6:=List.all_eq_true.1 hs (e.map PC.er) (by simp only[List.mem_map];exact⟨e,List.mem_of_getElem? he,rfl⟩);have h7:=List.all_eq_true.1 h6 c.er (by simp only[List.mem_map];exact⟨c,List.mem_of_getElem? hj,rfl⟩);cases hL:c.ie with
 |false=>rfl
 |true=>rw[PC.aaP hL] at h7;cases h7
theorem Ys {px:List (List PC)} (hs:eO (px.map fun e=>e.map PC.er)=true) (b:Nat):¬bf b px:=by
 rintro⟨k,j,c,⟨e,he,hj⟩,hc⟩;have h6:=List.all_eq_true.1 hs (e.map PC.er) (by simp only[List.mem_map];exact⟨e,List.mem_of_getElem? he,rfl⟩);have h7:=List.all_eq_true.1 h6 c.er (by simp only[List.mem_map];exact⟨c,List.mem_of_getElem? hj,rfl⟩);exact(Sep.g9 h7).2 b hc
theorem W8 (H:HR B E w G h used []) {n:Nat} {gr:Bool} {m md:Mode} {sz:Nat} {xs:List (List C)} (hn:h n=some (.row gr m sz xs)) (hm:m≠ .aI) (wi:md=.live->m=.live) (lO:uu md xs=true) (wa:m=.live->gr=false)
  {q:PC} (A:tZ w' md (o6 sz (G.g n)) q) {k:Nat} {ar:List (List C)} (hq:q.er=.list k ar):EU w' (G.g n) (yN (G.g n) (.row n) q) gr m sz ar:=by
 have hr:=H.row n gr m sz xs hn;have bK:h n≠none:=by rw[hn];simp
 obtain⟨aH,a',pt,px',rfl⟩:=PC.Sm A.val rfl;obtain⟨rfl,ha,rfl,hlen,hl⟩:=A.live _ _ _ _ _ _ _ _ rfl rfl;rw[PC.d9] at hq;injection hq with _ hq;have jV:=A.sep;have eR:(∀k j c,At px' k j c->Sep c)/\(∀b o k j c,a'=some (ad b o)->At px' k j c->¬aX b c)/\iM px':=by
  cases jV with
  |list _ _ _ _ h1 h2 h3=>exact⟨h1,h2,h1,h3⟩
 have qD:∀b,bf b px'->(G.g n).nl=false->b≠(G.g n).b:=by
  rintro b ⟨k,j,c,hk,hc⟩ aT rfl;refine eR.2.1 (G.g n).b (G.g n).o k j c ?_ hk hc;rw[ha,if_neg (by simp[aT])]
 have iE:md=.aO->eO xs=true:=by rintro rfl;exact lO
 refine⟨hm,?_,rfl,rfl,rfl,rfl,rfl,hq.symm,fun aT=>?_,fun aT=>?_,eR.2.2,fun b hb=>?_,fun dU k j pc hk hL=>?_,fun hg hl=>by rw[wa hl] at hg;cases hg⟩
 ·cases md with
  |aI=>cases lO
  |live=>exact .inr (wi rfl)
  |aO=>exact .inl (Ys (by rw[<-hr.er];exact iE rfl))
 ·have:=(hr.nl aT).1;rw[this] at hlen;exact List.eq_nil_of_length_eq_zero hlen
 ·refine⟨?_,?_⟩
  ·have hg:=A.ez;rw[ha,if_neg (by simp[aT])] at hg;by_cases h0:px'=[]
   ·show nD w' _ _ _ px';rw[h0];exact⟨by simp,by rintro k j c ⟨e,he,_⟩;simp at he,by rintro k j c ⟨e,he,_⟩;simp at he⟩
   ·generalize km:PC.list aH (some (ad (G.g n).b (G.g n).o)) (G.g n).cap px'=q2 at hg;cases hg with
    |int k n=>cases km
    |bool b=>cases km
    |nil _ _ _ _=>injection km with _ _ _ e4;exact absurd e4 h0
    |cons _ _ _ _ _ h1 h2 h3 h4 h5 h6=>
     injection km with e1 e2 e3 e4;injection e2 with e2;obtain⟨e5,e6⟩:=lf e2;subst e1 e3 e4;rw[e5,e6];exact⟨h4,h5,h6⟩
  ·show px'.length<=_;rw[hlen];exact(hr.eI aT).2.2
 ·have cW:aX b (o6 aH (G.g n)):=A.sub b (by
   obtain⟨k,j,c,hk,hc⟩:=hb;exact .there _ _ _ _ k j c hk hc)
  rcases Ts (fun hq=>(hr.nl hq).1) cW with⟨aT,he⟩|hF
  ·exact absurd he (qD b hb aT)
  ·exact hF
 ·cases md with
  |aI=>cases lO
  |live=>exact hl rfl k j pc hk hL
  |aO=>
   have:=Yt (px:=(G.g n).px) (by rw[<-hr.er];exact iE rfl) hk;rw[hL] at this;cases this
theorem oC {α:Type} {px:List (List α)} {k off k' j':Nat} {e:List α} {q c:α} (he:px[k]? =some e) (h:At (px.set k (e.set off q)) k' j' c):(k'=k/\j'=off/\c=q)\/(At px k' j' c/\(k',j')≠(k,off)):=by
 have hk:=(List.getElem?_eq_some_iff.1 he).1;rcases JK hk h with⟨rfl,h1⟩|⟨aF,h1⟩
 ·by_cases hj:j'=off
  ·subst hj;have hl:j'<e.length:=by have:=(List.getElem?_eq_some_iff.1 h1).1;simpa using this
   rw[List.getElem?_set_self hl] at h1;injection h1 with h1;exact .inl ⟨rfl,rfl,h1.symm⟩
  ·rw[List.getElem?_set_ne (Ne.symm hj)] at h1;exact .inr ⟨⟨e,he,h1⟩,fun e=>hj (congrArg Prod.snd e)⟩
 ·exact .inr ⟨h1,fun e=>aF (congrArg Prod.fst e)⟩
theorem ahi {α:Type} {px:List (List α)} {k off k' j':Nat} {e:List α} {q c:α} (he:px[k]? =some e) (h:At px k' j' c) (aF:(k',j')≠(k,off)):At (px.set k (e.set off q)) k' j' c:=by
 obtain⟨e',h1,h2⟩:=h;by_cases hk:k'=k
 ·subst hk;rw[he] at h1;injection h1 with h1;subst h1;have hj:j'≠off:=fun e=>aF (by rw[e]);exact⟨_,List.getElem?_set_self (List.getElem?_eq_some_iff.1 he).1,by rw[List.getElem?_set_ne (Ne.symm hj)];exact h2⟩
 ·exact⟨e',by rw[List.getElem?_set_ne (Ne.symm hk)];exact h1,h2⟩
theorem W7 (H:HR B E w G h used []) {n k off:Nat} {gr:Bool} {sz:Nat} {xs:List (List C)} (hn:h n=some (.row gr .live sz xs)) (wa:gr=false) {pc:PC} (cD:At (G.g n).px k off pc) (hL:pc.ie=true)
  (qD:(G.g n).nl=false->w'.heap[(G.g n).b]? =w.heap[(G.g n).b]?) (yk:∀k' j' c,At (G.g n).px k' j' c->(k',j')≠(k,off)->∀b,aX b c->w'.heap[b]? =w.heap[b]?)
  {q:PC} (A:tZ w' .aO pc q) {ex:List C} (rT:xs[k]? =some ex):EU w' (G.g n) (yN (G.g n) (.nest n k off) q) gr .live sz (xs.set k (ex.set off q.er)):=by
 have hr:=H.row n gr .live sz xs hn;obtain⟨e0,lg,QR⟩:=cD;have iT:(G.g n).px.getD k []=e0:=by simp[List.getD_eq_getElem?_getD,lg]
 have fC:(yN (G.g n) (.nest n k off) q).px=(G.g n).px.set k (e0.set off q):=by simp only[yN,iT]
 have akS:ex=e0.map PC.er:=by
  rw[hr.er,List.getElem?_map,lg] at rT;simpa using rT.symm
 have cD:At (G.g n).px k off pc:=⟨e0,lg,QR⟩;have hqL:q.ie=true:=by
  obtain⟨sz,a,cap,xs,rfl⟩:=PC.Sm A.val hL;rfl
 have aT:(G.g n).nl=false:=by
  cases hq:(G.g n).nl with
  |false=>rfl
  |true=>rw[(hr.nl hq).1] at lg;simp at lg
 obtain⟨l1,l2,l3⟩:=hr.eI aT;refine⟨by simp,.inr rfl,rfl,rfl,rfl,rfl,rfl,?_,fun h=>?_,fun _=>?_,?_,fun b hb=>?_,fun _ k' j' c bJ hc=>?_,fun hg _=>by rw[wa] at hg;cases hg⟩
 ·rw[fC,hr.er,akS,List.map_set,List.map_set]
 ·rw[aT] at h;cases h
 ·rw[fC];refine⟨⟨fun e he=>?_,fun k' j' c bJ=>?_,fun k' j' c bJ=>?_⟩,by rw[List.length_set];exact l3⟩
  ·rcases List.mem_or_eq_of_mem_set he with he|rfl
   ·exact l2.1 e he
   ·rw[List.length_set];exact l2.1 e0 (List.mem_of_getElem? lg)
  ·rw[gU (qD aT)];rcases oC lg bJ with⟨rfl,rfl,rfl⟩|⟨h1,_⟩
   ·rw[A.val];exact l2.2.1 _ _ _ cD
   ·exact l2.2.1 _ _ _ h1
  ·rcases oC lg bJ with⟨rfl,rfl,rfl⟩|⟨h1,h2⟩
   ·exact A.ez
   ·exact(l2.2.2 _ _ _ h1).congr fun b hb o=>gU (yk k' j' c h1 h2 b hb) o
 ·rw[fC];refine⟨fun k' j' c bJ=>?_,fun k1 j1 c1 k2 j2 c2 b h1 h2 aF hb aJ=>?_⟩
  ·rcases oC lg bJ with⟨rfl,rfl,rfl⟩|⟨h1,h2⟩
   ·exact A.sep
   ·exact hr.mode.2.1 _ _ _ h1
  ·rcases oC lg h1 with⟨rfl,rfl,rfl⟩|⟨g1,n1⟩
   ·rcases oC lg h2 with⟨rfl,rfl,rfl⟩|⟨g2,n2⟩
    ·exact aF rfl
    ·exact hr.mode.2.2 _ _ _ _ _ _ b cD g2 aF (A.sub b hb) aJ
   ·rcases oC lg h2 with⟨rfl,rfl,rfl⟩|⟨g2,n2⟩
    ·exact hr.mode.2.2 _ _ _ _ _ _ b g1 cD aF hb (A.sub b aJ)
    ·exact hr.mode.2.2 _ _ _ _ _ _ b g1 g2 aF hb aJ
 ·rw[fC] at hb;obtain⟨k',j',c,bJ,hc⟩:=hb;rcases oC lg bJ with⟨rfl,rfl,rfl⟩|⟨h1,h2⟩
  ·exact⟨_,_,_,cD,A.sub b hc⟩
  ·exact⟨_,_,_,h1,hc⟩
 ·rw[fC];by_cases he:(k',j')=(k,off)
  ·have h1:k'=k:=congrArg Prod.fst he;have h2:j'=off:=congrArg Prod.snd he;subst h1 h2;obtain⟨e1,g1,g2⟩:=bJ;rw[lg] at g1;injection g1 with g1;subst g1;rw[QR] at g2;injection g2 with g2;subst g2;have hl:j'<e0.length:=(List.getElem?_eq_some_iff.1 QR).1;exact⟨q,⟨_,List.getElem?_set_self (List.getElem?_eq_some_iff.1 lg).1,List.getElem?_set_self hl⟩,A.val,hqL⟩
  ·exact⟨c,ahi lg bJ he,rfl,hc⟩
theorem Sx:∀{as:List aj} {cZ:List (Bool×List ah)} {vals:List Value},qT as=some cZ->vals.length=as.length->(∀(j:Nat) (x:aj) (v:Value),as[j]? =some x->vals[j]? =some v->RA w G h x v)->
  vals.length=cZ.length/\∀(j:Nat) (x:Bool×List ah) (v:Value),cZ[j]? =some x->vals[j]? =some v->RV w G h x.1 x.2 v
 |[],cZ,vals,hx,hl,hc=>by
  simp only[qT] at hx;injection hx with hx;subst hx;exact⟨hl,by simp⟩
 |y::as,cZ,vals,hx,hl,hc=>by
  simp only[qT] at hx;split at hx
  ·rename_i x xs e1 e2;injection hx with hx;subst hx;match vals,hl with
   |v::vals,hl=>
    obtain⟨i1,i2⟩:=Sx e2 (vals:=vals) (by simpa using hl) (fun j x v h1 h2=>hc (j+1) x v h1 h2);refine⟨by simp[i1],fun j x' v' hj hv=>?_⟩;cases j with
    |zero=>
     simp at hj hv;subst hj hv;have h0:=hc 0 y v rfl rfl;cases y with
     |one c=>
      cases c<;>simp[aj.cells?] at e1<;>subst e1<;>exact h0.resolve_left (by simp)
     |agg cs=>
      simp[aj.cells?] at e1;subst e1;exact h0
     |bH l=>simp[aj.cells?] at e1
    |succ j=>exact i2 j x' v' (by simpa using hj) (by simpa using hv)
  ·cases hx
theorem tY.ie {it:dz} {md:Mode} {pc:PC} (i:tY B E w G h it md pc):pc.ie=true:=by
 obtain⟨sz,a,cap,xs,rfl,_⟩:=i.ok.eI;rfl
def Cd (P:Program) (T:aN):Prop:=∀f sig M,aN.nO T.u4 f=some (sig,M)->rr P f sig M
def OJ (w:World) (sig:aM) (pas:List PA) (rs:List Dv) (dW:List C) (e:Ending) (w':World):Prop:=
  ∃bq:List (K×List PC),bq.map (fun p=>(p.1,p.2.map PC.er))=rs/\e=.returned (wX bq)/\(∀p∈bq,p.1≠ .ptr/\(p.1=.one->p.2.length=1))/\
   vr w' w.heap.size (bq.flatMap (·.2))/\Fr w.heap.size (CT (eZ sig (pas.map (·.ps)))) w w'/\
   ∃qs:List PC,qs.map PC.er=dW/\qs.length=(eZ sig (pas.map (·.ps))).length/\
    ∀(i:Nat) (x:Mode×PC) (q:PC),(eZ sig (pas.map (·.ps)))[i]? =some x->qs[i]? =some q->tZ w' x.1 x.2 q
theorem XU (r:R B E w0 N σ a w G) {m:Mode} {f:FuncId} {vals vals':List Value} {sig:aM} {ns:List Nat} {ds:List Dv} {its:List (dz×Mode)} {pas:List PA} {rs:List Dv} {dW:List C} {σ2 gK:St} {ls:List (Bool×List ah)}
  (hS:∀pas,xA w sig ds vals pas->Calls P f vals'.toArray w (OJ w sig pas rs dW)) (hN:∀n,o.dst=some n->n<N) (bR:(execOp a.eval o).run P w=.ok (.enter f vals'.toArray) w)
  (q1:pas.length=ds.length) (q2:vals.length=ds.length) (q3:∀(i:Nat) (d:Dv) (v:Value) (p:PA),ds[i]? =some d->vals[i]? =some v->pas[i]? =some p->vj w d v p)
  (wv:∀p∈pas,p.k=.ptr->∃n cs,σ.h n=some (.box cs)/\(G.g n).nl=false/\p.b=(G.g n).b)
  (alf:∀(i:Nat) (p:PA) (s:List (Option Mode)),pas[i]? =some p->sig[i]? =some s->p.k=.ptr->yW s p.ps.length)
  (q5:kz B E w G σ.h its (eZ sig (pas.map (·.ps)))) (q6:its.filterMap (·.1.eN)=ns) (q7:∀pc∈me sig (pas.map (·.ps)),EP G σ.h ns pc) (fx:ns.Nodup)
  (nX:σ.od its dW=some σ2) (wc:σ2.jE m (jI o.dst) rs=some (ls,gK)):o.wp P a w (Nx B E w0 N (gK.put o.dst (lZ ls))) Q:=by
 have H:=r.hr;have uF:(its.filterMap (·.1.eN)).Nodup:=by rw[q6];exact fx
 generalize uB:eZ sig (pas.map (·.ps))=fl at q5;have Lj:∀(i:Nat) (x:Mode×PC),fl[i]? =some x->∃it,its[i]? =some it/\it.2=x.1/\tY B E w G σ.h it.1 x.1 x.2:=by
  intro i x hi;have cj:i<its.length:=by rw[q5.len];exact(List.getElem?_eq_some_iff.1 hi).1
  have he:its[i]? =some its[i]:=List.getElem?_eq_getElem cj;exact⟨_,he,q5.at_ i _ x he hi⟩
 have Yv:∀x∈fl,∃it∈its,tY B E w G σ.h it.1 x.1 x.2:=by
  intro x hx;obtain⟨i,hi⟩:=List.getElem?_of_mem hx;obtain⟨it,h1,_,h2⟩:=Lj i x hi;exact⟨it,List.mem_of_getElem? h1,h2⟩
 have lr:∀x∈fl,∀b,aX b x.2->∃n gr m sz xs,n∈ns/\σ.h n=some (.row gr m sz xs)/\m≠ .aI/\ta G n b/\((∀b,¬bf b (G.g n).px)\/m=.live):=by
  intro x hx b hb;obtain⟨it,h1,h2⟩:=Yv x hx;obtain⟨n,gr,m,sz,xs,e1,e2,e3,e4,e5⟩:=h2.oK H hb;exact⟨n,gr,m,sz,xs,by rw[<-q6];exact List.mem_filterMap.2 ⟨it,h1,e1⟩,e2,e3,e4,e5⟩
 have rT:∀b,CT fl b->(B<=b\/E b):=by
  rintro b ⟨x,hx,hb⟩;obtain⟨n,gr,m,sz,xs,_,e2,e3,e4,e5⟩:=lr x hx b hb;rcases e4 with⟨aT,rfl⟩|hF
  ·exact(H.own n (by rw[e2];simp) aT).2.1
  ·have gf:=(H.row n gr m sz xs e2).mode;cases m with
   |aI=>exact absurd rfl e3
   |aO=>exact(gf.1 b hF).2.2
   |live=>exact(gf.1 b hF).2.2
 have Sz:xA w sig ds vals pas:=by
  refine⟨q2,q1,q3,fun x hx=>?_,?_,fun pc bg x hx b hb aJ=>?_,fun p hp hk x hx hb=>?_,alf⟩
  ·rw[uB] at hx;obtain⟨it,_,h2⟩:=Yv x hx;exact h2.ok
  ·rw[uB,List.pairwise_iff_getElem];intro i j hi hj iv b hb aJ;obtain⟨it,h1,_,h2⟩:=Lj i _ (List.getElem?_eq_getElem hi);obtain⟨AJ,iS,_,xZ⟩:=Lj j _ (List.getElem?_eq_getElem hj);obtain⟨n,gr,m,sz,xs,e1,e2,e3,e4,e5⟩:=h2.oK H hb;obtain⟨n',bn,m',aH,ar,FC,nJ,PL,vO,zR⟩:=xZ.oK H aJ;have aF:n≠n':=by
    rintro rfl;have:=LS uF h1 iS e1 FC;omega
   exact H.FQ aF e2 nJ zR e4 vO
  ·rw[uB] at hx;obtain⟨n',bn,m',aH,ar,FC,nJ,PL,vO,zR⟩:=lr x hx b aJ;rcases q7 pc bg b hb with hi|⟨n,gr,m,sz,xs,hn,e2,e4⟩
   ·rcases vO with⟨aT,rfl⟩|hF
    ·exact(H.own n' (by rw[nJ];simp) aT).1 hi
    ·rcases zR with zR|rfl
     ·exact zR b hF
     ·exact((H.row n' bn .live aH ar nJ).mode.1 b hF).1 hi
   ·have aF:n≠n':=fun e=>hn (e▸FC);exact H.FQ aF e2 nJ zR e4 vO
  ·rw[uB] at hx;obtain⟨n',bn,m',aH,ar,FC,nJ,PL,vO,zR⟩:=lr x hx p.b hb;obtain⟨n,cs,hn,hl,oO⟩:=wv p hp hk;rw[oO] at vO;have bK:σ.h n≠none:=by rw[hn];simp
   rcases vO with⟨aT,he⟩|hF
   ·refine H.inj n n' bK (by rw[nJ];simp) ?_ hl aT he;rintro rfl;rw[hn] at nJ;cases nJ
   ·have gf:=(H.row n' bn m' aH ar nJ).mode;cases m' with
    |aI=>exact absurd rfl PL
    |aO=>exact(H.own n bK hl).1 (gf.1 _ hF).1
    |live=>exact H.live n' bn aH ar nJ _ hF n bK hl rfl
 unfold Oper.wp;rw[bR];refine(hS pas Sz).mono fun e w' ⟨bq,p1,p2,p3,p4,p5,qs,p6,p7,p8⟩=>?_;subst p2;rw[uB] at p5 p7 p8;obtain⟨t1,t2,t3,t4⟩:=ads nX uF;have ZN:∀n,n∈ns->∃(i:Nat) (it:dz×Mode) (x:Mode×PC) (q:PC),its[i]? =some it/\fl[i]? =some x/\qs[i]? =some q/\dW[i]? =some q.er/\it.1.eN=some n/\tY B E w G σ.h it.1 x.1 x.2/\tZ w' x.1 x.2 q:=by
  intro n hn;rw[<-q6,List.mem_filterMap] at hn;obtain⟨it,x9,gI⟩:=hn;obtain⟨i,hi⟩:=List.getElem?_of_mem x9;have cj:i<fl.length:=by rw[<-q5.len];exact(List.getElem?_eq_some_iff.1 hi).1
  have hx:fl[i]? =some fl[i]:=List.getElem?_eq_getElem cj;have hq:qs[i]? =some (qs[i]'(by rw[p7];exact cj)):=List.getElem?_eq_getElem _;exact⟨i,it,_,_,hi,hx,hq,by rw[<-p6,List.getElem?_map,hq];rfl,gI,(q5.at_ i it _ hi hx).2,p8 i _ _ hx hq⟩
 have alz:∀b,b<w.heap.size->(∀n,n∈ns->¬ta G n b)->w'.heap[b]? =w.heap[b]? :=by
  intro b hb cg;refine p5.block b hb ?_;rintro⟨x,hx,F0⟩;obtain⟨n,gr,m,sz,xs,e1,e2,e3,e4,e5⟩:=lr x hx b F0;exact cg n e1 e4
 have alc:∀b,b<w.heap.size->(∀x∈fl,¬aX b x.2)->w'.heap[b]? =w.heap[b]? :=fun b hb cg=>p5.block b hb (by rintro⟨x,hx,F0⟩;exact cg x hx F0);obtain⟨sO,K,fL⟩:=H.GY (G':=uA G its qs) (h':=σ2.h) (w':=w') (S:=fun n=>n∈ns) p5.size alz (fun b hb=>p5.j7 b hb) rfl (fun n hn=>by
  obtain⟨i,it,x,q,hi,hxi,nZ,iD,gI,fN,FT⟩:=ZN n hn;have cD:=fN.at_;have aaf:=t4 i it q.er hi iD;rw[ZH uF hi nZ gI];obtain⟨RY,md⟩:=it;cases RY with
  |nil sz=>cases gI
  |row n'=>
   injection gI with gI;have gI:n'=n:=gI;subst gI;obtain⟨gr,mo,sz,xs,e1,e2,e3,e4,e5⟩:=cD;obtain⟨bn,jH,mP,jp,ar,g1,g2,g3⟩:=aaf;rw[e1] at g1;injection g1 with g1;injection g1 with a1 a2 a3 a4;subst a1 a2 a3 a4;rw[e4] at FT;exact⟨gr,mo,sz,xs,ar,e1,g3,W8 H e1 e2 e3 e5.1 e5.2 FT g2⟩
  |nest n' k off=>
   injection gI with gI;have gI:n'=n:=gI;subst gI;obtain⟨gr,sz,xs,e1,e2,e3,wa⟩:=cD;obtain⟨bn,jH,mP,jp,ex,g1,g2,g3⟩:=aaf;rw[e1] at g1;injection g1 with g1;injection g1 with a1 a2 a3 a4;subst a1 a2 a3 a4;rw[e2] at FT;have hr:=H.row n' gr .live sz xs e1;have bK:σ.h n'≠none:=by rw[e1];simp
   have aam:∀b,ta G n' b->¬aX b x.2->w'.heap[b]? =w.heap[b]? :=by
    intro b hb Ap;have cj:b<w.heap.size:=by
     rcases hb with⟨aT,rfl⟩|hF
     ·exact(H.own n' bK aT).2.2
     ·exact H.oZ e1 hF
    refine alc b cj fun y hy nR=>?_;obtain⟨j,hj⟩:=List.getElem?_of_mem hy;by_cases iv:j=i
    ·subst iv;rw[hxi] at hj;injection hj with hj;subst hj;exact Ap nR
    ·obtain⟨AJ,iS,_,xZ⟩:=Lj j y hj;obtain⟨n2,C0,m2,jc,gx,f1,f2,f3,f4,f5⟩:=xZ.oK H nR;have aF:n'≠n2:=by
      rintro rfl;exact iv (LS uF iS hi f1 rfl)
     exact H.FQ aF e1 f2 f5 hb f4
   refine⟨gr,.live,sz,xs,_,e1,g3,W7 H e1 wa e3 fN.ie (fun aT=>aam _ (.inl ⟨aT,rfl⟩) fun hb=>?_) (fun k' j' c hk aF b hb=>aam b (.inr ⟨k',j',c,hk,hb⟩) fun F0=>?_) FT g2⟩
   ·exact H.live n' gr sz xs e1 _ ⟨k,off,x.2,e3,hb⟩ n' bK aT rfl
   ·exact hr.mode.2.2 _ _ _ _ _ _ b hk e3 aF hb F0) (fun n hn=>⟨t3 n (by rw[q6];exact hn),ZI (by rw[q6];exact hn)⟩)
 have HR2:HR B E w' (uA G its qs) σ2.h σ2.used []:=by rw[t2];exact sO
 have cW:vo B w' (uA G its qs) σ2.h (bq.flatMap (·.2)):=by
  refine⟨p4.ez,fun pc bg b hb=>?_,?_⟩
  ·obtain⟨n1,n2⟩:=p4.new pc bg b hb;refine⟨⟨fun hi=>?_,fun q hq km he=>?_,fun q gr mo sz xs hq cN=>?_⟩,n2,Nat.le_trans r.fr.size n1⟩
   ·have:=H.gC b hi;omega
   ·obtain⟨k0,k1,k2,_⟩:=K.name q (sO.ji q hq) hq;have:=(H.own q k0 (k1.symm.trans km)).2.2;rw[<-k2] at this;omega
   ·have aJ:=fL q b cN;have ym:=sO.ji q (by rw[hq];simp);obtain⟨k0,_⟩:=K.name q ym (by rw[hq];simp);cases hh:σ.h q with
    |none=>exact absurd hh k0
    |some blk=>
     cases blk with
     |box cs=>
      have:q∉ns:=by
       intro hm;obtain⟨i,it,x,q',hi,hxi,nZ,iD,gI,fN,FT⟩:=ZN q hm;have cD:=fN.at_;obtain⟨RY,md⟩:=it;cases RY with
       |nil sz=>cases gI
       |row n'=>
        injection gI with gI;have gI:n'=q:=gI;subst gI;obtain⟨gr,mo,sz,xs,e1,_⟩:=cD;rw[hh] at e1;cases e1
       |nest n' k off=>
        injection gI with gI;have gI:n'=q:=gI;subst gI;obtain⟨gr,sz,xs,e1,_⟩:=cD;rw[hh] at e1;cases e1
      have h3:=t3 q (by rw[q6];exact this);rw[h3,hh] at hq;cases hq
     |row bn m' aH ar=>have:=H.oZ hh aJ;omega
  ·rw[List.pairwise_iff_getElem];intro i j hi hj iv b hb;exact p4.oI i j _ _ b (by omega) (List.getElem?_eq_getElem hi) (List.getElem?_eq_getElem hj) hb
 rw[<-p1] at wc;obtain⟨G',b1,b2,b3,b4,b5,b6,b7⟩:=HR.jE HR2 wc p3 cW;have v9:Fr B E w0 w':=by
  refine⟨p5.os.trans r.fr.os,p5.tape.trans r.fr.tape,p5.output.trans r.fr.output,Nat.le_trans r.fr.size p5.size,fun b hb he=>?_,fun b hb=>?_⟩
  ·refine(p5.block b (Nat.lt_of_lt_of_le hb r.fr.size) fun hx=>?_).trans (r.fr.block b hb he);rcases rT b hx with h1|h1
   ·omega
   ·exact he h1
  ·exact(r.fr.j7 b hb).trans (p5.j7 b (Nat.lt_of_lt_of_le hb r.fr.size))
 have K2:bk w G σ.h (fun n=>σ.used n=true) w' G' gK.h:=bk.trans (fun n hn=>by rw[t2];exact hn) K b2;have r2:R B E w0 N gK a w' G':=r.step (b6.trans t1) (fun q hq=>b7 q (by rw[t2];exact hq)) K2 b1 v9;refine⟨G',r2.put (RA.lZ b3 p3 b4) ?_ hN⟩;intro q hq;match ls,hq with
 |[],hq=>obtain⟨x,hx,_⟩:=hq;simp at hx
 |[(true,cs)],hq=>obtain⟨c,hc,hq⟩:=hq;exact b5 (true,cs) (by simp) c hc q hq
 |[(false,[c])],hq=>exact b5 (false,[c]) (by simp) c (by simp) q hq
 |[(false,[])],hq=>exact absurd hq id
 |[(false,_::_::_)],hq=>exact absurd hq id
 |x::y::ls,hq=>obtain⟨x',lS,c,hc,hq⟩:=hq;exact b5 x' lS c hc q hq
theorem XW (r:R B E w0 N σ a w G) {T:aN} {m:Mode} {f:FuncId} {as:List aj} {vals vals':List Value} {σ1:St}
  (hS:∀sig M,aN.nO T.u4 f=some (sig,M)->∀ds rs dW,M ds=some (rs,dW)->∀pas,xA w sig ds vals pas->Calls P f vals'.toArray w (OJ w sig pas rs dW)) (hN:∀n,o.dst=some n->n<N)
  (bR:(execOp a.eval o).run P w=.ok (.enter f vals'.toArray) w) (hl:vals.length=as.length)
  (nQ:∀(j:Nat) (x:aj) (v:Value),as[j]? =some x->vals[j]? =some v->RA w G σ.h x v)
  (hx:rF T m o.dst f as σ=some σ1):o.wp P a w (Nx B E w0 N σ1) Q:=by
 have H:=r.hr;unfold rF at hx;split at hx
 ·rename_i sig M cZ hM F3;split at hx
  ·rename_i fx;split at hx
   ·rename_i ds its hv;split at hx
    ·rename_i rs dW rP;split at hx
     ·rename_i σ2 nX;split at hx
      ·rename_i ls gK wc;injection hx with hx;subst hx;obtain⟨qy,FU⟩:=Sx F3 hl nQ;obtain⟨pas,q1,q2,q3,q4,q5,q6,q7⟩:=H.mN hv qy FU;exact XU r (fun S4 hm=>hS sig M hM ds rs dW rP S4 hm) hN bR q1 q2 q3 (fun p hp hk=>absurd hk (q4 p hp)) (fun i p s hp _ hk=>absurd hk (q4 p (List.mem_of_getElem? hp))) q5 q6 q7 fx nX wc
      ·cases hx
     ·cases hx
    ·cases hx
   ·cases hx
  ·cases hx
 ·cases hx
theorem aiT (r:R B E w0 N σ a w G) {T:aN} (hT:Cd P T) {m:Mode} {f:FuncId} {as:List aj} {vals:List Value} {σ1:St} (hN:∀n,o.dst=some n->n<N)
  (bR:(execOp a.eval o).run P w=.ok (.enter f vals.toArray) w) (hl:vals.length=as.length)
  (nQ:∀(j:Nat) (x:aj) (v:Value),as[j]? =some x->vals[j]? =some v->RA w G σ.h x v)
  (hx:rF T m o.dst f as σ=some σ1):o.wp P a w (Nx B E w0 N σ1) Q:=
 XW r (fun sig M hM ds rs dW h pas hm=>hT f sig M hM ds rs dW h w vals pas hm) hN bR hl nQ hx
theorem aiK (r:R B E w0 N σ a w G) {T:aN} (hT:Cd P T) {m:Mode} {f:FuncId} {xs:Array Operand} {ms:List MO} {ts:Array TypeId} {σ1:St} (hN:∀n,o.dst=some n->n<N)
  (ho:o.op=.call {callee:=.value (.func f),args:=xs,argTypes:=ts}) (hf:bP P f=true) (hm:iA xs.toList ms=true)
  (hx:rF T m o.dst f (ms.map σ.ev) σ=some σ1):o.wp P a w (Nx B E w0 N σ1) Q:=by
 obtain⟨e1,e2⟩:=r.zU hm;refine aiT r hT (vals:=xs.toList.map a.eval) hN ?_ (by simpa using e1) e2 hx;have he:(xs.toList.map a.eval).toArray=xs.map a.eval:=by apply Array.ext';simp
 rw[he];simp[execOp,ho,resolve,Deferred.ofValue,invoke,Act.eval,Bf hf]
theorem ar0 {s:List (Option Mode)} {n:Nat} (h:Tc s n=true):yW s n:=by
 rcases of_decide_eq_true h with h|⟨h1,h2⟩
 ·exact .inl h
 ·exact .inr ⟨n - 1,by omega,h2⟩
def Ih (w:World) (G:Gh) (h:Nat->Option aq) (k:K) (cs:List ah) (v:Value):Prop:=
 match k with
 |.one=>RV w G h false cs v
 |.agg=>RV w G h true cs v
 |.ptr=>∃n,h n=some (.box cs)/\(G.g n).nl=false/\v=.pointer (some (ad (G.g n).b (G.g n).o))
theorem aqL {s:List (Option Mode)} {y:aj} {x:K×List ah} {v:Value} (hx:yQ h s y=some x) (hc:RA w G h y v):Ih w G h x.1 x.2 v/\(x.1=.ptr->yW s x.2.length):=by
 have gen:∀{y:aj},RA w G h y v->(∀n k z off,y≠ .one (.ptr n k z off))->(match y.cells? with|some (ag,cs)=>some (if ag=true then K.agg else .one,cs)|none=>none)=some x->Ih w G h x.1 x.2 v/\(x.1=.ptr->yW s x.2.length):=by
  intro y hc aF hx;cases hy:y.cells? with
  |none=>rw[hy] at hx;cases hx
  |some z=>
   obtain⟨ag,cs⟩:=z;rw[hy] at hx;injection hx with hx;subst hx;cases y with
   |one c=>
    cases c<;>simp[aj.cells?] at hy<;>obtain⟨rfl,rfl⟩:=hy<;>exact⟨hc.resolve_left (by simp),by intro e;cases e⟩
   |agg cs'=>
    simp[aj.cells?] at hy;obtain⟨rfl,rfl⟩:=hy;exact⟨hc,by intro e;cases e⟩
   |bH l=>simp[aj.cells?] at hy
 by_cases hp:∃n k z off,y=.one (.ptr n k z off)
 ·obtain⟨n,k,z,off,rfl⟩:=hp;simp only[yQ] at hx;split at hx
  ·rename_i cs hn;split at hx
   ·rename_i cR;obtain⟨rfl,rfl,hs⟩:=cR;injection hx with hx;subst hx;have h1:RC w G h (.ptr n 0 z 0) v:=((hc.resolve_left (by simp)).2 0 _ v rfl rfl).2;obtain⟨q1,q2⟩:=h1 (by rw[hn];simp);exact⟨⟨n,hn,q1,by simpa using q2⟩,fun _=>ar0 hs⟩
   ·cases hx
  ·cases hx
 ·have aF:∀n k z off,y≠ .one (.ptr n k z off):=fun n k z off e=>hp ⟨n,k,z,off,e⟩;refine gen hc aF ?_;unfold yQ at hx;split at hx
  ·rename_i n k z off;exact absurd rfl (aF n k z off)
  ·exact hx
theorem acY:∀{as:List aj} {sig:aM} {cZ:List (K×List ah)} {vals:List Value},yR h sig as=some cZ->vals.length=as.length->(∀(j:Nat) (x:aj) (v:Value),as[j]? =some x->vals[j]? =some v->RA w G h x v)->
  vals.length=cZ.length/\(∀(j:Nat) (x:K×List ah) (v:Value),cZ[j]? =some x->vals[j]? =some v->Ih w G h x.1 x.2 v)/\∀(j:Nat) (x:K×List ah) (s:List (Option Mode)),cZ[j]? =some x->sig[j]? =some s->x.1=.ptr->yW s x.2.length
 |[],sig,cZ,vals,hx,hl,hc=>by
  simp only[yR] at hx;injection hx with hx;subst hx;exact⟨hl,by simp,by simp⟩
 |y::as,sig,cZ,vals,hx,hl,hc=>by
  simp only[yR] at hx;split at hx
  ·rename_i x xs e1 e2;injection hx with hx;subst hx;match vals,hl with
   |v::vals,hl=>
    obtain⟨i1,i2,i3⟩:=acY e2 (vals:=vals) (by simpa using hl) (fun j x v h1 h2=>hc (j+1) x v h1 h2);obtain⟨p1,p2⟩:=aqL e1 (hc 0 y v rfl rfl);refine⟨by simp[i1],fun j x' v' hj hv=>?_,fun j x' s hj hs=>?_⟩
    ·cases j with
     |zero=>simp at hj hv;subst hj hv;exact p1
     |succ j=>exact i2 j x' v' (by simpa using hj) (by simpa using hv)
    ·cases sig with
     |nil=>simp at hs
     |cons s0 sig=>
      cases j with
      |zero=>simp at hj hs;subst hj hs;exact p2
      |succ j=>exact i3 j x' s (by simpa using hj) (show sig[j]? =some s by simpa using hs)
  ·cases hx
theorem HR.su (H:HR B E w G h used []) {ns:List Nat}:∀{as:List (K×List ah)} {sig:aM} {ds:List Dv} {its:List (dz×Mode)} {vals:List Value},Am.su h (dH h ns) sig as=some (ds,its)->vals.length=as.length->
  (∀(j:Nat) (x:K×List ah) (v:Value),as[j]? =some x->vals[j]? =some v->Ih w G h x.1 x.2 v)->
  ∃pas:List PA,pas.length=ds.length/\vals.length=ds.length/\(∀(i:Nat) (d:Dv) (v:Value) (p:PA),ds[i]? =some d->vals[i]? =some v->pas[i]? =some p->vj w d v p)/\
   (∀p∈pas,p.k=.ptr->∃n cs,h n=some (.box cs)/\(G.g n).nl=false/\p.b=(G.g n).b)/\
   (∀(i:Nat) (p:PA),pas[i]? =some p->∃x,as[i]? =some x/\p.k=x.1/\p.ps.length=x.2.length)/\
   kz B E w G h its (eZ sig (pas.map (·.ps)))/\its.filterMap (·.1.eN)=yV sig as/\∀pc∈me sig (pas.map (·.ps)),EP G h ns pc
 |[],sig,ds,its,vals,hx,hl,hc=>by
  simp only[Am.su] at hx;injection hx with hx;injection hx with h1 h2;subst h1 h2;refine⟨[],rfl,by simpa using hl,by simp,by simp,by simp,?_,?_,?_⟩
  ·cases sig<;>exact kz.nil
  ·cases sig<;>rfl
  ·cases sig<;>simp[me]
 |(k,cs)::as,sig,ds,its,vals,hx,hl,hc=>by
  simp only[Am.su] at hx;split at hx
  ·rename_i xs GF ur GG e1 e2;injection hx with hx;injection hx with h1 h2;subst h1 h2;match vals,hl with
   |v::vals,hl=>
    have h0:=hc 0 (k,cs) v rfl rfl;obtain⟨q1,q2,q3,q4,q5,q5',q6,q7⟩:=H.su e2 (as:=as) (vals:=vals) (by simpa using hl) (fun j x v h1 h2=>hc (j+1) x v h1 h2);have db:∃(vs:List Value) (b o:Nat),dh w G h cs vs/\(∀ps:List PC,ps.map PC.val=vs->(∀pc∈ps,Good w pc)->vj w (k,ps.map PC.er) v ⟨k,ps,b,o⟩)/\
      (k=.ptr->∃n cs,h n=some (.box cs)/\(G.g n).nl=false/\b=(G.g n).b):=by
     cases k with
     |one=>exact⟨[v],0,0,h0,fun ps hp hg=>⟨rfl,hg,hp⟩,by intro e;cases e⟩
     |agg=>
      obtain⟨vs,e,hR⟩:∃vs:List Value,v=.agg vs.toArray/\dh w G h cs vs:=h0;exact⟨vs,0,0,hR,fun ps hp hg=>⟨rfl,hg,show v=.agg (ps.map PC.val).toArray by rw[hp];exact e⟩,by intro e;cases e⟩
     |ptr=>
      obtain⟨n,hn,aT,hv⟩:∃n,h n=some (.box cs)/\(G.g n).nl=false/\v=.pointer (some (ad (G.g n).b (G.g n).o)):=h0;obtain⟨b1,b2,b3⟩:=H.box n cs hn;have kk:∀j,j<cs.length->∃u,w.cell? (ad (G.g n).b ((G.g n).o+j))=some u/\∀c,cs[j]? =some c->u.oneCell'=true/\RC w G h c u:=by
       intro j hj;have dG:cs[j]? =some (cs[j]'hj):=List.getElem?_eq_getElem hj;obtain⟨u,u1,u2,u3⟩:=b3 j _ dG;refine⟨u,u1,fun c fV=>?_⟩;rw[dG] at fV;injection fV with fV;subst fV;exact⟨u2,u3⟩
      obtain⟨vs,l1,l2⟩:=PW _ cs.length kk;refine⟨vs,(G.g n).b,(G.g n).o,⟨l1,fun j c u fV hu=>(l2 j u hu).2 c fV⟩,fun ps hp hg=>⟨rfl,hg,hv,b2.lt,fun j c hj=>?_⟩,fun _=>⟨n,cs,hn,aT,rfl⟩⟩;refine(l2 j c.val ?_).1;rw[<-hp,List.getElem?_map,hj];rfl
    obtain⟨vs,b,o,hR,hA,hB⟩:=db;obtain⟨ps,p1,p2,p3,p4,p5,p6⟩:=H.jY e1 hR;have e7:ps.length=cs.length:=by
     have:(ps.map PC.val).length=cs.length:=by rw[p2];exact hR.1
     simpa using this
    refine⟨⟨k,ps,b,o⟩::q1,by simp[q2],by simp[q3],fun i d v' p hd hv hp=>?_,fun p hp hk=>?_,fun i p hp=>?_,?_,?_,?_⟩
    ·cases i with
     |zero=>
      simp at hd hv hp;subst hd hv hp;have:=hA ps p2 p3;rw[p1] at this;exact this
     |succ i=>exact q4 i d v' p (by simpa using hd) (by simpa using hv) (by simpa using hp)
    ·cases hp with
     |head=>exact hB hk
     |tail _ hp=>exact q5 p hp hk
    ·cases i with
     |zero=>simp at hp;subst hp;exact⟨(k,cs),rfl,rfl,e7⟩
     |succ i=>exact q5' i p (by simpa using hp)
    ·cases sig with
     |nil=>
      have e3:fi (aM.hd ([]:aM)) ps=[]:=rfl;rw[e3] at p4;have e4:GF=[]:=List.eq_nil_of_length_eq_zero p4.len;subst e4;have e5:eZ (aM.tl ([]:aM)) (q1.map (·.ps))=[]:=rfl;rw[e5] at q6;have e6:GG=[]:=List.eq_nil_of_length_eq_zero q6.len;subst e6;exact kz.nil
     |cons s sig=>exact kz.append p4 q6
    ·cases sig with
     |nil=>
      have e3:fi (aM.hd ([]:aM)) ps=[]:=rfl;rw[e3] at p4;have e4:GF=[]:=List.eq_nil_of_length_eq_zero p4.len;subst e4;have e5:eZ (aM.tl ([]:aM)) (q1.map (·.ps))=[]:=rfl;rw[e5] at q6;have e6:GG=[]:=List.eq_nil_of_length_eq_zero q6.len;subst e6;rfl
     |cons s sig=>
      rw[List.filterMap_append,p5,q7.1];rfl
    ·intro pc bg;cases sig with
     |nil=>
      simp only[List.map_cons,me,List.flatten_cons,List.mem_append] at bg;rcases bg with bg|bg
      ·exact p6 pc bg
      ·exact q7.2 pc (by simpa[me,aM.tl] using bg)
     |cons s sig=>
      simp only[List.map_cons,me,List.mem_append] at bg;rcases bg with bg|bg
      ·exact p6 pc bg
      ·exact q7.2 pc bg
  ·cases hx
theorem aiV (r:R B E w0 N σ a w G) {T:aN} (hT:Cd P T) {m:Mode} {f:FuncId} {as:List aj} {vals:List Value} {σ1:St} (hN:∀n,o.dst=some n->n<N)
  (bR:(execOp a.eval o).run P w=.ok (.enter f vals.toArray) w) (hl:vals.length=as.length)
  (nQ:∀(j:Nat) (x:aj) (v:Value),as[j]? =some x->vals[j]? =some v->RA w G σ.h x v)
  (hx:vM T m o.dst f as σ=some σ1):o.wp P a w (Nx B E w0 N σ1) Q:=by
 have H:=r.hr;unfold vM at hx;split at hx
 ·rename_i sig M hM;split at hx
  ·rename_i cZ F3;split at hx
   ·rename_i fx;split at hx
    ·rename_i ds its hv;split at hx
     ·rename_i rs dW rP;split at hx
      ·rename_i σ2 nX;split at hx
       ·rename_i ls gK wc;injection hx with hx;subst hx;obtain⟨qy,FU,gp⟩:=acY F3 hl nQ;obtain⟨pas,q1,q2,q3,q4,q4',q5,q6,q7⟩:=H.su hv qy FU;refine XU r (fun S4 hm=>hT f sig M hM ds rs dW rP w vals S4 hm) hN bR q1 q2 q3 q4 (fun i p s hp hs hk=>?_) q5 q6 q7 fx nX wc;obtain⟨x,hx,e1,e2⟩:=q4' i p hp;rw[e2];exact gp i x s hx hs (e1.symm.trans hk)
       ·cases hx
      ·cases hx
     ·cases hx
    ·cases hx
   ·cases hx
  ·cases hx
 ·cases hx
theorem aiL (r:R B E w0 N σ a w G) {T:aN} (hT:Cd P T) {m:Mode} {f:FuncId} {x:Operand} {mx:MO} {cK:List ah} {xs:Array Operand} {ms:List MO} {ts:Array TypeId} {σ1:St} (hN:∀n,o.dst=some n->n<N)
  (ho:o.op=.call {callee:=.value x,args:=xs,argTypes:=ts}) (hf:bP P f=true) (KX:bT x mx=true) (hm:iA xs.toList ms=true) (he:σ.ev mx=.one (.fn f cK))
  (hx:vM T m o.dst f (ms.map σ.ev++cK.map .one) σ=some σ1):o.wp P a w (Nx B E w0 N σ1) Q:=by
 obtain⟨e1,e2⟩:=r.zU hm;obtain⟨x1,x2⟩:=r.ev KX;rw[he] at x1;obtain⟨vs,v1,v2,v3⟩:=(x1.fE (by simp)).1;refine aiV r hT (vals:=xs.toList.map a.eval++vs) hN ?_ (by simp[e1,v2]) (fun j y v hj hv=>?_) hx
 ·have v5:(xs.toList.map a.eval++vs).toArray=xs.map a.eval++vs.toArray:=by apply Array.ext';simp
  rw[v5];simp[execOp,ho,resolve,v1,Deferred.ofValue,invoke,Bf hf]
 ·have FC:xs.size=ms.length:=by simpa using e1
  by_cases cj:j<ms.length
  ·rw[List.getElem?_append_left (by simpa using cj)] at hj;rw[List.getElem?_append_left (by simp;omega)] at hv;exact e2 j y v hj hv
  ·rw[List.getElem?_append_right (by simp;omega)] at hj;rw[List.getElem?_append_right (by simp;omega)] at hv;simp only[List.length_map,<-e1] at hj hv;rw[List.getElem?_map] at hj;simp only[e1] at hj hv;cases hc:cK[j - ms.length]? with
   |none=>rw[hc] at hj;cases hj
   |some c=>
    rw[hc] at hj;simp at hj;subst hj;obtain⟨q1,q2⟩:=v3 _ c v hc hv;refine RA.fz q1 ?_;by_cases ZX:c.jW=false
    ·rw[t8 _ _ _ _ _ ZX];exact q2
    ·cases c<;>first|exact q2.elim|(simp[ah.jW] at ZX)
end
section
variable {B:Nat} {E:Ex} {w0 w w':World} {G G':Gh} {h h':Nat->Option aq} {used used':Nat->Bool} {tk:List PC} {N:Nat}
variable {P:Program} {o:Oper} {a:Act} {σ σ':St} {Q:Exit->Act->World->Prop}
def wU (tmps:Array Value):ResultVar->Sem Value
 |.tmp t=>pure (tmps.getD t undef)
 |.cell a t=>do loadVar t (<-asAddr (tmps.getD a undef))
def DZ:List Value->Value
 |[u]=>u
 |l=>.tuple l.toArray
theorem Mj (fn:Func) (tmps:Array Value) {us:List Value} (h:(fn.results.toList.mapM (wU tmps)).run P w=.ok us w):
  (results fn tmps).run P w=.ok (DZ us) w:=by
 unfold results;generalize fn.results=A at h⊢;obtain⟨l,rfl⟩:∃l:List ResultVar,A=l.toArray:=⟨A.toList,by simp⟩;have h2:((l.toArray.mapM (wU tmps)).run P w)=.ok us.toArray w:=by
  rw[List.mapM_toArray];simp at h;simp[h]
 show Sem.run P (l.toArray.mapM (wU tmps)>>=fun vs=>pure (if h:vs.size=1 then vs[0] else Value.tuple vs)) w=_
 generalize l.toArray.mapM (wU tmps)=s at h2⊢;match us with
 |[]=>simp[DZ,h2]
 |[u]=>simp[DZ,h2]
 |u::v::us=>simp[DZ,h2]
end
section
variable {B:Nat} {E:Ex} {w0 w w':World} {G G':Gh} {N:Nat} {h h':Nat->Option aq} {used:Nat->Bool}
variable {P:Program} {o:Oper} {a:Act} {σ σ':St} {Q:Exit->Act->World->Prop}
theorem agP {n k aB off sz len:Nat} {x:C} (hx:cO h (.bw n k aB off sz len)=some x):∃gr xs,h n=some (.row gr .live aB xs)/\(xs[k]?).bind (·[off]?)=some x:=by
 simp only[Am.cO] at hx;split at hx
 ·rename_i gr rs xs hn;split at hx
  ·rename_i hc;subst hc;exact⟨gr,xs,hn,hx⟩
  ·cases hx
 ·cases hx
theorem HR.G0 (H:HR B E w G h used []) {n k off aB:Nat} {gr:Bool} {xs:List (List C)} (hn:h n=some (.row gr .live aB xs)) {pc:PC} (cD:At (G.g n).px k off pc):
  (G.g n).nl=false/\Good w pc/\(xs[k]?).bind (·[off]?)=some pc.er:=by
 have hr:=H.row n gr .live aB xs hn;have aT:(G.g n).nl=false:=by
  cases hq:(G.g n).nl with
  |false=>rfl
  |true=>obtain⟨e,he,_⟩:=cD;rw[(hr.nl hq).1] at he;simp at he
 refine⟨aT,(hr.eI aT).2.1.2.2 _ _ _ cD,?_⟩;obtain⟨e,he,hj⟩:=cD;rw[hr.er];simp[he,hj]
theorem aiZ (r:R B E w0 N σ a w G) {t e:TypeId} {i:TypeInfo} {x y:Operand} {mx my:MO} {n k aB off sz aH len:Nat} {q:Int} {ys:List (List C)} (ho:o.op=.indexAddr t x y) (hN:∀n,o.dst=some n->n<N) (fM:bT x mx=true) (gR:bT y my=true)
  (ht:P.underlying t=some (.slice e)) (hi:P.info? e=some i) (bU:i.size=sz) (hq:(σ.ev my).dV=some q) (h0:0<=q) (h1:q<(ys.length:Int))
  (hx:σ.ev mx=.one (.bw n k aB off aH len)) (hv:cO σ.h (.bw n k aB off aH len)=some (.list sz ys)):
  o.wp P a w (Nx B E w0 N (σ.put o.dst (.one (.cY n k aB off sz q.toNat)))) Q:=by
 obtain⟨x1,x2⟩:=r.ev fM;obtain⟨kk,ey⟩:=(r.ev gR).1.int hq;rw[hx] at x1 x2;obtain⟨gr,xs,hn,hb⟩:=agP hv;obtain⟨pc,p1,p2,p3⟩:=(x1.fE (by simp)).1 gr xs hn;obtain⟨g1,g2,g3⟩:=r.hr.G0 hn p1;rw[hb] at g3;injection g3 with g3;cases pc with
 |int k n=>simp[PC.er] at g3
 |bool b=>simp[PC.er] at g3
 |list s' ya c py=>
  rw[PC.d9] at g3;injection g3 with e1 e2;subst e1;have hl:ys.length=py.length:=by rw[e2];simp
  have eV:q<(py.length:Int):=by omega
  have wB:PC.val (.list sz ya c py)=.slice ya py.length c:=rfl;generalize ib:PC.list sz ya c py=p at g2;cases g2 with
  |int k n=>cases ib
  |bool b=>cases ib
  |nil _ _ _ _=>injection ib with _ _ _ e4;subst e4;simp at eV;omega
  |cons _ b oo _ _ q1 q2 q3 q4 q5 q6=>
   injection ib with f1 f2 f3 f4;subst f1 f2 f3 f4;refine jv r (v:=.pointer (some (ad b (oo+q.toNat*sz)))) ?_ ?_ (fun m hm=>x2 m hm) hN
   ·simp only[execOp,ho,<-p2,PC.val,ey];simp[Eg ht hi bU h0 eV]
   ·refine RA.fz rfl fun bn ar bu=>?_;exact⟨_,b,oo,py.length,c,p1,rfl,rfl,rfl⟩
theorem Xx:∀{vs:List ah} {cs:List C} {us:List Value},mB vs=some cs->dh w G h vs us->∃pe:List PC,pe.map PC.er=cs/\pe.map PC.val=us/\pe.length=vs.length/\∀c∈pe,c.er.fh=true
 |[],cs,us,hx,hr=>by
  simp only[mB] at hx;injection hx with hx;subst hx;have:us=[]:=List.eq_nil_of_length_eq_zero hr.1;subst this;exact⟨[],rfl,rfl,rfl,by simp⟩
 |c::vs,cs,us,hx,hr=>by
  match us,hr with
  |[],hr=>exact absurd hr.1 (by simp)
  |u::us,hr=>
  cases c with
  |c x=>
   simp only[mB] at hx;split at hx
   ·rename_i hs;cases hd:mB vs with
    |none=>rw[hd] at hx;cases hx
    |some l=>
     rw[hd] at hx;injection hx with hx;subst hx;obtain⟨pe,e1,e2,e3,e4⟩:=Xx (us:=us) hd ⟨by have:=hr.1;simpa using this,fun j c u hj hu=>hr.2 (j+1) c u (by simpa using hj) (by simpa using hu)⟩;obtain⟨_,pc,q1,q2,_⟩:=hr.2 0 _ u rfl rfl;refine⟨pc::pe,by simp[e1,q1],by simp[e2,q2],by simp[e3],fun c hc=>?_⟩;rcases List.mem_cons.1 hc with rfl|hc
     ·rw[q1];exact hs
     ·exact e4 c hc
   ·cases hx
  |nil _=>simp[mB] at hx
  |ptr _ _ _ _=>simp[mB] at hx
  |de _ _=>simp[mB] at hx
  |cE _ _ _ _ _ _=>simp[mB] at hx
  |sl _ _ _ _=>simp[mB] at hx
  |bw _ _ _ _ _ _=>simp[mB] at hx
  |cY _ _ _ _ _ _=>simp[mB] at hx
  |fn _ _=>simp[mB] at hx
  |bm=>simp[mB] at hx
theorem Good.g9 {c:PC} (hs:c.er.fh=true):Good w c:=by
 cases c with
 |int k n=>exact .int k n
 |bool b=>exact .bool b
 |list s a cap xs=>rw[PC.d9] at hs;cases hs
theorem ajc (r:R B E w0 N σ a w G) {t:TypeId} {i:TypeInfo} {x y:Operand} {mx my:MO} {sz n k rs off s j:Nat} {ag gr:Bool} {xs ar:List (List C)} {vs:List ah} (ho:o.op=.store t x y) (hd:o.dst=none) (fM:bT x mx=true) (gR:bT y my=true)
  (hi:P.info? t=some i) (bU:i.size=sz) (fO:0<sz) (hp:σ.ev mx=.one (.cY n k rs off s j)) (hv:(σ.ev my).cells?=some (ag,vs)) (hl:vs.length=sz) (hn:σ.h n=some (.row gr .live rs xs)) (wa:gr=false)
  (hx:w6 xs k off s j vs=some ar):o.wp P a w (Nx B E w0 N (σ.eD n (.row gr .live rs ar))) Q:=by
 have H:=r.hr;obtain⟨x1,_⟩:=r.ev fM;obtain⟨y1,y2⟩:=r.ev gR;rw[hp] at x1;obtain⟨pc,b,oo,len,cap,p1,p2,p3,p4⟩:=(x1.fE (by simp)).1 gr xs hn;obtain⟨aT,g2,g3⟩:=H.G0 hn p1;have hr:=H.row n gr .live rs xs hn;unfold w6 at hx;rw[g3] at hx;have cv:=y1.cells hv;have Gq:(a.eval y).cells.toList.length=sz:=by rw[cv.1,hl]
 cases pc with
 |int kk nn=>simp[PC.er] at hx
 |bool bb=>simp[PC.er] at hx
 |list s' ya c py=>
 rw[PC.d9] at hx;simp only at hx;split at hx
 ·rename_i cR;obtain⟨rfl,iW,hj,iV⟩:=cR;cases QI:mB vs with
  |none=>rw[QI] at hx;cases hx
  |some cs=>
  rw[QI] at hx;injection hx with hx;obtain⟨pe,e1,e2,e3,e4⟩:=Xx QI cv;have hj:j<py.length:=by simpa using hj
  have wq:pe.length=s':=by omega
  have Av:PC.val (.list s' ya c py)=.slice ya py.length c:=rfl;rw[Av] at p2;injection p2 with f1 f2 f3;subst f1 f2 f3;generalize ib:PC.list s' (some (ad b oo)) c py=p at g2;cases g2 with
  |int k n=>cases ib
  |bool b=>cases ib
  |nil _ _ _ _=>injection ib with _ _ _ e4;subst e4;simp at hj
  |cons _ b' SU _ _ q1 q2 q3 q4 q5 q6=>
  injection ib with f1 f2 f3 f4;injection f2 with f2;obtain⟨rfl,rfl⟩:=lf f2;subst f1 f3 f4;have cW:aX b (PC.list s' (some (ad b oo)) c py):=.here _ _ _ _ q1;have hF:bf b (G.g n).px:=⟨k,off,_,p1,cW⟩;obtain⟨auu,⟨cur,et,hg⟩,hBE⟩:=hr.mode.1 b hF;have gA:oo+j*s'+(a.eval y).cells.toList.length<=cur.size:=by
   have h2:(py[j]'hj).length=s':=q4 _ (List.getElem_mem hj);have hc:=q5 j (s' - 1) ((py[j]'hj)[s' - 1]'(by omega)) ⟨_,List.getElem?_eq_getElem hj,List.getElem?_eq_getElem _⟩;have:=Cy hg hc;omega
  have iE:∀k' j' c',At (py.set j pe) k' j' c'->c'.er.fh=true:=by
   intro k' j' c' h;rcases JK hj h with⟨rfl,h1⟩|⟨_,h1⟩
   ·exact e4 c' (List.mem_of_getElem? h1)
   ·obtain⟨e,he,ng⟩:=h1;have h6:=List.all_eq_true.1 iV (e.map PC.er) (by simp only[List.mem_map];exact⟨e,List.mem_of_getElem? he,rfl⟩);exact List.all_eq_true.1 h6 c'.er (by simp only[List.mem_map];exact⟨c',List.mem_of_getElem? ng,rfl⟩)
  have aF:py.set j pe≠[]:=by
   intro h;have:=congrArg List.length h;simp at this;rw[this] at hj;simp at hj
  have lm:∀e∈py.set j pe,e.length=s':=by
   intro e he;rcases List.mem_or_eq_of_mem_set he with he|rfl
   ·exact q4 e he
   ·exact wq
  generalize n5:gE w b (oo+j*s') (a.eval y).cells.toList cur=w';have A:tZ w' .aO (PC.list s' (some (ad b oo)) c py) (PC.list s' (some (ad b oo)) c (py.set j pe)):=by
   refine⟨by simp[PC.val],.cons _ _ _ _ _ aF (by simpa using q2) q3 lm (fun k' j' c' h=>?_) (fun k' j' c' h=>Good.g9 (iE k' j' c' h)),.list _ _ _ _ (fun k' j' c' h=>(Sep.g9 (iE k' j' c' h)).1) (fun b' o' k' j' c' _ h=>(Sep.g9 (iE k' j' c' h)).2 b')
    (fun k1 j1 c1 k2 j2 c2 b' h _ _ hb=>absurd hb ((Sep.g9 (iE k1 j1 c1 h)).2 b')),fun b' aJ=>?_,?_,fun sH a0 xI jp tJ a1 Cw sL h1 h2=>?_⟩
   ·have kF:j'<s':=by
     obtain⟨e,he,ng⟩:=h;have:=lm e (List.mem_of_getElem? he);have:=(List.getElem?_eq_some_iff.1 ng).1;omega
    rw[<-n5,zk hg gA];rcases JK hj h with⟨rfl,h1⟩|⟨yf,h1⟩
    ·rw[if_pos (by omega),show oo+k'*s'+j' - (oo+k'*s')=j' by omega,<-e2,List.getElem?_map,h1];rfl
    ·rw[if_neg]
     ·exact q5 _ _ _ h1
     ·rintro⟨u1,u2⟩;rcases Nat.lt_or_gt_of_ne yf with cj|Af
      ·have:(k'+1)*s'<=j*s':=Nat.mul_le_mul_right _ cj;rw[Nat.add_mul] at this;omega
      ·have:(j+1)*s'<=k'*s':=Nat.mul_le_mul_right _ Af;rw[Nat.add_mul] at this;omega
   ·rw[aX.kN] at aJ⊢;rcases aJ with⟨_,h2⟩|⟨k',j',c',h1,h2⟩
    ·exact .inl ⟨q1,h2⟩
    ·exact absurd h2 ((Sep.g9 (iE k' j' c' h1)).2 b')
   ·rw[PC.d9];show eO _=true;rw[eO,List.all_eq_true];intro e he;obtain⟨e0,lg,rfl⟩:=List.mem_map.1 he;rw[fF,List.all_eq_true];intro c0 dG;obtain⟨c1,nc,rfl⟩:=List.mem_map.1 dG;obtain⟨k',bJ⟩:=List.getElem?_of_mem lg;obtain⟨j',ng⟩:=List.getElem?_of_mem nc;exact iE k' j' c1 ⟨e0,bJ,ng⟩
   ·injection h1 with a1 a2 a3 a4;injection h2 with b1 b2 b3 b4;subst a1 a2 a3 a4 b1 b2 b3 b4;exact⟨rfl,rfl,rfl,by simp,fun h=>by cases h⟩
  have dH:∀b',b'≠b->w'.heap[b']? =w.heap[b']? :=fun b' aJ=>by rw[<-n5];exact zl b' aJ
  have jA:∀b',Cz w w' b':=fun b'=>by
   by_cases hb:b'=b
   ·subst hb;rw[<-n5];exact BB hg gA
   ·exact Cz.of_eq (dH b' hb)
  have mH:w.heap.size<=w'.heap.size:=by rw[<-n5,rk];exact Nat.le_refl _
  have bK:σ.h n≠none:=by rw[hn];simp
  have QA:(G.g n).b≠b:=fun h=>H.live n gr rs xs hn b hF n bK aT h.symm;obtain⟨ex,rT⟩:∃ex,xs[k]? =some ex:=by
   cases h:xs[k]? with
   |none=>rw[h] at g3;cases g3
   |some ex=>exact⟨ex,rfl⟩
  have alA:ar=xs.set k (ex.set off (PC.list s' (some (ad b oo)) c (py.set j pe)).er):=by
   rw[<-hx,PC.d9,List.map_set,e1,List.getD_eq_getElem?_getD,rT];rfl
  have F4:=W7 H hn wa p1 rfl (fun _=>dH _ QA) (fun k' j' c' h1 h2 b' aJ=>dH b' (by rintro rfl;exact hr.mode.2.2 _ _ _ _ _ _ b' h1 p1 h2 aJ cW)) A rT;obtain⟨sO,K,_⟩:=H.GY (G':=⟨G.Im,ax G.g n (yN (G.g n) (.nest n k off) (PC.list s' (some (ad b oo)) c (py.set j pe)))⟩) (h':=ax σ.h n (some (.row gr .live rs ar))) (w':=w') (S:=fun m=>m=n) mH
   (fun b' aJ cg=>dH b' (by rintro rfl;exact cg n rfl (.inr hF))) (fun b' _=>jA b') rfl
   (fun m hm=>by subst hm;exact⟨gr,.live,rs,xs,ar,hn,bO _ _ _,by simp only[bO];rw[alA];exact F4⟩)
   (fun m hm=>⟨cJ _ _ _ _ hm,cJ _ _ _ _ hm⟩)
  have r':=r.step (σ':=σ.eD n (.row gr .live rs ar)) rfl (fun _ h=>h) K sO (r.fr.one hBE (fun b' _ aF=>dH b' aF) mH (jA b) (by rw[<-n5];rfl) (by rw[<-n5];rfl) (by rw[<-n5];rfl));have bR:=Mk (P:=P) (w:=w) (t:=t) (i:=i) (b:=b) (off:=oo+j*s') (v:=a.eval y) (cur:=cur) (e:=et) hi (by rw[bU,<-Gq];simp) hg (by simpa using gA) (fun u hu=>by
   obtain⟨j,hj,Gc⟩:=List.getElem_of_mem hu;have Aj:j<vs.length:=by omega
   exact(cv.2 j _ u (List.getElem?_eq_getElem Aj) (by rw[List.getElem?_eq_getElem hj,Gc])).1)
  refine Np (w':=w') ?_ ⟨_,by rw[hd];exact r'⟩;rw[<-n5];simp only[execOp,ho,p4];simp[Instr.storeAt,Instr.sureAddr,bR]
 ·cases hx
end
section
variable {B:Nat} {E:Ex} {w0 w w':World} {G G':Gh} {N:Nat} {h h':Nat->Option aq} {used:Nat->Bool}
variable {P:Program} {o:Oper} {a:Act} {σ σ':St} {Q:Exit->Act->World->Prop}
theorem R.aks (r:R B E w0 N σ a w G) {n:Nat} {gr:Bool} {m:Mode} {xs:List (List C)} (hn:σ.h n=some (.row gr m 1 xs)) (hm:m≠ .aI) (hs:eO xs=true) (aT:(G.g n).nl=false) {lo:Nat} {pe:List PC}
  (nf:∀c∈pe,c.er.fh=true) (gA:lo+pe.length<=xs.length) {cur:Array Value} {et:TypeId} (hg:w.heap[(G.g n).b]? =some (.cells cur et (0,0))) (pB:(G.g n).o+lo+pe.length<=cur.size):
  ∃G',R B E w0 N (σ.eD n (.row gr m 1 (dn xs lo (pe.map fun c=>[c.er])))) a (gE w (G.g n).b ((G.g n).o+lo) (pe.map PC.val) cur) G':=by
 have H:=r.hr;have hr:=H.row n gr m 1 xs hn;have bK:σ.h n≠none:=by rw[hn];simp
 obtain⟨rZ,qB,tj⟩:=H.own n bK aT;obtain⟨l1,l2,l3⟩:=hr.eI aT;have qH:xs.length=(G.g n).px.length:=by rw[hr.er,List.length_map]
 have jU:=hs;rw[hr.er] at jU;have gG:=hr.er;generalize fC:(G.g n).px=px at*
 have QL:lo+(pe.map fun c=>[c]).length<=px.length:=by rw[List.length_map];omega
 have kH:(pe.map PC.val).length=pe.length:=List.length_map _;have ZZ:(G.g n).o+lo+(pe.map PC.val).length<=cur.size:=by rw[kH];exact pB
 have db:∀k j c,At (dn px lo (pe.map fun c=>[c])) k j c->j=0/\((lo<=k/\k<lo+pe.length/\pe[k - lo]? =some c)\/(¬(lo<=k/\k<lo+pe.length)/\At px k j c)):=by
  rintro k j c ⟨e,he,hj⟩;rw[zb QL,List.length_map] at he;by_cases cW:lo<=k/\k<lo+pe.length
  ·rw[if_pos cW,List.getElem?_map] at he;cases hp:pe[k - lo]? with
   |none=>rw[hp] at he;cases he
   |some c0=>
    rw[hp] at he;injection he with he;subst he;cases j with
    |zero=>simp at hj;subst hj;exact⟨rfl,.inl ⟨cW.1,cW.2,rfl⟩⟩
    |succ j=>simp at hj
  ·rw[if_neg cW] at he;have lm:=l2.1 e (List.mem_of_getElem? he);have:=(List.getElem?_eq_some_iff.1 hj).1;exact⟨by omega,.inr ⟨cW,e,he,hj⟩⟩
 have iE:∀k j c,At (dn px lo (pe.map fun c=>[c])) k j c->c.er.fh=true:=by
  intro k j c hk;rcases(db k j c hk).2 with⟨_,_,h1⟩|⟨_,e,he,hj⟩
  ·exact nf c (List.mem_of_getElem? h1)
  ·have h6:=List.all_eq_true.1 jU (e.map PC.er) (by simp only[List.mem_map];exact⟨e,List.mem_of_getElem? he,rfl⟩);exact List.all_eq_true.1 h6 c.er (by simp only[List.mem_map];exact⟨c,List.mem_of_getElem? hj,rfl⟩)
 generalize n5:gE w (G.g n).b ((G.g n).o+lo) (pe.map PC.val) cur=w';have dH:∀b',b'≠(G.g n).b->w'.heap[b']? =w.heap[b']? :=fun b' aJ=>by rw[<-n5];exact zl b' aJ
 have jA:∀b',Cz w w' b':=fun b'=>by
  by_cases hb:b'=(G.g n).b
  ·subst hb;rw[<-n5];exact BB hg ZZ
  ·exact Cz.of_eq (dH b' hb)
 have mH:w.heap.size<=w'.heap.size:=by rw[<-n5,rk];exact Nat.le_refl _
 have F4:EU w' (G.g n) {G.g n with px:=dn px lo (pe.map fun c=>[c])} gr m 1 (dn xs lo (pe.map fun c=>[c.er])):=by
  refine⟨hm,.inl (by rw[fC];exact Ys jU),rfl,rfl,rfl,rfl,rfl,?_,(fun h=>by rw[aT] at h;cases h),fun _=>⟨⟨fun e he=>?_,fun k j c hk=>?_,fun k j c hk=>Good.g9 (iE k j c hk)⟩,by show(dn px lo _).length<=_;rw[MF QL];exact l3⟩,
   ⟨fun k j c hk=>(Sep.g9 (iE k j c hk)).1,fun k j c k' j' c' b hk _ _ hb=>absurd hb ((Sep.g9 (iE k j c hk)).2 b)⟩,fun b ⟨k,j,c,hk,hb⟩=>absurd hb ((Sep.g9 (iE k j c hk)).2 b),fun _ k j pc hk hL=>?_,fun _ _ k c hk=>pk.g9 (iE k _ c hk)⟩
  ·show dn xs lo _=(dn px lo _).map _;rw[Eu,<-gG,List.map_map];rfl
  ·obtain⟨k,hk⟩:=List.getElem?_of_mem he;have bJ:(dn px lo (pe.map fun c=>[c]))[k]? =some e:=hk;rw[zb QL] at bJ;split at bJ
   ·rw[List.getElem?_map] at bJ;cases hp:pe[k - lo]? with
    |none=>rw[hp] at bJ;cases bJ
    |some c0=>rw[hp] at bJ;injection bJ with bJ;rw[<-bJ];rfl
   ·exact l2.1 e (List.mem_of_getElem? bJ)
  ·obtain⟨rfl,h1⟩:=db k j c hk;rw[<-n5,zk hg ZZ];rcases h1 with⟨h1,h2,h3⟩|⟨h1,h2⟩
   ·rw[if_pos (by rw[kH];omega),show(G.g n).o+k*1+0 - ((G.g n).o+lo)=k - lo by omega,List.getElem?_map,h3];rfl
   ·rw[if_neg (by rw[kH];omega)];exact l2.2.1 _ _ _ h2
  ·rw[fC] at hk;have:=Yt jU hk;rw[hL] at this;cases this
 obtain⟨sO,K,_⟩:=H.GY (G':=⟨G.Im,ax G.g n {G.g n with px:=dn px lo (pe.map fun c=>[c])}⟩) (h':=ax σ.h n (some (.row gr m 1 (dn xs lo (pe.map fun c=>[c.er]))))) (w':=w') (S:=fun q=>q=n) mH
  (fun b' aJ cg=>dH b' (by rintro rfl;exact cg n rfl (.inl ⟨aT,rfl⟩))) (fun b' _=>jA b') rfl
  (fun q hq=>by subst hq;exact⟨gr,m,1,xs,_,hn,bO _ _ _,by simp only[bO];exact F4⟩)
  (fun q hq=>⟨cJ _ _ _ _ hq,cJ _ _ _ _ hq⟩)
 exact⟨_,r.step (σ':=σ.eD n (.row gr m 1 (dn xs lo (pe.map fun c=>[c.er])))) rfl (fun _ h=>h) K sO (r.fr.one qB (fun b' _ aF=>dH b' aF) mH (jA _) (by rw[<-n5];rfl) (by rw[<-n5];rfl) (by rw[<-n5];rfl))⟩
end
section
variable {B:Nat} {E:Ex} {w0 w w':World} {G G':Gh} {N:Nat} {h h':Nat->Option aq} {used:Nat->Bool}
variable {P:Program} {o:Oper} {a:Act} {σ σ':St} {Q:Exit->Act->World->Prop}
theorem as1 {n:Nat} {b:aq} (hn:σ.h n=some b):σ.eD n b=σ:=by
 unfold St.eD;rw[<-hn,HZ]
theorem atn {α:Type} (xs:List α) (lo:Nat) (h:lo<=xs.length):dn xs lo []=xs:=by simp[dn]
theorem auo (z0:Value) (n:Nat):(Builtin.zeroCells #[z0] n).toList=List.replicate n z0:=by
 unfold Builtin.zeroCells;simp;rw[List.eq_replicate_iff];refine⟨by simp,fun b hb=>?_⟩;obtain⟨i,_,rfl⟩:=List.mem_map.1 hb;simp[Nat.mod_one]
theorem asG {t ty e:TypeId} (ht:P.underlying t=some (.slice e)) (ya:Option Addr) (c:Nat):
  (Builtin.clear_ #[t] ty #[.slice ya 0 c]).run P w=.ok (.tuple #[]) w:=by
 cases ya<;>simp[Builtin.clear_,run_underlying ht]
theorem asF {t ty e e':TypeId} {i:TypeInfo} {z z0:Value} (ht:P.underlying t=some (.slice e)) (hi:P.info? e=some i) (hz:i.zero=some z) (wE:z.cells=#[z0]) (h1:z0.oneCell'=true) (g og n c:Nat) (hn:0<n) (cur:Array Value) (hg:w.heap[g]? =some (.cells cur e' (0,0)))
  (gA:og+n<=cur.size):(Builtin.clear_ #[t] ty #[.slice (some (ad g og)) n c]).run P w=.ok (.tuple #[]) (gE w g og (List.replicate n z0) cur):=by
 have r8:=run_storeCells_at P g og e' (List.replicate n z0) 0 cur w hg (by simpa using gA) (fun v hv=>by rw[(List.mem_replicate.1 hv).2];exact h1);simp only[Nat.add_zero] at r8;obtain⟨n,rfl⟩:∃k,n=k+1:=⟨n - 1,by omega⟩;simp[Builtin.clear_,run_underlying ht,typeInfo,zeroValue,hi,hz,wE,auo,ad,r8,gE]
theorem aiO (r:R B E w0 N σ a w G) {t e:TypeId} {i:TypeInfo} {z:Value} {x:Operand} {mx:MO} {n lo len:Nat} {zc:C} {xs:List (List C)} {gr:Bool} {m:Mode} (ho:o.op=.call {callee:=.builtin .clear,args:=#[x],argTypes:=#[t]}) (hN:∀n,o.dst=some n->n<N)
  (fM:bT x mx=true) (ht:P.underlying t=some (.slice e)) (hi:P.info? e=some i) (hz:i.zero=some z) (hc:vH z.cells.toList [zc]=true) (wF:zc.fh=true) (hx:σ.ev mx=.one (.sl n 1 lo len)) (hn:σ.h n=some (.row gr m 1 xs))
  (hm:m≠ .aI) (hs:eO xs=true) (gA:lo+len<=xs.length):
  o.wp P a w (Nx B E w0 N ((σ.eD n (.row gr m 1 (dn xs lo (List.replicate len [zc])))).put o.dst (.bH []))) Q:=by
 have H:=r.hr;obtain⟨x1,_⟩:=r.ev fM;rw[hx] at x1;have iF:gM (G.g n) 1 lo len (a.eval x):=(x1.fE (by simp)).1 (by rw[hn];simp);have hr:=H.row n gr m 1 xs hn;obtain⟨b1,b2,b3⟩:=Pv (w:=w) hc;have z9:∀w G' h',RA w G' h' (.bH []) (.tuple #[]):=fun w G' h'=>⟨[],rfl,rfl,by simp⟩;have wE:z.cells=#[(mU zc).val]:=by
  apply Array.ext';rw[<-b2];rfl
 rcases Nat.eq_zero_or_pos len with rfl|hlen
 ·have QJ:∃V3 c,a.eval x=.slice V3 0 c:=by
   rcases iF with⟨aT,hv,_,_⟩|⟨aT,a',hv,_,_⟩
   ·exact⟨_,_,hv⟩
   ·exact⟨_,_,hv⟩
  obtain⟨V3,c,QJ⟩:=QJ;rw[show dn xs lo (List.replicate 0 [zc])=xs from atn _ _ (by omega),as1 hn]
  refine jv r (v:=.tuple #[]) ?_ (z9 _ _ _) (fun q hq=>?_) hN
  ·simp only[execOp,ho];simp[resolve,invoke,builtin,QJ,asG ht]
  ·obtain⟨x,hx,_⟩:=hq;simp at hx
 ·rcases iF with⟨_,_,_,rfl⟩|⟨aT,a',lA,gF,ha⟩
  ·omega
  have rQ:=ha (.inl (by omega));subst rQ;obtain⟨⟨cur,et,hg⟩,l2,l3⟩:=hr.eI aT;have qH:xs.length=(G.g n).px.length:=by rw[hr.er,List.length_map]
  have pB:(G.g n).o+lo+len<=cur.size:=by
   have h1:lo+len - 1<(G.g n).px.length:=by omega
   have h2:((G.g n).px[lo+len - 1]'h1).length=1:=l2.1 _ (List.getElem_mem h1);have hc:=l2.2.1 (lo+len - 1) 0 (((G.g n).px[lo+len - 1]'h1)[0]'(by omega)) ⟨_,List.getElem?_eq_getElem h1,List.getElem?_eq_getElem _⟩;have:=Cy hg hc;omega
  have gG:(mU zc).er=zc:=by simpa using b1
  obtain⟨G',r'⟩:=r.aks hn hm hs aT (lo:=lo) (pe:=List.replicate len (mU zc)) (fun c hc=>by rw[(List.mem_replicate.1 hc).2,gG];exact wF) (by rw[List.length_replicate];exact gA) hg (by rw[List.length_replicate];exact pB);rw[List.map_replicate,List.map_replicate,gG] at r';have bR:=asF (P:=P) (w:=w) (ty:=o.type) ht hi hz wE (PC.kc _) (G.g n).b ((G.g n).o+lo) len ((G.g n).cap - lo) hlen cur hg pB;refine pj (w':=gE w (G.g n).b ((G.g n).o+lo) (List.replicate len (mU zc).val) cur) (v:=.tuple #[]) ?_ ⟨G',r'.put (z9 _ _ _) (fun q hq=>by obtain⟨x,hx,_⟩:=hq;simp at hx) hN⟩;rw[Nat.mul_one] at lA;simp only[execOp,ho];simp[resolve,invoke,builtin,lA,bR]
end
structure OO (w:World) (ds:List Dv) (vals:List Value) (pas:List PA):Prop where
 l1:vals.length=ds.length
 l2:pas.length=ds.length
 at_:∀(i:Nat) (d:Dv) (v:Value) (p:PA),ds[i]? =some d->vals[i]? =some v->pas[i]? =some p->vj w d v p
 j7:∀p∈pas,p.k=.ptr->dZ w p.b/\∀q∈pas,∀pc∈q.ps,¬aX p.b pc
 one:∀(i j:Nat) (p q:PA),pas[i]? =some p->pas[j]? =some q->p.k=.ptr->q.k=.ptr->i=j
def Cg (w:World) (pas:List PA) (b:Nat):Prop:=w.heap.size<=b\/∃q∈pas,∃pc∈q.ps,aX b pc
def XT (pas:List PA):Ex:=⟨fun b=>∃p∈pas,p.k=.ptr/\b=p.b,fun _=>none,fun _ _ h=>(by cases h),fun _=>True⟩
def Bc (p:PA):Value:=
 match p.k with
 |.one=>match p.ps with
  |[pc]=>pc.val
  |_=>.agg (p.ps.map PC.val).toArray
 |.agg=>.agg (p.ps.map PC.val).toArray
 |.ptr=>.pointer (some (ad p.b p.o))
def Bd:List PA->Value
 |[p]=>Bc p
 |l=>.tuple (l.map Bc).toArray
def Ic (w:World) (b o:Nat) (ps:List PC):Prop:=∀(j:Nat) (c:PC),ps[j]? =some c->w.cell? (ad b (o+j))=some c.val
structure ON (w w':World) (pas bq:List PA) (qs:List PC):Prop where
 one:∀p∈bq,p.k=.one->p.ps.length=1
 ptr:∀p∈bq,p.k=.ptr->bq.length=1/\w.heap.size<=p.b/\dZ w' p.b/\Ic w' p.b p.o p.ps/\(∀pc∈p.ps,¬aX p.b pc)/\∀pc∈qs,¬aX p.b pc
 ez:∀p∈bq,∀pc∈p.ps,Good w' pc/\∀b,aX b pc->Cg w pas b
 fr:Fr w.heap.size (XT pas) w w'
 out:∀pc∈qs,Good w' pc/\∀b,aX b pc->Cg w pas b
 at_:∀p∈pas,p.k=.ptr->Ic w' p.b p.o qs
def zD (P:Program) (f:FuncId) (M:List Dv->Option (List Dv×List C)):Prop:=
 ∀ds rs out,M ds=some (rs,out)->∀(w:World) (vals:List Value) (pas:List PA),OO w ds vals pas->Calls P f vals.toArray w fun e w'=>
  ∃(bq:List PA) (qs:List PC),bq.map (fun p=>(p.k,p.ps.map PC.er))=rs/\e=.returned (Bd bq)/\qs.map PC.er=out/\ON w w' pas bq qs
def Ce (P:Program) (T:aN):Prop:=∀f M,aN.lM T.vs f=some M->zD P f M
section
variable {B:Nat} {E:Ex} {w0 w w':World} {G G':Gh} {N:Nat} {h h':Nat->Option aq} {used used':Nat->Bool} {tk:List PC}
variable {P:Program} {o:Oper} {a:Act} {σ σ':St} {Q:Exit->Act->World->Prop}
theorem HR.pI {c:ah} {x:C} {v:Value} (hx:Am.pI c=some x) (hc:RC w G h c v):∃pc:PC,pc.er=x/\pc.val=v/\Good w pc/\∀b,aX b pc->G.Im b:=by
 cases c with
 |c y=>
  simp only[Am.pI] at hx;injection hx with hx;subst hx;exact hc
 |nil sz=>
  simp only[Am.pI] at hx;split at hx
  ·rename_i eR;injection hx with hx;subst hx;have dm:v=.slice none 0 0:=hc;subst dm;refine⟨.list sz none 0 [],by simp[PC.d9],rfl,.nil _ _ _ eR,fun b hb=>?_⟩;rw[aX.kN] at hb;rcases hb with⟨hb,_⟩|⟨k,j,c,⟨e,he,_⟩,_⟩
   ·exact absurd rfl hb
   ·simp at he
  ·cases hx
 |_=>simp[Am.pI] at hx
theorem HR.kJ:∀{cs:List ah} {xs:List C} {vs:List Value},Am.kJ cs=some xs->dh w G h cs vs->∃ps:List PC,ps.map PC.er=xs/\ps.map PC.val=vs/\∀pc∈ps,Good w pc/\∀b,aX b pc->G.Im b
 |[],xs,vs,hx,hc=>by
  simp only[Am.kJ] at hx;injection hx with hx;subst hx;have:vs=[]:=List.eq_nil_of_length_eq_zero (by simpa using hc.1);subst this;exact⟨[],rfl,rfl,by simp⟩
 |c::cs,xs,vs,hx,hc=>by
  simp only[Am.kJ] at hx;split at hx
  ·rename_i x ar e1 e2;injection hx with hx;subst hx;match vs,hc.1 with
   |v::vs,hl=>
    obtain⟨pc,a1,a2,a3,a4⟩:=HR.pI e1 (hc.2 0 c v rfl rfl).2;obtain⟨ps,b1,b2,b3⟩:=HR.kJ (vs:=vs) e2 ⟨by simpa using hl,fun j c u h1 h2=>hc.2 (j+1) c u h1 h2⟩;refine⟨pc::ps,by simp[a1,b1],by simp[a2,b2],fun q hq=>?_⟩;cases hq with
    |head=>exact⟨a3,a4⟩
    |tail _ hq=>exact b3 q hq
  ·cases hx
theorem HR.JN (H:HR B E w G h used tk) {n:Nat} {cs:List ah} (hn:h n=some (.box cs)):∃vs:List Value,dh w G h cs vs/\∀(j:Nat) (v:Value),vs[j]? =some v->w.cell? (ad (G.g n).b ((G.g n).o+j))=some v:=by
 obtain⟨_,_,a3⟩:=H.box n cs hn;have hj:∀j:Fin cs.length,∃v,w.cell? (ad (G.g n).b ((G.g n).o+j.1))=some v/\v.oneCell'=true/\RC w G h cs[j.1] v:=fun j=>a3 j.1 _ (List.getElem?_eq_getElem j.2);refine⟨List.ofFn fun j=>Classical.choose (hj j),⟨by simp,fun j c u hc hu=>?_⟩,fun j v hv=>?_⟩
 ·obtain⟨hl,e⟩:=List.getElem?_eq_some_iff.1 hc;rw[List.getElem?_ofFn,dif_pos hl] at hu;injection hu with hu;subst hu e;exact(Classical.choose_spec (hj ⟨j,hl⟩)).2
 ·by_cases hl:j<cs.length
  ·rw[List.getElem?_ofFn,dif_pos hl] at hv;injection hv with hv;subst hv;exact(Classical.choose_spec (hj ⟨j,hl⟩)).1
  ·rw[List.getElem?_eq_none (by simp;omega)] at hv;cases hv
theorem atP {σ1:St} {c:ah} {x:C} {o:Bool} (hx:σ.fR c=some (x,o,σ1)) {n:Nat} {cs:List ah} (hn:σ.h n=some (.box cs)):σ1.h n=some (.box cs):=by
 cases c with
 |c y=>simp only[St.fR] at hx;injection hx with hx;injection hx with _ hx;injection hx with _ hx;subst hx;exact hn
 |nil sz=>
  simp only[St.fR] at hx;split at hx
  ·injection hx with hx;injection hx with _ hx;injection hx with _ hx;subst hx;exact hn
  ·cases hx
 |sl q sz lo len=>
  simp only[St.fR] at hx;split at hx
  ·rename_i gr m rs xs hq;split at hx
   ·injection hx with hx;injection hx with _ hx;injection hx with _ hx;subst hx;have aF:n≠q:=by rintro rfl;rw[hq] at hn;cases hn
    show ax σ.h q none n=_;rw[cJ _ _ _ _ aF];exact hn
   ·cases hx
  ·cases hx
 |_=>simp[St.fR] at hx
theorem VQ:∀{l:List ah} {σ σ1:St} {xs:List C} {o:Bool},σ.gw l=some (xs,o,σ1)->∀{n:Nat} {cs:List ah},σ.h n=some (.box cs)->σ1.h n=some (.box cs)
 |[],σ,σ1,xs,o,hx,n,cs,hn=>by simp only[St.gw] at hx;injection hx with hx;injection hx with _ hx;injection hx with _ hx;subst hx;exact hn
 |c::l,σ,σ2,xs,o,hx,n,cs,hn=>by
  simp only[St.gw] at hx;split at hx
  ·rename_i x o1 σ1 e1;split at hx
   ·rename_i ar o2 V4 e2;injection hx with hx;injection hx with _ hx;injection hx with _ hx;subst hx;exact VQ e2 (atP e1 hn)
   ·cases hx
  ·cases hx
theorem O2:∀{as:List aj} {σ σ1:St} {ds:List Dv} {ns:List Nat},σ.iP as=some (ds,ns,σ1)->∀{n:Nat} {cs:List ah},σ.h n=some (.box cs)->σ1.h n=some (.box cs)
 |[],σ,σ1,ds,ns,hx,n,cs,hn=>by simp only[St.iP] at hx;injection hx with hx;injection hx with _ hx;injection hx with _ hx;subst hx;exact hn
 |v::as,σ,σ2,ds,ns,hx,n,cs,hn=>by
  simp only[St.iP] at hx;split at hx
  ·split at hx
   ·rename_i e;injection hx with hx;injection hx with _ hx;injection hx with _ hx;subst hx;exact O2 e hn
   ·cases hx
  ·split at hx
   ·split at hx
    ·rename_i e1;split at hx
     ·rename_i e2;injection hx with hx;injection hx with _ hx;injection hx with _ hx;subst hx;exact O2 e2 (VQ e1 hn)
     ·cases hx
    ·cases hx
   ·cases hx
def m6 (pas:List PA):List PA:=pas.filter fun p=>decide (p.k=.ptr)
def V7 (G:Gh) (h:Nat->Option aq) (p:PA) (n:Nat):Prop:=∃cs,h n=some (.box cs)/\p.b=(G.g n).b/\p.o=(G.g n).o/\p.ps.length=cs.length
theorem O5 {v:aj} {n:Nat} {xs:List C} (hx:mY h v=some (n,xs)):∃sz cs,v=.one (.ptr n 0 sz 0)/\h n=some (.box cs)/\kJ cs=some xs:=by
 unfold mY at hx;split at hx
 ·rename_i q k sz off;split at hx
  ·rename_i hc;obtain⟨rfl,rfl⟩:=hc;split at hx
   ·rename_i cs hq;split at hx
    ·rename_i ys e;injection hx with hx;injection hx with h1 h2;subst h1 h2;exact⟨sz,cs,rfl,hq,e⟩
    ·cases hx
   ·cases hx
  ·cases hx
 ·cases hx
theorem HR.iP:∀{as:List aj} {vals:List Value} {σ σ1:St} {G:Gh} {ds:List Dv} {ns:List Nat},HR B E w G σ.h σ.used []->σ.iP as=some (ds,ns,σ1)->vals.length=as.length->
  (∀(j:Nat) (x:aj) (v:Value),as[j]? =some x->vals[j]? =some v->RA w G σ.h x v)->(∀x∈as,∀m,x.ref m->σ.used m=true)->
  ∃(Im':Nat->Prop) (pas:List PA),pas.length=ds.length/\vals.length=ds.length/\(∀(i:Nat) (d:Dv) (v:Value) (p:PA),ds[i]? =some d->vals[i]? =some v->pas[i]? =some p->vj w d v p)/\
   (∀p∈pas,∀pc∈p.ps,∀b,aX b pc->Im' b)/\(m6 pas).length=ns.length/\(∀(i:Nat) (p:PA) (n:Nat),(m6 pas)[i]? =some p->ns[i]? =some n->V7 G σ1.h p n)/\
   HR B E w ⟨Im',G.g⟩ σ1.h σ1.used []/\bk w G σ.h (fun n=>σ.used n=true) w ⟨Im',G.g⟩ σ1.h/\σ1.env=σ.env/\σ1.used=σ.used
 |[],vals,σ,σ1,G,ds,ns,H,hx,hl,hc,hr=>by
  simp only[St.iP] at hx;injection hx with hx;injection hx with h1 h2;injection h2 with h2 h3;subst h1 h2 h3;exact⟨G.Im,[],rfl,by simpa using hl,by simp,by simp,rfl,by simp[m6],H,bk.refl _ _ _ _,rfl,rfl⟩
 |x::as,vals,σ,σ2,G,ds,ns,H,hx,hl,hc,hr=>by
  match vals,hl with
  |v::vals,hl=>
   simp only[St.iP] at hx;split at hx
   ·rename_i n xs hp;split at hx
    ·rename_i ur lD σ1 e;injection hx with hx;injection hx with h1 h2;injection h2 with h2 h3;subst h1 h2 h3;obtain⟨sz,cs,rfl,hn,pC⟩:=O5 hp;obtain⟨nl,un,_⟩:=H.box n cs hn;obtain⟨vs,v1,v2⟩:=H.JN hn;obtain⟨ps,p1,p2,p3⟩:=HR.kJ pC v1;have hv:v=.pointer (some (ad (G.g n).b (G.g n).o)):=by
      have h0:=hc 0 _ v rfl rfl;rcases h0 with h0|h0
      ·cases h0
      ·have h1:RC w G σ.h (.ptr n 0 sz 0) v:=(h0.2 0 _ v rfl rfl).2;simpa using(h1 (by rw[hn];simp)).2
     obtain⟨Im',pas,b1,b2,b3,b4,b5,b6,b7,b8,b9,oE⟩:=HR.iP (as:=as) (vals:=vals) H e (by simpa using hl) (fun j x v h1 h2=>hc (j+1) x v h1 h2) (fun x hx=>hr x (by simp[hx]));have hk:(Am.K.ptr=Am.K.ptr)=True:=by simp
     refine⟨Im',⟨.ptr,ps,(G.g n).b,(G.g n).o⟩::pas,by simp[b1],by simp[b2],fun i d u p hd hu fY=>?_,fun p fY pc bg b hb=>?_,by simp[m6];exact b5,fun i p m hi hm=>?_,b7,b8,b9,oE⟩
     ·cases i with
      |zero=>
       simp at hd hu fY;subst hd hu fY;refine⟨by rw[p1],fun pc bg=>(p3 pc bg).1,hv,un.lt,fun j c hj=>v2 j _ ?_⟩;rw[<-p2,List.getElem?_map,hj];rfl
      |succ i=>exact b3 i d u p (by simpa using hd) (by simpa using hu) (by simpa using fY)
     ·cases fY with
      |head=>exact b8.im b ((p3 pc bg).2 b hb)
      |tail _ fY=>exact b4 p fY pc bg b hb
     ·cases i with
      |zero=>
       simp[m6] at hi hm;subst hi hm;refine⟨cs,O2 e hn,rfl,rfl,?_⟩;have h1:ps.length=vs.length:=by rw[<-p2];simp
       exact h1.trans v1.1
      |succ i=>exact b6 i p m (by simpa[m6] using hi) (by simpa using hm)
    ·cases hx
   ·split at hx
    ·rename_i ag cs fc;split at hx
     ·rename_i xs o σ1 e1;split at hx
      ·rename_i ur lD V4 e2;injection hx with hx;injection hx with h1 h2;injection h2 with h2 h3;subst h1 h2 h3;have h0:=hc 0 x v rfl rfl;have pE:∃vs:List Value,(if ag=true then v=.agg vs.toArray else vs=[v])/\dh w G σ.h cs vs:=by
        cases x with
        |one c=>
         have QE:ag=false/\cs=[c]:=by cases c<;>simp[aj.cells?] at fc<;>exact⟨fc.1,fc.2.symm⟩
         obtain⟨rfl,rfl⟩:=QE;rcases h0 with h0|h0
         ·subst h0;simp[aj.cells?] at fc
         ·exact⟨[v],rfl,h0⟩
        |agg cs'=>
         simp[aj.cells?] at fc;obtain⟨rfl,rfl⟩:=fc;obtain⟨vs,e,h1⟩:∃vs:List Value,v=.agg vs.toArray/\dh w G σ.h cs' vs:=h0;exact⟨vs,e,h1⟩
        |bH xs=>simp[aj.cells?] at fc
       obtain⟨vs,iW,cv⟩:=pE;obtain⟨zz,bx,a1,a2,a3,a5,a6,a7,a8,a9⟩:=H.gw e1 cv (fun c' dm m hm=>hr x (by simp) m (aj.xK fc dm hm));have ub:HR B E w ⟨zz,G.g⟩ σ1.h σ.used []:=by
        cases o with
        |true=>exact HR.xd (tk:=[]) (l:=bx) (by simpa using a5)
        |false=>simpa using a5
       rw[<-a8] at ub;obtain⟨EY,pas,b1,b2,b3,b4,b5,b6,b7,b8,b9,oE⟩:=HR.iP (as:=as) (vals:=vals) (G:=⟨zz,G.g⟩) ub e2 (by simpa using hl)
        (fun j x v h1 h2=>(hc (j+1) x v h1 h2).fP a6 (fun m hm=>hr x (by simp[List.mem_of_getElem? h1]) m hm)) (fun x' lS m hm=>by rw[a8];exact hr x' (by simp[lS]) m hm)
       refine⟨EY,⟨if ag=true then .agg else .one,bx,0,0⟩::pas,by simp[b1],by simp[b2],fun i d u p hd hu fY=>?_,fun p fY pc bg b hb=>?_,?_,fun i p m hi hm=>?_,b7,
        bk.trans (fun n hn=>by rw[a8];exact hn) a6 b8,b9.trans a7,oE.trans a8⟩
       ·cases i with
        |zero=>
         simp at hd hu fY;subst hd hu fY;cases ag with
         |true=>exact⟨by simp[a1],fun pc bg=>(a3 pc bg).1,by simp only[if_true] at iW⊢;rw[a2];exact iW⟩
         |false=>exact⟨by simp[a1],fun pc bg=>(a3 pc bg).1,by simp only[Bool.false_eq_true,if_false] at iW⊢;rw[a2];exact iW⟩
        |succ i=>exact b3 i d u p (by simpa using hd) (by simpa using hu) (by simpa using fY)
       ·cases fY with
        |head=>exact b8.im b ((a3 pc bg).2 b hb)
        |tail _ fY=>exact b4 p fY pc bg b hb
       ·cases ag<;>simp[m6]<;>exact b5
       ·refine b6 i p m ?_ hm;cases ag<;>simpa[m6] using hi
      ·cases hx
     ·cases hx
    ·cases hx
theorem HR.WW (H:HR B E w G h used []) {n:Nat} {cs cs':List ah} (hn:h n=some (.box cs)) (bU:w.heap.size<=w'.heap.size) (hw:∀b,b<w.heap.size->b≠(G.g n).b->w'.heap[b]? =w.heap[b]?)
  (jA:∀b,b<w.heap.size->Cz w w' b) {S:Nat->Prop} (hS:∀b,S b->w.heap.size<=b/\b<w'.heap.size/\B<=b) {ps:List PC} (gp:cs'=ps.map fun pc=>ah.c pc.er)
  (cD:∀(j:Nat) (c:PC),ps[j]? =some c->w'.cell? (ad (G.g n).b ((G.g n).o+j))=some c.val) (fW:∀pc∈ps,Good w' pc/\∀b,aX b pc->G.Im b\/S b):
  HR B E w' ⟨fun b=>G.Im b\/S b,G.g⟩ (ax h n (some (.box cs'))) used []/\bk w G h (fun n=>used n=true) w' ⟨fun b=>G.Im b\/S b,G.g⟩ (ax h n (some (.box cs'))):=by
 subst gp;have bK:h n≠none:=by rw[hn];simp
 obtain⟨aT,uI,gW⟩:=H.box n cs hn;obtain⟨rZ,qB,tj⟩:=H.own n bK aT;have yn:=H.ji n bK;have kp:∀CK:List ah,bk w G h (fun n=>used n=true) w' G (ax h n (some (.box CK))):=by
  intro CK;refine⟨fun _ h=>h,fun b hb x=>gU (hw b (H.gC b hb) (fun he=>rZ (he▸hb))) x,fun m hm h0=>?_,fun m gr sz xs hm h0=>?_⟩
  ·by_cases bF:m=n
   ·subst bF;exact⟨bK,rfl,rfl,rfl,rfl,rfl⟩
   ·rw[cJ _ _ _ _ bF] at h0;exact⟨h0,rfl,rfl,rfl,rfl,rfl⟩
  ·by_cases bF:m=n
   ·subst bF;rw[bO] at h0;cases h0
   ·rw[cJ _ _ _ _ bF] at h0;exact⟨⟨gr,xs,h0⟩,fun k j pc h1 h2=>⟨pc,h1,rfl,h2⟩⟩
 have hG:(⟨G.Im,ax G.g n (G.g n)⟩:Gh)=G:=by rw[HZ]
 have H1:HR B E w' ⟨G.Im,ax G.g n (G.g n)⟩ (ax h n (some (.box []))) used []:=by
  refine H.put (fun b hb aF=>hw b hb (aF aT)) bU (fun b hb hU=>(jA b hb).j7 hU) (fun _ h=>h) yn (fun _=>⟨rZ,qB,Nat.lt_of_lt_of_le tj bU⟩)
   (fun _ m hm h0 gY=>(H.inj m n h0 bK hm gY aT)) (fun _ m gr sz xs hm h0 b hb=>H.live m gr sz xs h0 b hb n bK aT) ?_ (by rw[hG];exact kp []) ?_
   (fun gr m sz xs hb=>by cases hb) (fun gr sz xs hb=>by cases hb) (fun gr m sz xs hb=>by cases hb) ?_
  ·intro CK c m hb hc hm;injection hb with hb;subst hb;cases hc
  ·exact⟨aT,(jA _ tj).j7 uI,fun j c hj=>by simp at hj⟩
  ·intro _ _ b hb;obtain⟨m,gr,mo,sz,xs,hm,h0,cN⟩:=hb;exact H.qp bK aT h0 cN
 rw[hG] at H1;have yk:∀m,ax h n (some (aq.box [])) m≠none->h m≠none:=fun m hm=>by
  by_cases bF:m=n
  ·subst bF;exact bK
  ·rwa[cJ _ _ _ _ bF] at hm
 have H2:HR B E w' ⟨fun b=>G.Im b\/S b,G.g⟩ (ax h n (some (.box []))) used []:=H1.uM S (fun b hb=>(hS b hb).2.1) (fun b hb q hq hl he=>by have:=(hS b hb).1;have:=(H.own q (yk q hq) hl).2.2;omega)
  (fun b hb q gr sz xs hq hF=>by
   by_cases gJ:q=n
   ·subst gJ;rw[bO] at hq;cases hq
   ·rw[cJ _ _ _ _ gJ] at hq;have:=(hS b hb).1;have:=H.oZ hq hF;omega) (fun b hb=>.inl (hS b hb).2.2)
 have hn2:ax h n (some (aq.box [])) n=some (.box []):=bO _ _ _;have Gg:ax h n (some (aq.box [])) n≠none:=by rw[hn2];simp
 have huu:ax (ax h n (some (aq.box []))) n (some (.box (ps.map fun pc=>ah.c pc.er)))=ax h n (some (.box (ps.map fun pc=>ah.c pc.er))):=by
  funext m;simp only[j8];split<;>rfl
 have ZL:(⟨fun b=>G.Im b\/S b,ax G.g n (G.g n)⟩:Gh)=⟨fun b=>G.Im b\/S b,G.g⟩:=by rw[HZ]
 have K2:bk w' ⟨fun b=>G.Im b\/S b,G.g⟩ (ax h n (some (aq.box []))) (fun n=>used n=true) w' ⟨fun b=>G.Im b\/S b,G.g⟩ (ax h n (some (.box (ps.map fun pc=>ah.c pc.er)))):=by
  refine⟨fun _ h=>h,fun _ _ _=>rfl,fun m hm h0=>?_,fun m gr sz xs hm h0=>?_⟩
  ·refine⟨?_,rfl,rfl,rfl,rfl,rfl⟩;by_cases bF:m=n
   ·subst bF;exact Gg
   ·rw[cJ _ _ _ _ bF] at h0⊢;exact h0
  ·by_cases bF:m=n
   ·subst bF;rw[bO] at h0;cases h0
   ·rw[cJ _ _ _ _ bF] at h0;exact⟨⟨gr,xs,by rw[cJ _ _ _ _ bF];exact h0⟩,fun k j pc h1 h2=>⟨pc,h1,rfl,h2⟩⟩
 have H3:HR B E w' ⟨fun b=>G.Im b\/S b,ax G.g n (G.g n)⟩ (ax (ax h n (some (aq.box []))) n (some (.box (ps.map fun pc=>ah.c pc.er)))) used []:=by
  refine H2.put (w':=w') (fun _ _ _=>rfl) (Nat.le_refl _) (fun _ _ hU=>hU) (fun _ h=>h) yn (fun _=>⟨fun hi=>(H2.own n Gg aT).1 hi,qB,Nat.lt_of_lt_of_le tj bU⟩)
   (fun _ m hm h0 gY=>H2.inj m n h0 Gg hm gY aT) (fun _ m gr sz xs hm h0 b hb=>H2.live m gr sz xs h0 b hb n Gg aT) ?_ (by rw[ZL,huu];exact K2) ?_
   (fun gr m sz xs hb=>by cases hb) (fun gr sz xs hb=>by cases hb) (fun gr m sz xs hb=>by cases hb) ?_
  ·intro CK c m hb hc hm;injection hb with hb;subst hb;obtain⟨pc,_,rfl⟩:=List.mem_map.1 hc;exact absurd hm id
  ·refine⟨aT,(jA _ tj).j7 uI,fun j c hj=>?_⟩;rw[List.getElem?_map] at hj;cases hp:ps[j]? with
   |none=>rw[hp] at hj;cases hj
   |some pc=>
    rw[hp] at hj;simp at hj;subst hj;obtain⟨g1,g2⟩:=fW pc (List.mem_of_getElem? hp);exact⟨pc.val,cD j pc hp,PC.kc pc,pc,rfl,rfl,g1,g2⟩
  ·intro _ _ b hb;obtain⟨m,gr,mo,sz,xs,hm,h0,cN⟩:=hb;exact H2.qp Gg aT h0 cN
 rw[ZL,huu] at H3;have K1:bk w G h (fun n=>used n=true) w' ⟨fun b=>G.Im b\/S b,G.g⟩ (ax h n (some (aq.box []))):=bk.trans (fun _ h=>h) (kp []) (bk.uM S _);exact⟨H3,bk.trans (fun _ h=>h) K1 K2⟩
theorem Td {σ1:St} {ns:List Nat} {out:List C} (hx:σ.sq ns out=some σ1):(ns=[]/\out=[]/\σ1=σ)\/∃n cs,ns=[n]/\σ.h n=some (.box cs)/\cs.length=out.length/\σ1=σ.eD n (.box (out.map .c)):=by
 unfold St.sq at hx;split at hx
 ·injection hx with hx;exact .inl ⟨rfl,rfl,hx.symm⟩
 ·rename_i n;split at hx
  ·rename_i cs hn;split at hx
   ·rename_i hl;injection hx with hx;exact .inr ⟨n,cs,rfl,hn,hl,hx.symm⟩
   ·cases hx
  ·cases hx
 ·cases hx
theorem Xs {pas:List PA} {p:PA} (hp:p∈pas) (hk:p.k=.ptr):p∈m6 pas:=List.mem_filter.2 ⟨hp,by simp[hk]⟩
theorem Xt:∀{pas:List PA},(m6 pas).length<=1->∀{i j:Nat} {p q:PA},pas[i]? =some p->pas[j]? =some q->p.k=.ptr->q.k=.ptr->i=j
 |[],_,i,_,_,_,hi,_,_,_=>by simp at hi
 |x::pas,hl,i,j,p,q,hi,hj,hp,hq=>by
  by_cases hx:x.k=.ptr
  ·have hz:(m6 pas).length=0:=by
    simp[m6,hx] at hl⊢;exact hl
   have cg:∀y∈pas,y.k≠ .ptr:=fun y hy hk=>by
    have:=Xs hy hk;rw[List.length_eq_zero_iff.1 hz] at this;cases this
   cases i with
   |zero=>
    cases j with
    |zero=>rfl
    |succ j=>exact absurd hq (cg q (List.mem_of_getElem? (by simpa using hj)))
   |succ i=>exact absurd hp (cg p (List.mem_of_getElem? (by simpa using hi)))
  ·have eG:(m6 pas).length<=1:=by simpa[m6,hx] using hl
   cases i with
   |zero=>simp at hi;subst hi;exact absurd hp hx
   |succ i=>
    cases j with
    |zero=>simp at hj;subst hj;exact absurd hq hx
    |succ j=>exact congrArg (·+1) (Xt eG (by simpa using hi) (by simpa using hj) hp hq)
theorem PJ:∀{bq:List PA} {ls:List (Bool×List ah)},kl (bq.map fun p=>(p.k,p.ps.map PC.er))=some ls->ls=bq.map (fun p=>(decide (p.k=.agg),p.ps.map fun pc=>ah.c pc.er))/\∀p∈bq,p.k≠ .ptr
 |[],ls,h=>by simp only[List.map_nil,kl] at h;injection h with h;exact⟨h.symm,by simp⟩
 |⟨k,ps,b,o⟩::bq,ls,h=>by
  cases k with
  |ptr=>simp[kl] at h
  |one=>
   simp only[List.map_cons,kl] at h;split at h
   ·rename_i GV e;injection h with h;obtain⟨e1,e2⟩:=PJ e;refine⟨by rw[<-h,e1,List.map_map];rfl,fun p hp=>?_⟩;cases hp with
    |head=>simp
    |tail _ hp=>exact e2 p hp
   ·cases h
  |agg=>
   simp only[List.map_cons,kl] at h;split at h
   ·rename_i GV e;injection h with h;obtain⟨e1,e2⟩:=PJ e;refine⟨by rw[<-h,e1,List.map_map];rfl,fun p hp=>?_⟩;cases hp with
    |head=>simp
    |tail _ hp=>exact e2 p hp
   ·cases h
theorem ar9 {ls:List (Bool×List ah)} {bq:List PA} (hlen:ls.length=bq.length)
  (hv:∀(j:Nat) (x:Bool×List ah) (p:PA),ls[j]? =some x->bq[j]? =some p->RV w G h x.1 x.2 (Bc p)):RA w G h (lZ ls) (Bd bq):=by
 match ls,bq,hlen with
 |[],[],_=>exact⟨[],rfl,rfl,by simp⟩
 |[(ag,cs)],[p],_=>
  have h0:=hv 0 (ag,cs) p rfl rfl;cases ag with
  |true=>exact h0
  |false=>
   have cv:dh w G h cs [Bc p]:=h0;match cs,cv.1 with
   |[c],_=>exact .inr h0
 |x::y::ls,p::q::bq,hl=>
  refine⟨(p::q::bq).map Bc,rfl,by simpa using hl.symm,fun j x' u hj hu=>?_⟩;rw[List.getElem?_map] at hu;cases hp:(p::q::bq)[j]? with
  |none=>rw[hp] at hu;cases hu
  |some p'=>rw[hp] at hu;simp at hu;subst hu;exact hv j x' p' hj hp
theorem aiS (r:R B E w0 N σ a w G) {T:aN} (hT:Ce P T) {f:FuncId} {as:List aj} {vals:List Value} {σ1:St} (hN:∀n,o.dst=some n->n<N)
  (bR:(execOp a.eval o).run P w=.ok (.enter f vals.toArray) w) (hl:vals.length=as.length)
  (nQ:∀(j:Nat) (x:aj) (v:Value),as[j]? =some x->vals[j]? =some v->RA w G σ.h x v) (Rf:∀x∈as,∀m,x.ref m->σ.used m=true)
  (hx:rE T o.dst f as σ=some σ1):o.wp P a w (Nx B E w0 N σ1) Q:=by
 unfold rE at hx;split at hx
 ·rename_i ds ns oA M hba hM;split at hx
  ·rename_i rs out rP;split at hx
   ·rename_i kf nX;obtain⟨Im',pas,b1,b2,b3,b4,b5,b6,b7,b8,b9,oE⟩:=r.hr.iP hba hl nQ Rf;have hns:ns.length<=1:=by
     rcases Td nX with⟨h1,_⟩|⟨n,cs,h1,_⟩<;>rw[h1]<;>simp
    have pB:∀p∈pas,p.k=.ptr->∃n,ns=[n]/\V7 G oA.h p n:=by
     intro p hp hk;obtain⟨i,hi⟩:=List.getElem?_of_mem (Xs hp hk);have cj:i<ns.length:=by rw[<-b5];exact(List.getElem?_eq_some_iff.1 hi).1
     have hn:ns[i]? =some ns[i]:=List.getElem?_eq_getElem cj;have h0:i=0:=by omega
     subst h0;refine⟨_,?_,b6 0 p _ hi hn⟩;match ns,cj,hns with
     |[n],_,_=>rfl
    have va:OO w ds vals pas:=by
     refine⟨b2,b1,b3,fun p hp hk=>?_,fun i j p q hi hj hp hq=>Xt (by omega) hi hj hp hq⟩;obtain⟨n,_,cs,hn,e1,e2,e3⟩:=pB p hp hk;obtain⟨nl,un,_⟩:=b7.box n cs hn;have ho:=b7.own n (by rw[hn];simp) nl;rw[e1];exact⟨un,fun q hq pc bg hb=>ho.1 (b4 q hq pc bg _ hb)⟩
    unfold Oper.wp;rw[bR];refine(hT f M hM ds rs out rP w vals pas va).mono fun e w' ⟨bq,qs,p1,p2,p3,p4⟩=>?_;subst p2;have aar:∀b,Cg w pas b->Im' b\/w.heap.size<=b:=fun b hb=>by
     rcases hb with hb|⟨q,hq,pc,bg,hb⟩
     ·exact .inr hb
     ·exact .inl (b4 q hq pc bg b hb)
    let S:Nat->Prop:=fun b=>w.heap.size<=b/\((∃p∈bq,∃pc∈p.ps,aX b pc)\/∃pc∈qs,aX b pc);have hB:=r.fr.size;have hS:∀b,S b->w.heap.size<=b/\b<w'.heap.size/\B<=b:=fun b ⟨h1,h2⟩=>by
     refine⟨h1,?_,Nat.le_trans hB h1⟩;rcases h2 with⟨p,hp,pc,bg,hb⟩|⟨pc,bg,hb⟩
     ·exact(p4.ez p hp pc bg).1.lt hb
     ·exact(p4.out pc bg).1.lt hb
    have ZJ:∀p∈bq,∀pc∈p.ps,Good w' pc/\∀b,aX b pc->Im' b\/S b:=fun p hp pc bg=>by
     obtain⟨g1,g2⟩:=p4.ez p hp pc bg;exact⟨g1,fun b hb=>(aar b (g2 b hb)).imp id fun h1=>⟨h1,.inl ⟨p,hp,pc,bg,hb⟩⟩⟩
    have akA:∀pc∈qs,Good w' pc/\∀b,aX b pc->Im' b\/S b:=fun pc bg=>by
     obtain⟨g1,g2⟩:=p4.out pc bg;exact⟨g1,fun b hb=>(aar b (g2 b hb)).imp id fun h1=>⟨h1,.inr ⟨pc,bg,hb⟩⟩⟩
    have atw:HR B E w' ⟨fun b=>Im' b\/S b,G.g⟩ kf.h kf.used []/\bk w ⟨Im',G.g⟩ oA.h (fun n=>oA.used n=true) w' ⟨fun b=>Im' b\/S b,G.g⟩ kf.h/\kf.env=oA.env/\kf.used=oA.used/\Fr B E w0 w':=by
     rcases Td nX with⟨h1,h2,h3⟩|⟨n,cs,h1,h2,h3,h4⟩
     ·subst h3;have cg:∀p∈pas,p.k≠ .ptr:=fun p hp hk=>by
       obtain⟨n,e,_⟩:=pB p hp hk;rw[h1] at e;cases e
      have jw:∀b,b<w.heap.size->w'.heap[b]? =w.heap[b]? :=fun b hb=>p4.fr.block b hb (fun⟨p,hp,hk,_⟩=>cg p hp hk);have Hg:=b7.grow jw p4.fr.size;refine⟨Hg.uM S (fun b hb=>(hS b hb).2.1) (fun b hb q hq hl he=>by have:=(hS b hb).1;have:=(b7.own q hq hl).2.2;omega)
       (fun b hb q gr sz xs hq hF=>by have:=(hS b hb).1;have:=b7.oZ hq hF;omega) (fun b hb=>.inl (hS b hb).2.2),
       bk.trans (fun _ h=>h) (bk.world (fun b hb=>jw b (b7.gC b hb)) _) (bk.uM S _),rfl,rfl,r.fr.grow jw p4.fr.size p4.fr.os p4.fr.tape p4.fr.output⟩
     ·subst h4;obtain⟨p,hp,hk⟩:∃p∈pas,p.k=.ptr:=by
       have hlen:(m6 pas).length=1:=by rw[b5,h1];rfl
       match hc:m6 pas,hlen with
       |[p],_=>
        have hm:p∈m6 pas:=by rw[hc];simp
        have:=List.mem_filter.1 hm;exact⟨p,this.1,by simpa using this.2⟩
      obtain⟨n',e0,cs',bu,e1,e2,e3⟩:=pB p hp hk;rw[h1] at e0;injection e0 with e0;subst e0;have K7:∀q∈pas,q.k=.ptr->q=p:=fun q hq QU=>by
       obtain⟨i,hi⟩:=List.getElem?_of_mem hq;obtain⟨j,hj⟩:=List.getElem?_of_mem hp;have:=va.one i j q p hi hj QU hk;subst this;rw[hi] at hj;injection hj
      have ho:=b7.own n (by rw[h2];simp) (b7.box n cs h2).1;have jw:∀b,b<w.heap.size->b≠(G.g n).b->w'.heap[b]? =w.heap[b]? :=fun b hb aF=>p4.fr.block b hb (fun⟨q,hq,QU,ZV⟩=>by
       rw[K7 q hq QU,e1] at ZV;exact aF ZV)
      have jA:∀b,b<w.heap.size->Cz w w' b:=fun b hb=>p4.fr.j7 b hb;obtain⟨Hb,Kb⟩:=b7.WW (cs':=out.map .c) h2 p4.fr.size jw jA hS (ps:=qs) (by rw[<-p3,List.map_map];rfl) (fun j c hj=>by
       have:=p4.at_ p hp hk j c hj;rw[e1,e2] at this;exact this) akA
      exact⟨Hb,Kb,rfl,rfl,r.fr.one ho.2.1 jw p4.fr.size (jA _ ho.2.2) p4.fr.os p4.fr.tape p4.fr.output⟩
    obtain⟨H2,K2,v1,v2,v9⟩:=atw;have K0:bk w G σ.h (fun n=>σ.used n=true) w' ⟨fun b=>Im' b\/S b,G.g⟩ kf.h:=bk.trans (fun n hn=>by rw[oE];exact hn) b8 K2;have r2:R B E w0 N kf a w' ⟨fun b=>Im' b\/S b,G.g⟩:=r.step (v1.trans b9) (fun m hm=>by rw[v2,oE];exact hm) K0 H2 v9;have J8:∀{ls:List (Bool×List ah)},kl rs=some ls->σ1=kf.put o.dst (lZ ls)->(match(Ending.returned (Bd bq)) with|.returned v=>Nx B E w0 N σ1 (a.put o.dst v) w'|_=>True):=by
     intro ls qA hs;subst hs;rw[<-p1] at qA;obtain⟨rfl,Gj⟩:=PJ qA;refine⟨_,r2.put (ar9 (by simp) (fun j x p hj hp=>?_)) (fun q hq=>?_) hN⟩
     ·rw[List.getElem?_map,hp] at hj;simp at hj;subst hj;have hm:=List.mem_of_getElem? hp;have cv:dh w' ⟨fun b=>Im' b\/S b,G.g⟩ kf.h (p.ps.map fun pc=>ah.c pc.er) (p.ps.map PC.val):=by
       refine⟨by simp,fun j c u hj hu=>?_⟩;rw[List.getElem?_map] at hj hu;cases kG:p.ps[j]? with
       |none=>rw[kG] at hj;cases hj
       |some pc=>
        rw[kG] at hj hu;simp at hj hu;subst hj hu;obtain⟨g1,g2⟩:=ZJ p hm pc (List.mem_of_getElem? kG);exact⟨PC.kc pc,pc,rfl,rfl,g1,g2⟩
      have wh:=p4.one p hm;have Ak:=Gj p hm;obtain⟨k,ps,b,o'⟩:=p;cases k with
      |ptr=>exact absurd rfl Ak
      |agg=>exact⟨ps.map PC.val,rfl,cv⟩
      |one=>
       have h2:=wh rfl;match ps,h2 with
       |[p],_=>exact cv
     ·exfalso;refine asn (fun x hx c hc hq=>?_) hq;obtain⟨p,_,rfl⟩:=List.mem_map.1 hx;obtain⟨pc,_,rfl⟩:=List.mem_map.1 hc;exact hq
    unfold rz at hx;split at hx
    ·rename_i cs;split at hx
     ·rename_i q hq;split at hx
      ·rename_i τ3 KN;injection hx with hx;subst hx;obtain⟨u1,rfl⟩:=ko KN;obtain⟨p,rfl⟩:∃p,bq=[p]:=by
        have h1:bq.length=1:=by have:=congrArg List.length p1;simpa using this
        exact List.length_eq_one_iff.1 h1
       simp at p1;obtain⟨hk,fc⟩:=p1;obtain⟨_,q1,q2,q3,q4,q5⟩:=p4.ptr p (by simp) hk;subst fc;have aad:oB ⟨fun b=>Im' b\/S b,G.g⟩ kf.h p.b:=by
        refine⟨fun hi=>?_,fun m hm hl he=>?_,fun m gr mo sz xs hm hF=>?_⟩
        ·rcases hi with hi|⟨_,hi⟩
         ·have:=b7.gC _ hi;omega
         ·rcases hi with⟨p',bC,pc,bg,hb⟩|⟨pc,bg,hb⟩
          ·simp at bC;subst bC;exact q4 pc bg hb
          ·exact q5 pc bg hb
        ·have hd:=H2.ji m hm;obtain⟨k0,k1,k2,_⟩:=K2.name m (by rw[<-v2];exact hd) hm;have eG:(G.g m).nl=false:=hl;have:=(b7.own m k0 eG).2.2;have Db:(G.g m).b=p.b:=he;have h7:(⟨Im',G.g⟩:Gh).g m=G.g m:=rfl;rw[h7] at this;omega
        ·have hd:=H2.ji m (by rw[hm];simp);have eW:∃bn jH aH ar,oA.h m=some (.row bn jH aH ar):=by
          rcases Td nX with⟨h1,h2,h3⟩|⟨n,cs,h1,h2,h3,h4⟩
          ·subst h3;exact⟨_,_,_,_,hm⟩
          ·subst h4;by_cases bF:m=n
           ·subst bF;have:ax oA.h m (some (aq.box (out.map ah.c))) m=_:=hm;rw[bO] at this;cases this
           ·have:ax oA.h n (some (aq.box (out.map ah.c))) m=_:=hm;rw[cJ _ _ _ _ bF] at this;exact⟨_,_,_,_,this⟩
         obtain⟨bn,jH,aH,ar,bL⟩:=eW;have hF':bf p.b (G.g m).px:=hF;have:=b7.oZ bL hF';omega
       have Hn:HR B E w' ⟨fun b=>Im' b\/S b,ax G.g q ⟨false,p.b,p.o,0,[],none⟩⟩ (ax kf.h q (some (.box ((p.ps.map PC.er).map .c)))) (ax kf.used q true) []:=by
        refine H2.insert (w':=w') u1 (fun _ _=>rfl) (Nat.le_refl _) (fun _=>⟨aad,.inl (Nat.le_trans hB q1),q2.lt⟩) (fun cs' c m hb dm hm=>?_) ⟨rfl,q2,fun j c hj=>?_⟩ (fun gr m sz xs hb=>by cases hb) (fun gr sz xs hb=>by cases hb) (fun gr m sz xs hb=>by cases hb)
        ·injection hb with hb;subst hb;obtain⟨x,_,rfl⟩:=List.mem_map.1 dm;exact absurd hm id
        ·rw[List.getElem?_map,List.getElem?_map] at hj;cases hp:p.ps[j]? with
         |none=>rw[hp] at hj;cases hj
         |some pc=>
          rw[hp] at hj;simp at hj;subst hj;obtain⟨g1,g2⟩:=ZJ p (by simp) pc (List.mem_of_getElem? hp);exact⟨pc.val,q3 j pc hp,PC.kc pc,pc,rfl,rfl,g1,g2⟩
       have r3:=r2.step (σ':={kf with h:=ax kf.h q (some (.box ((p.ps.map PC.er).map .c))),used:=ax kf.used q true}) rfl (fun m hm=>oy q m hm) (bk.insert H2 u1 (fun _ _=>rfl)) Hn v9
       have hv:Bd [p]=.pointer (some (ad p.b p.o)):=by
        obtain⟨k,ps,b,o'⟩:=p;simp only at hk;subst hk;rfl
       rw[hv];exact⟨_,r3.put (RA.fz (c:=.ptr q 0 0 0) rfl (show ax kf.h q _ q≠none->(ax G.g q _ q).nl=false/\_=_ from fun _=>by simp[bO])) (fun m hm=>by have bL:m=q:=hm;subst bL;exact bO _ _ _) hN⟩
      ·cases hx
     ·cases hx
    ·split at hx
     ·rename_i ls qA;injection hx with hx;exact J8 qA hx.symm
     ·cases hx
   ·cases hx
  ·cases hx
 ·cases hx
theorem XV (r:R B E w0 N σ a w G) {T:aN} (hT:Ce P T) {f:FuncId} {xs:Array Operand} {ms:List MO} {ts:Array TypeId} {σ1:St} (hN:∀n,o.dst=some n->n<N)
  (ho:o.op=.call {callee:=.value (.func f),args:=xs,argTypes:=ts}) (hf:bP P f=true) (hm:iA xs.toList ms=true)
  (hx:rE T o.dst f (ms.map σ.ev) σ=some σ1):o.wp P a w (Nx B E w0 N σ1) Q:=by
 obtain⟨e1,e2⟩:=r.zU hm;have Rf:∀x∈ms.map σ.ev,∀m,x.ref m->σ.used m=true:=by
  have db:∀{xs:List Operand} {ms:List MO},iA xs ms=true->∀x∈ms.map σ.ev,∀m,x.ref m->σ.used m=true:=by
   intro xs ms;induction ms generalizing xs with
   |nil=>intro _ x hx;simp at hx
   |cons m0 ms ih=>
    intro hc x hx m hm;cases xs with
    |nil=>simp[iA] at hc
    |cons y ys=>
     simp only[iA,Bool.and_eq_true] at hc;simp only[List.map_cons,List.mem_cons] at hx;rcases hx with rfl|hx
     ·exact(r.ev hc.1).2 m hm
     ·exact ih hc.2 x hx m hm
  exact db hm
 refine aiS r hT (vals:=xs.toList.map a.eval) hN ?_ (by simpa using e1) e2 Rf hx;have he:(xs.toList.map a.eval).toArray=xs.map a.eval:=by apply Array.ext';simp
 rw[he];simp[execOp,ho,resolve,Deferred.ofValue,invoke,Act.eval,Bf hf]
theorem R.uw (r:R B E w0 N σ a w G) {p:ah} (hx:σ.uw p=some σ'):∃G',R B E w0 N σ' a w G'/\σ'.env=σ.env:=by
 unfold St.uw at hx;split at hx
 ·rename_i n k sz off;split at hx
  ·rename_i cs hn;split at hx
   ·rename_i xs ow σ1 ht;injection hx with hx;subst hx;obtain⟨vs,v1,v2⟩:=r.hr.JN hn;obtain⟨zz,bx,a1,a2,a3,a5,a6,a7,a8,a9⟩:=r.hr.gw ht v1 (fun c hc m hm=>r.hr.iq n cs c m hn hc hm);have ub:HR B E w ⟨zz,G.g⟩ σ1.h σ.used []:=by
     cases ow with
     |true=>exact HR.xd (tk:=[]) (l:=bx) (by simpa using a5)
     |false=>simpa using a5
    have mF:=VQ ht hn;obtain⟨b1,b2⟩:=ub.WW (w':=w) (cs':=xs.map .c) mF (Nat.le_refl _) (fun _ _ _=>rfl) (fun b _=>Cz.refl w b) (S:=fun _=>False) (fun b hb=>hb.elim) (ps:=bx)
     (by rw[<-a1,List.map_map];rfl) (fun j c hj=>by
      have:=v2 j c.val (by rw[<-a2,List.getElem?_map,hj];rfl);exact this) (fun pc bg=>⟨(a3 pc bg).1,fun b hb=>.inl ((a3 pc bg).2 b hb)⟩)
    have hk:=bk.trans (fun _ h=>h) a6 b2;refine⟨_,r.step a7 (fun q hq=>by rw[show(σ1.eD n (.box (xs.map .c))).used=σ1.used from rfl,a8];exact hq) hk ?_ r.fr,a7⟩
    show HR B E w _ _ σ1.used [];rw[a8];exact b1
   ·cases hx
  ·cases hx
 ·cases hx
end
def Wo (P:Program) (f:FuncId) (sig:aM) (M:List Dv->Option (Nat×Nat)):Prop:=
 ∀ds lo len,M ds=some (lo,len)->∀(w:World) (vals:List Value) (pas:List PA),xA w sig ds vals pas->Calls P f vals.toArray w fun e w'=>
  ∃(m:Mode) (sz cap:Nat) (a:Option Addr) (xs:List (List PC)) (v:Value),eZ sig (pas.map (·.ps))=[(m,.list sz a cap xs)]/\e=.returned v/\xs≠[]/\
   (∃(b o:Nat) (a':Option Addr),a=some (ad b o)/\v=.slice a' len (cap - lo)/\lo+len<=cap/\((lo<cap\/lo=0)->a'=some (ad b (o+lo*sz))))/\
   Fr w.heap.size (CT [(m,.list sz a cap xs)]) w w'/\∃q:PC,q.er=(PC.list sz a cap xs).er/\tZ w' m (.list sz a cap xs) q
def OP (P:Program) (f:FuncId) (i:Nat) (M:List Dv->Option (List Dv×List C)):Prop:=
 ∀(lo len:Nat) (ds rs:List Dv) (dW:List C) (ys:List (List C)),M (dI lo::dI (lo+len)::ds)=some (rs,dW)->ds[i]? =some (.one,[.list 1 ys])->∀(w:World) (vals:List Value) (pas:List PA),xA w (zm i) ds vals pas->
  ∀(b o cap n:Nat) (a':Option Addr),vals[i]? =some (.slice (some (ad b o)) n cap)->0<n->lo+len<=n->((lo<cap\/lo=0)->a'=some (ad b (o+lo*1)))->
  Calls P f (vals.set i (.slice a' len (cap - lo))).toArray w (OJ w (zm i) pas rs dW)
def xC (P:Program) (T:aN):Prop:=(∀f sig M,aN.s8 T.ws f=some (sig,M)->Wo P f sig M)/\∀f i M,aN.s9 T.xs f=some (i,M)->OP P f i M
section
variable {B:Nat} {E:Ex} {w0 w w':World} {G G':Gh} {N:Nat} {h h':Nat->Option aq} {used used':Nat->Bool} {tk:List PC}
variable {P:Program} {o:Oper} {a:Act} {σ σ':St} {Q:Exit->Act->World->Prop}
theorem aiW (r:R B E w0 N σ a w G) {T:aN} (hT:xC P T) {f:FuncId} {as:List aj} {vals:List Value} {v0:aj} (hN:∀n,o.dst=some n->n<N)
  (bR:(execOp a.eval o).run P w=.ok (.enter f vals.toArray) w) (hl:vals.length=as.length)
  (nQ:∀(j:Nat) (x:aj) (v:Value),as[j]? =some x->vals[j]? =some v->RA w G σ.h x v)
  (hx:qk T f as σ.h=some v0):o.wp P a w (Nx B E w0 N (σ.put o.dst v0)) Q:=by
 have H:=r.hr;unfold qk at hx;split at hx
 ·rename_i sig M cZ hM F3;split at hx
  ·rename_i n0 auv;split at hx
   ·rename_i ds n md hv;split at hx
    ·rename_i he;subst he;split at hx
     ·rename_i gr mo sz xs lo len eW rP;injection hx with hx;subst hx;obtain⟨qy,FU⟩:=Sx F3 hl nQ;obtain⟨pas,q1,q2,q3,q4,q5,q6,q7⟩:=H.mN hv qy FU;have uF:([((dz.row n:dz),md)].filterMap (·.1.eN)).Nodup:=by simp[dz.eN]
      generalize uB:eZ sig (pas.map (·.ps))=fl at q5;obtain⟨x,rfl⟩:∃x,fl=[x]:=by
       match fl,q5.len with
       |[x],_=>exact⟨x,rfl⟩
      obtain⟨KV,x9⟩:=q5.at_ 0 _ x rfl rfl;have cD:=x9.at_;obtain⟨bn,jH,aH,ar,e1,e2,e3,e4,e5⟩:=cD;rw[eW] at e1;injection e1 with e1;injection e1 with a1 a2 a3 a4;subst a1 a2 a3 a4;have bK:σ.h n≠none:=by rw[eW];simp
      have hr:=H.row n gr mo sz xs eW;have lr:∀b,aX b x.2->ta G n b/\((∀b,¬bf b (G.g n).px)\/mo=.live):=by
       intro b hb;obtain⟨n',bn,m',aH,ar,f1,f2,f3,f4,f5⟩:=x9.oK H hb;have:n'=n:=by injection f1 with f1;exact f1.symm
       subst this;rw[eW] at f2;injection f2 with f2;injection f2 with _ f2 _ _;subst f2;exact⟨f4,f5⟩
      have Sz:xA w sig ds vals pas:=by
       refine⟨q2,q1,q3,fun y hy=>?_,?_,fun pc bg y hy b hb aJ=>?_,fun p hp hk=>absurd hk (q4 p hp),fun i p s hp _ hk=>absurd hk (q4 p (List.mem_of_getElem? hp))⟩
       ·rw[uB,List.mem_singleton] at hy;subst hy;exact x9.ok
       ·rw[uB];simp
       ·rw[uB,List.mem_singleton] at hy;subst hy;obtain⟨f4,f5⟩:=lr b aJ;rcases q7 pc bg b hb with hi|⟨n',bn,m',aH,ar,bu,nJ,vO⟩
        ·rcases f4 with⟨aT,rfl⟩|hF
         ·exact(H.own n bK aT).1 hi
         ·rcases f5 with f5|rfl
          ·exact f5 b hF
          ·exact(hr.mode.1 b hF).1 hi
        ·have aF:n'≠n:=fun e=>bu (by rw[e];simp);exact H.FQ aF nJ eW f5 vO f4
      unfold Oper.wp;rw[bR];refine(hT.1 f sig M hM ds lo len rP w vals pas Sz).mono fun e w' ⟨m1,tJ,Cw,OQ,sL,v,p1,p2,p3,⟨lb,lo1,la,l1,l2,l3,l4⟩,p4,q,p5,p6⟩=>?_;subst p2;rw[uB] at p1;injection p1 with p1 _;subst p1;dsimp only at e4;have rT:∀b,CT [(m1,PC.list tJ OQ Cw sL)] b->(B<=b\/E b):=by
       rintro b ⟨y,hy,hb⟩;rw[List.mem_singleton] at hy;subst hy;rcases(lr b hb).1 with⟨aT,rfl⟩|hF
       ·exact(H.own n bK aT).2.1
       ·have gf:=hr.mode;cases mo with
        |aI=>exact absurd rfl e2
        |aO=>exact(gf.1 b hF).2.2
        |live=>exact(gf.1 b hF).2.2
      have Z8:(uA G [((dz.row n:dz),md)] [q]).g n=yN (G.g n) (.row n) q:=ZH uF (i:=0) (it:=(.row n,md)) rfl rfl rfl;have hqe:q.er=.list sz xs:=by rw[p5,e4];exact adM hr
      have p6':=p6;rw[e4] at p6;obtain⟨sO,K,_⟩:=H.GY (G':=uA G [((dz.row n:dz),md)] [q]) (h':=σ.h) (w':=w') (S:=fun k=>k=n) p4.size (fun b hb cg=>p4.block b hb (by
        rintro⟨y,hy,nR⟩;rw[List.mem_singleton] at hy;subst hy;exact cg n rfl (lr b nR).1)) (fun b hb=>p4.j7 b hb) rfl (fun k hk=>by
        subst hk;exact⟨gr,mo,sz,xs,xs,eW,eW,by rw[Z8];exact W8 H eW e2 e3 e5.1 e5.2 p6 hqe⟩)
       (fun k hk=>⟨rfl,ZI (by simp[dz.eN];exact hk)⟩)
      have v9:Fr B E w0 w':=by
       refine⟨p4.os.trans r.fr.os,p4.tape.trans r.fr.tape,p4.output.trans r.fr.output,Nat.le_trans r.fr.size p4.size,fun b hb he=>?_,fun b hb=>?_⟩
       ·refine(p4.block b (Nat.lt_of_lt_of_le hb r.fr.size) fun hx=>?_).trans (r.fr.block b hb he);rcases rT b hx with h1|h1
        ·omega
        ·exact he h1
       ·exact(r.fr.j7 b hb).trans (p4.j7 b (Nat.lt_of_lt_of_le hb r.fr.size))
      have r2:R B E w0 N σ a w' (uA G [((dz.row n:dz),md)] [q]):=r.step rfl (fun _ h=>h) K sO v9;refine⟨_,r2.put (RA.fz ?_ ?_) (fun k hk=>?_) hN⟩
      ·rw[l2];rfl
      ·show σ.h n≠none->gM _ sz lo len v;intro _;have hq:PC.list tJ OQ Cw sL=o6 sz (G.g n):=e4;unfold o6 at hq;injection hq with g1 g2 g3 g4;subst g1 g3 g4;have aT:(G.g n).nl=false:=by
        cases h0:(G.g n).nl with
        |false=>rfl
        |true=>exact absurd (hr.nl h0).1 p3
       rw[aT] at g2;have g2:OQ=some (ad (G.g n).b (G.g n).o):=g2;rw[l1] at g2;injection g2 with g2;obtain⟨rfl,rfl⟩:=lf g2;obtain⟨jc,ad2,ui,px2,rfl⟩:=PC.Sm p6.val rfl;rw[Z8];exact .inr ⟨aT,la,l2,l3,l4⟩
      ·have bJ:k=n:=hk;subst bJ;exact r.hr.ji k bK
     ·cases hx
    ·cases hx
   ·cases hx
  ·cases hx
 ·cases hx
theorem aiM (r:R B E w0 N σ a w G) {T:aN} (hT:xC P T) {f:FuncId} {xs:Array Operand} {ms:List MO} {ts:Array TypeId} {v0:aj} (hN:∀n,o.dst=some n->n<N)
  (ho:o.op=.call {callee:=.value (.func f),args:=xs,argTypes:=ts}) (hf:bP P f=true) (hm:iA xs.toList ms=true)
  (hx:qk T f (ms.map σ.ev) σ.h=some v0):o.wp P a w (Nx B E w0 N (σ.put o.dst v0)) Q:=by
 obtain⟨e1,e2⟩:=r.zU hm;refine aiW r hT (vals:=xs.toList.map a.eval) hN ?_ (by simpa using e1) e2 hx;have he:(xs.toList.map a.eval).toArray=xs.map a.eval:=by apply Array.ext';simp
 rw[he];simp[execOp,ho,resolve,Deferred.ofValue,invoke,Act.eval,Bf hf]
theorem aul {h:Nat->Option aq} {x:aj} {n lo len N:Nat} (hx:EN h x=some (n,lo,len,N)):x=.one (.sl n 1 lo len)/\∃gr m xs,h n=some (.row gr m 1 xs)/\N=xs.length/\lo<N/\lo+len<=N:=by
 unfold EN at hx;split at hx
 ·rename_i n' s yH uV;split at hx
  ·rename_i gr m rs xs hn;split at hx
   ·rename_i hc;obtain⟨rfl,rfl,h1,h2⟩:=hc;injection hx with hx;injection hx with e1 e2;injection e2 with e2 e3;injection e3 with e3 e4;subst e1 e2 e3 e4;exact⟨rfl,gr,m,xs,hn,rfl,h1,h2⟩
   ·cases hx
  ·cases hx
 ·cases hx
theorem aiX (r:R B E w0 N σ a w G) {T:aN} (hT:xC P T) {m:Mode} {f:FuncId} {as:List aj} {vals:List Value} {σ1:St} (hN:∀n,o.dst=some n->n<N)
  (bR:(execOp a.eval o).run P w=.ok (.enter f vals.toArray) w) (hl:vals.length=as.length)
  (nQ:∀(j:Nat) (x:aj) (v:Value),as[j]? =some x->vals[j]? =some v->RA w G σ.h x v)
  (hx:vN T m o.dst f as σ=some σ1):o.wp P a w (Nx B E w0 N σ1) Q:=by
 have H:=r.hr;unfold vN at hx;split at hx
 ·rename_i i M hM;split at hx
  ·rename_i x hi;split at hx
   ·rename_i n lo len L eW;obtain⟨rfl,gr,md,xs,hn,rfl,qz,gH⟩:=aul eW;have lx:i<as.length:=(List.getElem?_eq_some_iff.1 hi).1;have KO:i<vals.length:=by omega
    have hv:vals[i]? =some vals[i]:=List.getElem?_eq_getElem KO;have hra:=nQ i _ _ hi hv;have iF:gM (G.g n) 1 lo len vals[i]:=(hra.fE (by simp)).1 (by rw[hn];simp);have hr:=H.row n gr md 1 xs hn;have fC:(G.g n).px.length=xs.length:=by rw[hr.er];simp
    have aT:(G.g n).nl=false:=by
     cases h0:(G.g n).nl with
     |false=>rfl
     |true=>
      have:=(hr.nl h0).1;rw[this] at fC;simp at fC;omega
    obtain⟨l1,l2,l3⟩:=hr.eI aT;rcases iF with⟨h0,_⟩|⟨_,ya,hva,gF,akC⟩
    ·rw[aT] at h0;cases h0
    refine XW r (as:=as.set i (.one (.sl n 1 0 xs.length))) (vals:=vals.set i (.slice (some (ad (G.g n).b (G.g n).o)) xs.length (G.g n).cap)) (vals':=vals)
     (fun sig M' rP ds rs dW h pas hm=>?_) hN bR (by simp[hl]) (fun j x v hj yd=>?_) hx
    ·have C1:(zm i,xM i lo (lo+len) M)=(sig,M'):=by
      simp only[aN.nO,if_true] at rP;injection rP
     injection C1 with q1 q2;subst q1 q2;unfold xM at h;split at h
     ·rename_i ys jS;have:=hT.2 f i M hM lo len ds rs dW ys h jS w _ pas hm (G.g n).b (G.g n).o (G.g n).cap xs.length ya (by rw[List.getElem?_set_self KO]) (by omega) gH akC;have e:(vals.set i (.slice (some (ad (G.g n).b (G.g n).o)) xs.length (G.g n).cap)).set i (.slice ya len ((G.g n).cap - lo))=vals:=by
       rw[List.set_set,<-hva];exact List.set_getElem_self KO
      rw[e] at this;exact this
     ·cases h
    ·by_cases kE:j=i
     ·subst kE;rw[List.getElem?_set_self lx] at hj;rw[List.getElem?_set_self KO] at yd;injection hj with hj;injection yd with yd;subst hj yd;refine RA.fz rfl (fun _=>.inr ⟨aT,_,rfl,by omega,fun _=>by simp⟩)
     ·rw[List.getElem?_set_ne (fun h=>kE h.symm)] at hj yd;exact nQ j x v hj yd
   ·cases hx
  ·cases hx
 ·cases hx
theorem aiN (r:R B E w0 N σ a w G) {T:aN} (hT:xC P T) {m:Mode} {f:FuncId} {xs:Array Operand} {ms:List MO} {ts:Array TypeId} {σ1:St} (hN:∀n,o.dst=some n->n<N)
  (ho:o.op=.call {callee:=.value (.func f),args:=xs,argTypes:=ts}) (hf:bP P f=true) (hm:iA xs.toList ms=true)
  (hx:vN T m o.dst f (ms.map σ.ev) σ=some σ1):o.wp P a w (Nx B E w0 N σ1) Q:=by
 obtain⟨e1,e2⟩:=r.zU hm;refine aiX r hT (vals:=xs.toList.map a.eval) hN ?_ (by simpa using e1) e2 hx;have he:(xs.toList.map a.eval).toArray=xs.map a.eval:=by apply Array.ext';simp
 rw[he];simp[execOp,ho,resolve,Deferred.ofValue,invoke,Act.eval,Bf hf]
end
def CD:Option Operand->Option MO->Bool
 |none,none=>true
 |some x,some m=>bT x m
 |_,_=>false
def sZ (P:Program) (t:TypeId) (sz:Nat) (k:TypeInfo->Value->Bool):Bool:=
 match P.underlying t with
 |some (.slice e)=>match P.info? e with
  |some i=>match i.zero with
   |some z=>i.size==sz&&decide (0<sz)&&k i z
   |none=>false
  |none=>false
 |_=>false
theorem ul {P:Program} {t:TypeId} {sz:Nat} {k:TypeInfo->Value->Bool} (h:sZ P t sz k=true):
  ∃e i z,P.underlying t=some (.slice e)/\P.info? e=some i/\i.zero=some z/\i.size=sz/\0<sz/\k i z=true:=by
 unfold sZ at h;split at h
 ·rename_i e he;split at h
  ·rename_i i hi;split at h
   ·rename_i z hz;simp only[Bool.and_eq_true,beq_iff_eq,decide_eq_true_eq] at h;exact⟨e,i,z,he,hi,hz,h.1.1,h.1.2,h.2⟩
   ·cases h
  ·cases h
 ·cases h
def J1 (P:Program) (t:TypeId) (zs:List ah):Bool:=
 match P.info? t with
 |some i=>match i.zero with
  |some z=>uk z.cells.toList zs
  |none=>false
 |none=>false
theorem Xf {P:Program} {t:TypeId} {zs:List ah} (h:J1 P t zs=true):∃i z,P.info? t=some i/\i.zero=some z/\uk z.cells.toList zs=true:=by
 unfold J1 at h;split at h
 ·rename_i i hi;split at h
  ·rename_i z hz;exact⟨i,z,hi,hz,h⟩
  ·cases h
 ·cases h
def W9 (P:Program) (t:TypeId) (parts:List (Nat×Operand)) (zs:List ah) (ms:List (Nat×Nat×MO)):Bool:=
 match P.underlying t with
 |some (.struct xS)=>match xS.toList.mapM (fun f=>(P.info? f.type).map fun i=>(f.offset,i.size)) with
  |some places=>J1 P t zs&&zI places parts ms
  |none=>false
 |_=>false
def J0 (P:Program) (t:TypeId) (sz:Nat):Bool:=
 match P.info? t with
 |some i=>i.size==sz&&decide (0<sz)
 |none=>false
def Xc (P:Program) (t u:TypeId) (k:IntKind):Bool:=
 match P.underlying t,P.underlying u with
 |some _,some (.int k')=>k==k'
 |_,_=>false
def aaK (P:Program) (t:TypeId):Bool:=
 match P.underlying t with
 |some .bool=>true
 |_=>false
def eU (P:Program) (o:Oper) (mo:aU):Bool:=
 match mo,o.op with
 |.mv m,.move x=>bT x m
 |.mv m,.assign x=>bT x m
 |.pick c x y,.pick c' x' y'=>bT c' c&&bT x' x&&bT y' y
 |.alloc zs,.alloc e=>J1 P e zs
 |.box sz m,.box e x=>bT x m
 |.build zs ms,.build t parts=>W9 P t parts.toList zs ms
 |.ft sz ms,.buildSlice t len parts=>sZ P t sz (fun _ _=>true)&&(ms.length==len)&&decide (parts.toList.map (·.1)=List.range len)&&decide (len*sz<=16777216)&&iA (parts.toList.map (·.2)) ms
 |.load ag sz m,.load t x=>bT x m&&CC P t ag sz
 |.store sz mx my,.store t x y=>o.dst.isNone&&bT x mx&&bT y my&&J0 P t sz
 |.pT m,.nilCheck x=>bT x m
 |.bin op mx my,.binOp yO t x y t'=>decide (op=yO)&&bT x mx&&bT y my
 |.nE op mx my,.binOp yO t x y t'=>decide (op=yO)&&bT x mx&&bT y my&&aaK P t
 |.un op mx,.unOp yO t x=>decide (op=yO)&&bT x mx
 |.conv k mx,.convert t u x=>bT x mx&&Xc P t u k
 |.iJ m sz by_ zs ml mc,.makeSlice t l c=>bT l ml&&bT c mc&&sZ P t sz (fun i z=>(i.bytes==by_)&&decide (0<by_)&&vH z.cells.toList zs)
 |.slice sz mx LI LG,.slice t x lo hi none=>bT x mx&&CD lo LI&&CD hi LG&&sZ P t sz (fun _ _=>true)
 |.nN off mx,.fieldAddr s x f=>bT x mx&&Fj P s f off
 |.nj sz mx mi,.indexAddr t x i=>bT x mx&&bT i mi&&sZ P t sz (fun _ _=>true)
 |.ext i mx,.extract x j=>(i==j)&&bT x mx
 |.len mx,.call c=>match c.callee,c.args.toList,c.argTypes.toList with
  |.builtin .len,[x],[t]=>bT x mx&&(match P.underlying t with|some (.slice _)=>true|_=>false)
  |_,_,_=>false
 |.append fl sz by_ mx my,.call c=>match c.callee,c.args.toList,c.argTypes.toList with
  |.builtin .append,[x,y],[t,t']=>(t==t')&&bT x mx&&bT y my&&sZ P t sz (fun i z=>(i.bytes==by_)&&decide (0<by_)&&(z.cells.size==sz))
  |_,_,_=>false
 |.mA zc mx,.call c=>match c.callee,c.args.toList,c.argTypes.toList with
  |.builtin .clear,[x],[t]=>bT x mx&&sZ P t 1 (fun _ z=>vH z.cells.toList [zc])
  |_,_,_=>false
 |.mm b mx my,.call c=>match c.callee,c.args.toList with
  |.builtin .max,[x,y]=>b&&bT x mx&&bT y my
  |.builtin .min,[x,y]=> !b&&bT x mx&&bT y my
  |_,_=>false
 |.call m f ms,.call c=>match c.callee with
  |.value (.func g)=>(f==g)&&bP P f&&iA c.args.toList ms
  |_=>false
 |.hZ m f ms,.call c=>match c.callee with
  |.value (.func g)=>(f==g)&&bP P f&&iA c.args.toList ms
  |_=>false
 |.ki f ms,.call c=>match c.callee with
  |.value (.func g)=>(f==g)&&bP P f&&iA c.args.toList ms
  |_=>false
 |.nG f ms,.call c=>match c.callee with
  |.value (.func g)=>(f==g)&&bP P f&&iA c.args.toList ms
  |_=>false
 |.mr f ms,.call c=>match c.callee with
  |.value (.func g)=>(f==g)&&bP P f&&iA c.args.toList ms
  |_=>false
 |.nH m f ms,.call c=>match c.callee with
  |.value (.func g)=>(f==g)&&bP P f&&iA c.args.toList ms
  |_=>false
 |.pq m f mx ms,.call c=>match c.callee with
  |.value (.tmp t)=>bP P f&&bT (.tmp t) mx&&iA c.args.toList ms
  |_=>false
 |_,_=>false
theorem Po:∀{xs:List Operand} {ms:List MO},iA xs ms=true->xs.length=ms.length/\∀(j:Nat) (x:Operand) (m:MO),xs[j]? =some x->ms[j]? =some m->bT x m=true
 |[],[],_=>⟨rfl,by simp⟩
 |x::xs,m::ms,hc=>by
  simp only[iA,Bool.and_eq_true] at hc;obtain⟨i1,i2⟩:=Po hc.2;refine⟨by simp[i1],fun j x' m' hj hm=>?_⟩;cases j with
  |zero=>simp at hj hm;subst hj;subst hm;exact hc.1
  |succ j=>exact i2 j x' m' (by simpa using hj) (by simpa using hm)
 |[],_::_,hc=>by simp[iA] at hc
 |_::_,[],hc=>by simp[iA] at hc
section
variable {B:Nat} {E:Ex} {w0 w w':World} {G G':Gh} {h h':Nat->Option aq} {used used':Nat->Bool} {tk:List PC} {N:Nat}
variable {P:Program} {o:Oper} {a:Act} {σ σ':St} {Q:Exit->Act->World->Prop}
theorem ai6 (r:R B E w0 N σ a w G) {T:aN} (C3:Ce P T) {f:FuncId} {ms:List MO} (hN:∀n,o.dst=some n->n<N) (hc:eU P o (.mr f ms)=true) (hx:exec T o.dst (.mr f ms) σ=some σ'):o.wp P a w (Nx B E w0 N σ') Q:=by
 obtain⟨dst,op,ty,pos,after,guard⟩:=o;cases op<;>simp only[eU] at hc<;>first|cases hc|skip
 rename_i c;obtain⟨callee,args,argTypes⟩:=c;split at hc
 ·rename_i g cv;simp only at cv;subst cv;simp only[Bool.and_eq_true,beq_iff_eq] at hc;obtain⟨⟨rfl,c1⟩,c2⟩:=hc;simp only[exec] at hx;split at hx
  ·rename_i v0 wB;injection hx with hx;subst hx;exact XV r C3 hN rfl c1 c2 (aij wB σ)
  ·cases hx
 ·cases hc
theorem ai7 (r:R B E w0 N σ a w G) {T:aN} (C4:xC P T) {f:FuncId} {ms:List MO} (hN:∀n,o.dst=some n->n<N) (hc:eU P o (.nG f ms)=true) (hx:exec T o.dst (.nG f ms) σ=some σ'):o.wp P a w (Nx B E w0 N σ') Q:=by
 obtain⟨dst,op,ty,pos,after,guard⟩:=o;cases op<;>simp only[eU] at hc<;>first|cases hc|skip
 rename_i c;obtain⟨callee,args,argTypes⟩:=c;split at hc
 ·rename_i g cv;simp only at cv;subst cv;simp only[Bool.and_eq_true,beq_iff_eq] at hc;obtain⟨⟨rfl,c1⟩,c2⟩:=hc;simp only[exec] at hx;split at hx
  ·rename_i v0 wB;injection hx with hx;subst hx;exact aiM r C4 hN rfl c1 c2 wB
  ·cases hx
 ·cases hc
theorem ai8 (r:R B E w0 N σ a w G) {T:aN} (C4:xC P T) {m:Mode} {f:FuncId} {ms:List MO} (hN:∀n,o.dst=some n->n<N) (hc:eU P o (.nH m f ms)=true) (hx:exec T o.dst (.nH m f ms) σ=some σ'):o.wp P a w (Nx B E w0 N σ') Q:=by
 obtain⟨dst,op,ty,pos,after,guard⟩:=o;cases op<;>simp only[eU] at hc<;>first|cases hc|skip
 rename_i c;obtain⟨callee,args,argTypes⟩:=c;split at hc
 ·rename_i g cv;simp only at cv;subst cv;simp only[Bool.and_eq_true,beq_iff_eq] at hc;obtain⟨⟨rfl,c1⟩,c2⟩:=hc;simp only[exec] at hx;exact aiN r C4 hN rfl c1 c2 hx
 ·cases hc
theorem ai5 (r:R B E w0 N σ a w G) {T:aN} (C3:Ce P T) {f:FuncId} {ms:List MO} (hN:∀n,o.dst=some n->n<N) (hc:eU P o (.ki f ms)=true) (hx:exec T o.dst (.ki f ms) σ=some σ'):o.wp P a w (Nx B E w0 N σ') Q:=by
 obtain⟨dst,op,ty,pos,after,guard⟩:=o;cases op<;>simp only[eU] at hc<;>first|cases hc|skip
 rename_i c;obtain⟨callee,args,argTypes⟩:=c;split at hc
 ·rename_i g cv;simp only at cv;subst cv;simp only[Bool.and_eq_true,beq_iff_eq] at hc;obtain⟨⟨rfl,c1⟩,c2⟩:=hc;simp only[exec] at hx;exact XV r C3 hN rfl c1 c2 hx
 ·cases hc
set_option maxHeartbeats 1000000 in
theorem X3 (r:R B E w0 N σ a w G) {T:aN} (hT:Ij P T) (ZO:Cd P T) (C3:Ce P T) (C4:xC P T) (hF:∀f M,aN.find T.pure f=some M->bP P f=true) {mo:aU} (hN:∀n,o.dst=some n->n<N) (hc:eU P o mo=true) (hx:exec T o.dst mo σ=some σ'):
  o.wp P a w (Nx B E w0 N σ') Q:=by
 obtain⟨dst,op,ty,pos,after,guard⟩:=o;cases mo with
 |mv m=>
  simp only[exec] at hx;injection hx with hx;subst hx;cases op<;>simp only[eU] at hc<;>first|cases hc|skip
  ·exact XZ r (.inl rfl) hN hc
  ·exact XZ r (.inr rfl) hN hc
 |pick c x y=>
  cases op<;>simp only[eU] at hc<;>first|cases hc|skip
  rename_i c' x' y';simp only[Bool.and_eq_true] at hc;simp only[exec] at hx;split at hx
  ·rename_i b hb;have:=ai9 (P:=P) (Q:=Q) r (o:=⟨dst,.pick c' x' y',ty,pos,after,guard⟩) rfl hN hc.1.1 hc.1.2 hc.2 hb;cases b<;>simp at hx<;>subst hx<;>exact this
  ·cases hx
 |alloc zs=>
  cases op<;>simp only[eU] at hc<;>first|cases hc|skip
  obtain⟨i,z,h1,h2,h3⟩:=Xf hc;simp only[exec] at hx;split at hx
  ·rename_i n;split at hx
   ·rename_i σ1 hi;injection hx with hx;subst hx;exact aiz r rfl rfl (hN n rfl) h1 h2 h3 hi
   ·cases hx
  ·cases hx
 |box sz m=>
  cases op<;>simp only[eU] at hc<;>first|cases hc|skip
  simp only[exec] at hx;split at hx
  ·rename_i n ag cs fc;split at hx
   ·split at hx
    ·rename_i σ1 hi;injection hx with hx;subst hx;exact aiE r rfl rfl (hN _ rfl) hc fc hi
    ·cases hx
   ·cases hx
  ·cases hx
 |build zs ms=>
  cases op<;>simp only[eU] at hc<;>first|cases hc|skip
  simp only[exec] at hx;split at hx
  ·rename_i cs fc;injection hx with hx;subst hx;unfold W9 at hc;split at hc
   ·rename_i xS hu;split at hc
    ·rename_i places e7;simp only[Bool.and_eq_true] at hc;obtain⟨i,z,h1,h2,h3⟩:=Xf hc.1;exact aiI r rfl hN h1 h2 hu e7 h3 hc.2 fc
    ·cases hc
   ·cases hc
  ·cases hx
 |ft sz ms=>
  cases op<;>simp only[eU] at hc<;>first|cases hc|skip
  simp only[Bool.and_eq_true,beq_iff_eq,decide_eq_true_eq] at hc;obtain⟨⟨⟨⟨c1,c2⟩,c3⟩,c4⟩,c5⟩:=hc;obtain⟨e,i,z,h1,h2,h3,h4,h5,_⟩:=ul c1;simp only[exec] at hx;split at hx
  ·rename_i n es ow σ1 mI;split at hx
   ·rename_i σ2 hi;injection hx with hx;subst hx;refine aiF r rfl rfl (hN _ rfl) h1 h2 h3 h4 h5 c2 c3 c4 (fun j p m hp hm=>?_) mI hi;exact(Po c5).2 j p.2 m (by simp[hp]) hm
   ·cases hx
  ·cases hx
 |load ag sz m=>
  cases op<;>simp only[eU] at hc<;>first|cases hc|skip
  simp only[Bool.and_eq_true] at hc;simp only[exec] at hx;split at hx
  ·rename_i p hp;split at hx
   ·rename_i cs fc;injection hx with hx;subst hx;exact ai1 r rfl hN hc.1 hc.2 hp fc
   ·cases hx
  ·cases hx
 |qS ag sz m=>
  cases op<;>simp[eU] at hc
 |store sz mx my=>
  cases op<;>simp only[eU] at hc<;>first|cases hc|skip
  simp only[Bool.and_eq_true] at hc;obtain⟨⟨⟨c0,c1⟩,c2⟩,c3⟩:=hc;have hd:dst=none:=by simpa using c0
  unfold J0 at c3;split at c3
  ·rename_i i hi;simp only[Bool.and_eq_true,beq_iff_eq,decide_eq_true_eq] at c3;simp only[exec] at hx;split at hx
   ·rename_i n k aB off ag vs hp hv;split at hx
    ·rename_i hl;split at hx
     ·rename_i cs hn;split at hx
      ·rename_i hk;injection hx with hx;subst hx;exact ajb r rfl hd c1 c2 hi c3.1 c3.2 hp hv hl hn hk.1 hk.2
      ·cases hx
     ·rename_i gr m rs xs hn;split at hx
      ·rename_i qE;subst qE;split at hx
       ·rename_i el lm;exact ajd r rfl hd c1 c2 hi c3.1 c3.2 hp hv hl hn lm hx
       ·cases hx
      ·cases hx
     ·cases hx
    ·cases hx
   ·rename_i n k aB off s i ag vs hp hv;split at hx
    ·rename_i hl;split at hx
     ·rename_i gr rs xs hn;split at hx
      ·rename_i qE;subst qE;split at hx
       ·rename_i ar r8;injection hx with hx;subst hx;exact ajc r rfl hd c1 c2 hi c3.1 c3.2 hp hv hl hn rfl r8
       ·cases hx
      ·cases hx
     ·cases hx
    ·cases hx
   ·cases hx
  ·cases c3
 |pT m=>
  cases op<;>simp only[eU] at hc<;>first|cases hc|skip
  simp only[exec] at hx;split at hx
  ·rename_i n k sz off hp;split at hx
   ·rename_i hn;injection hx with hx;subst hx;rw[<-hp];exact PS r rfl hN hc (.inl ⟨_,_,_,_,hp,hn⟩)
   ·cases hx
  ·rename_i xs off hp;injection hx with hx;subst hx;rw[<-hp];exact PS r rfl hN hc (.inr (.inl ⟨_,_,hp⟩))
  ·rename_i xs off j n s len hp;injection hx with hx;subst hx;rw[<-hp];exact PS r rfl hN hc (.inr (.inr ⟨_,_,_,_,_,_,hp⟩))
  ·cases hx
 |bin yO mx my=>
  cases op<;>simp only[eU] at hc<;>first|cases hc|skip
  simp only[Bool.and_eq_true,decide_eq_true_eq] at hc;obtain⟨⟨rfl,c1⟩,c2⟩:=hc;simp only[exec] at hx;split at hx
  ·rename_i c hb;injection hx with hx;subst hx;exact aiC r rfl hN c1 c2 hb
  ·cases hx
 |nE yO mx my=>
  cases op<;>simp only[eU] at hc<;>first|cases hc|skip
  simp only[Bool.and_eq_true,decide_eq_true_eq] at hc;obtain⟨⟨⟨rfl,c1⟩,c2⟩,c3⟩:=hc;unfold aaK at c3;split at c3
  ·rename_i ht;simp only[exec] at hx;split at hx
   ·rename_i c hb;injection hx with hx;subst hx;exact aiD r rfl hN c1 c2 ht hb
   ·cases hx
  ·cases c3
 |un yO mx=>
  cases op<;>simp only[eU] at hc<;>first|cases hc|skip
  simp only[Bool.and_eq_true,decide_eq_true_eq] at hc;obtain⟨rfl,c1⟩:=hc;simp only[exec] at hx;split at hx
  ·rename_i c hb;injection hx with hx;subst hx;exact ajf r rfl hN c1 hb
  ·cases hx
 |conv k mx=>
  cases op<;>simp only[eU] at hc<;>first|cases hc|skip
  simp only[Bool.and_eq_true] at hc;obtain⟨c1,c2⟩:=hc;unfold Xc at c2;split at c2
  ·rename_i d k' ht hu;have hk:k=k':=by simpa using c2
   subst hk;simp only[exec] at hx;split at hx
   ·rename_i k2 n hb;injection hx with hx;subst hx;exact aiP r rfl hN c1 ht hu hb
   ·cases hx
  ·cases c2
 |iJ m sz by_ zs ml mc=>
  cases op<;>simp only[eU] at hc<;>first|cases hc|skip
  simp only[Bool.and_eq_true] at hc;obtain⟨⟨c1,c2⟩,c3⟩:=hc;obtain⟨e,i,z,h1,h2,h3,h4,h5,h6⟩:=ul c3;simp only[Bool.and_eq_true,beq_iff_eq,decide_eq_true_eq] at h6;simp only[exec] at hx;split at hx
  ·rename_i n q q' hq eV;split at hx
   ·rename_i cR;obtain⟨k1,k2,k3,k4⟩:=cR;split at hx
    ·rename_i σ1 hi;injection hx with hx;subst hx;exact ai2 r rfl rfl (hN _ rfl) c1 c2 h1 h2 h3 h4 h6.1.1 h6.1.2 h5 h6.2 hq eV k1 k2 k3 k4 hi
    ·cases hx
   ·cases hx
  ·cases hx
 |slice sz mx LI LG=>
  cases op<;>simp only[eU] at hc<;>first|cases hc|skip
  rename_i t x lo hi mm;cases mm<;>simp only[eU] at hc<;>first|cases hc|skip
  simp only[Bool.and_eq_true] at hc;obtain⟨⟨⟨c1,c2⟩,c3⟩,c4⟩:=hc;obtain⟨e,i,z,h1,h2,h3,h4,h5,_⟩:=ul c4;have qz:∀l,(match LI with|none=>some 0|some l=>(σ.ev l).dV)=some l->(lo=none/\l=0)\/∃y my,lo=some y/\bT y my=true/\(σ.ev my).dV=some l:=by
   intro l hl;cases LI with
   |none=>cases lo<;>simp[CD] at c2;simp at hl;exact .inl ⟨rfl,hl.symm⟩
   |some my=>cases lo<;>simp[CD] at c2;exact .inr ⟨_,my,rfl,c2,hl⟩
  have wb:∀(len:Nat) hh,(match LG with|none=>some (len:Int)|some h=>(σ.ev h).dV)=some hh->(hi=none/\hh=len)\/∃y my,hi=some y/\bT y my=true/\(σ.ev my).dV=some hh:=by
   intro len l hl;cases LG with
   |none=>cases hi<;>simp[CD] at c3;simp at hl;exact .inl ⟨rfl,hl.symm⟩
   |some my=>cases hi<;>simp[CD] at c3;exact .inr ⟨_,my,rfl,c3,hl⟩
  simp only[exec] at hx;split at hx
  ·rename_i n s l0 len l hp hl;split at hx
   ·rename_i hh QN;split at hx
    ·rename_i cR;obtain⟨rfl,k1,k2,k3,k4⟩:=cR;injection hx with hx;subst hx;exact X4 r rfl hN c1 h1 h2 h4 h5 (qz l hl) (wb len hh QN) k1 k2 k3 (.inl ⟨n,l0,hp,k4,rfl⟩)
    ·cases hx
   ·cases hx
  ·rename_i s xs l hp hl;split at hx
   ·rename_i hh QN;split at hx
    ·rename_i cR;obtain⟨rfl,k1,k2,k3⟩:=cR;injection hx with hx;subst hx;exact X4 r rfl hN c1 h1 h2 h4 h5 (qz l hl) (wb xs.length hh QN) k1 k2 k3 (.inr ⟨xs,hp,rfl,rfl⟩)
    ·cases hx
   ·cases hx
  ·cases hx
 |tail sz mx ml=>
  cases op<;>simp[eU] at hc
 |nN off mx=>
  cases op<;>simp only[eU] at hc<;>first|cases hc|skip
  simp only[Bool.and_eq_true] at hc;simp only[exec] at hx;split at hx
  ·rename_i n k sz q hp;split at hx
   ·rename_i hn;injection hx with hx;subst hx;exact PQ r rfl hN hc.1 hc.2 (.inl ⟨_,_,_,_,hp,hn,rfl⟩)
   ·cases hx
  ·rename_i xs q hp;injection hx with hx;subst hx;exact PQ r rfl hN hc.1 hc.2 (.inr (.inl ⟨_,_,hp,rfl⟩))
  ·rename_i xs q j n s len hp;injection hx with hx;subst hx;exact PQ r rfl hN hc.1 hc.2 (.inr (.inr ⟨_,_,_,_,_,_,hp,rfl⟩))
  ·cases hx
 |nj sz mx mi=>
  cases op<;>simp only[eU] at hc<;>first|cases hc|skip
  simp only[Bool.and_eq_true] at hc;obtain⟨⟨c1,c2⟩,c3⟩:=hc;obtain⟨e,i,z,h1,h2,h3,h4,h5,_⟩:=ul c3;simp only[exec] at hx;split at hx
  ·rename_i n s lo len k hp hk;split at hx
   ·rename_i cR;obtain⟨rfl,k1,k2,k3⟩:=cR;injection hx with hx;subst hx;exact XX r rfl hN c1 c2 h1 h2 h4 hk k1 (.inl ⟨_,_,_,hp,k2,k3,rfl⟩)
   ·cases hx
  ·rename_i s xs k hp hk;split at hx
   ·rename_i cR;obtain⟨rfl,k1⟩:=cR;split at hx
    ·rename_i el lm;injection hx with hx;subst hx;exact XX r rfl hN c1 c2 h1 h2 h4 hk k1 (.inr ⟨_,_,hp,lm,rfl⟩)
    ·cases hx
   ·cases hx
  ·rename_i n kk aB off s len k hp hk;split at hx
   ·rename_i s' ys Gr;split at hx
    ·rename_i cR;obtain⟨rfl,k1,k2⟩:=cR;injection hx with hx;subst hx;exact aiZ r rfl hN c1 c2 h1 h2 h4 hk k1 k2 hp Gr
    ·cases hx
   ·cases hx
  ·cases hx
 |ext i mx=>
  cases op<;>simp only[eU] at hc<;>first|cases hc|skip
  simp only[Bool.and_eq_true,beq_iff_eq] at hc;obtain⟨rfl,c1⟩:=hc;simp only[exec] at hx;split at hx
  ·rename_i xs hp;split at hx
   ·rename_i ag cs fc;injection hx with hx;subst hx;refine aiY r rfl hN c1 hp fc fun cb=>?_;subst cb;obtain⟨y1,_⟩:=r.ev c1;rw[hp] at y1;obtain⟨vs,_,hl,hv⟩:=y1;have hi:i<vs.length:=by rw[hl];exact(List.getElem?_eq_some_iff.1 fc).1
    have:dh w G σ.h cs [vs[i]]:=hv i (false,cs) vs[i] fc (List.getElem?_eq_getElem hi);exact List.length_eq_one_iff.1 this.1.symm
   ·cases hx
  ·cases hx
 |rM ag off sz mx=>
  cases op<;>simp[eU] at hc
 |re f gm mx=>
  cases op<;>simp[eU] at hc
 |len mx=>
  cases op<;>simp only[eU] at hc<;>first|cases hc|skip
  rename_i c;obtain⟨callee,args,argTypes⟩:=c;split at hc
  ·rename_i x t cv ha ht;simp only at cv ha ht;subst cv;have vT:args=#[x]:=by apply Array.ext';exact ha
   have Gp:argTypes=#[t]:=by apply Array.ext';exact ht
   subst vT Gp;simp only[Bool.and_eq_true] at hc;obtain⟨c1,c2⟩:=hc;split at c2
   ·rename_i e hu;simp only[exec] at hx;split at hx
    ·rename_i n sz lo len hp;split at hx
     ·rename_i hn;injection hx with hx;subst hx;exact Kl r rfl hN c1 hu (.inl ⟨_,_,_,hp,hn⟩)
     ·cases hx
    ·rename_i sz xs hp;injection hx with hx;subst hx;exact Kl r rfl hN c1 hu (.inr (.inl ⟨_,_,hp,rfl⟩))
    ·rename_i sz hp;injection hx with hx;subst hx;exact Kl r rfl hN c1 hu (.inr (.inr (.inl ⟨_,hp,rfl⟩)))
    ·rename_i n k aB off sz len hp;split at hx
     ·rename_i s ys pG;injection hx with hx;subst hx;exact Kl r rfl hN c1 hu (.inr (.inr (.inr ⟨_,_,_,_,_,_,_,_,hp,pG,rfl⟩)))
     ·cases hx
    ·cases hx
   ·cases c2
  ·cases hc
 |append fl sz by_ mx my=>
  cases op<;>simp only[eU] at hc<;>first|cases hc|skip
  rename_i c;obtain⟨callee,args,argTypes⟩:=c;split at hc
  ·rename_i x y t t' cv ha ht;simp only at cv ha ht;subst cv;have vT:args=#[x,y]:=by apply Array.ext';exact ha
   have Gp:argTypes=#[t,t']:=by apply Array.ext';exact ht
   subst vT Gp;simp only[Bool.and_eq_true,beq_iff_eq] at hc;obtain⟨⟨⟨rfl,c1⟩,c2⟩,c3⟩:=hc;obtain⟨e,i,z,h1,h2,h3,h4,h5,h6⟩:=ul c3;simp only[Bool.and_eq_true,beq_iff_eq,decide_eq_true_eq] at h6;simp only[exec] at hx;split at hx
   ·cases hx
   ·rename_i n;split at hx
    ·cases hx
    ·rename_i xs m σ1 hl;split at hx
     ·cases hx
     ·rename_i ys m2 σ2 hr;split at hx
      ·rename_i hb;split at hx
       ·rename_i gK hi;injection hx with hx;subst hx;exact aiB r rfl rfl (hN _ rfl) c1 c2 h1 h2 h3 h4 h5 h6.1.1 h6.1.2 h6.2 hl hr hb hi
       ·cases hx
      ·cases hx
  ·cases hc
 |copy sz mx my=>
  cases op<;>simp[eU] at hc
 |mA zc mx=>
  cases op<;>simp only[eU] at hc<;>first|cases hc|skip
  rename_i c;obtain⟨callee,args,argTypes⟩:=c;split at hc
  ·rename_i x t cv ha ht;simp only at cv ha ht;subst cv;have vT:args=#[x]:=by apply Array.ext';exact ha
   have Gp:argTypes=#[t]:=by apply Array.ext';exact ht
   subst vT Gp;simp only[Bool.and_eq_true] at hc;obtain⟨c1,c3⟩:=hc;obtain⟨e,i,z,h1,h2,h3,h4,h5,h6⟩:=ul c3;simp only[exec] at hx;split at hx
   ·rename_i n s lo len hp;split at hx
    ·rename_i gr m rs xs hn;split at hx
     ·rename_i cR;obtain⟨rfl,rfl,k0,k1,k2,k3⟩:=cR;injection hx with hx;subst hx;exact aiO r rfl hN c1 h1 h2 h3 h6 k0 hp hn k1 k2 k3
     ·cases hx
    ·cases hx
   ·cases hx
  ·cases hc
 |mm b mx my=>
  cases op<;>simp only[eU] at hc<;>first|cases hc|skip
  rename_i c;obtain⟨callee,args,argTypes⟩:=c;have db:∀x y,callee=.builtin (if b=true then .max else .min)->args=#[x,y]->bT x mx=true->bT y my=true->
    Oper.wp P ⟨dst,.call ⟨callee,args,argTypes⟩,ty,pos,after,guard⟩ a w (Nx B E w0 N σ') Q:=by
   intro x y cv ha c1 c2;subst cv ha;simp only[exec] at hx;split at hx
   ·rename_i k n k' m h1 h2;have:=ai3 (P:=P) (Q:=Q) (mx':=b) r (o:=⟨dst,.call ⟨.builtin (if b=true then .max else .min),#[x,y],argTypes⟩,ty,pos,after,guard⟩) rfl hN c1 c2 h1 h2
    cases b
    ·simp at hx this;split at hx<;>(rename_i cj;injection hx with hx;subst hx;simpa[cj] using this)
    ·simp at hx this;split at hx<;>(rename_i cj;injection hx with hx;subst hx;simpa[cj] using this)
   ·cases hx
  split at hc
  ·rename_i x y cv ha;simp only[Bool.and_eq_true] at hc;obtain⟨⟨rfl,c1⟩,c2⟩:=hc;exact db x y cv (by apply Array.ext';exact ha) c1 c2
  ·rename_i x y cv ha;simp only[Bool.and_eq_true,Bool.not_eq_true'] at hc;obtain⟨⟨rfl,c1⟩,c2⟩:=hc;exact db x y cv (by apply Array.ext';exact ha) c1 c2
  ·cases hc
 |call m f ms=>
  cases op<;>simp only[eU] at hc<;>first|cases hc|skip
  rename_i c;obtain⟨callee,args,argTypes⟩:=c;split at hc
  ·rename_i g cv;simp only at cv;subst cv;simp only[Bool.and_eq_true,beq_iff_eq] at hc;obtain⟨⟨rfl,c1⟩,c2⟩:=hc;exact aiJ r hT hN rfl c1 c2 hx
  ·cases hc
 |oF f ms=>
  cases op<;>simp[eU] at hc
 |hZ m f ms=>
  cases op<;>simp only[eU] at hc<;>first|cases hc|skip
  rename_i c;obtain⟨callee,args,argTypes⟩:=c;split at hc
  ·rename_i g cv;simp only at cv;subst cv;simp only[Bool.and_eq_true,beq_iff_eq] at hc;obtain⟨⟨rfl,c1⟩,c2⟩:=hc;simp only[exec] at hx;exact aiK r ZO hN rfl c1 c2 hx
  ·cases hc
 |ki f ms=>exact ai5 r C3 hN hc hx
 |nG f ms=>exact ai7 r C4 hN hc hx
 |mr f ms=>exact ai6 r C3 hN hc hx
 |nH m f ms=>exact ai8 r C4 hN hc hx
 |pq m f mx ms=>
  cases op<;>simp only[eU] at hc<;>first|cases hc|skip
  rename_i c;obtain⟨callee,args,argTypes⟩:=c;split at hc
  ·rename_i t cv;simp only at cv;subst cv;simp only[Bool.and_eq_true] at hc;simp only[exec] at hx;split at hx
   ·rename_i g cK hp;split at hx
    ·rename_i hg;subst hg;exact aiL r ZO hN rfl hc.1.1 hc.1.2 hc.2 hp hx
    ·cases hx
   ·cases hx
  ·cases hc
 |sj f ms=>
  cases op<;>simp[eU] at hc
 |oG m mx ms=>
  cases op<;>simp[eU] at hc
end
def aU.eY:aU->Nat
 |.mv _|.pick ..|.build ..|.bin ..|.nE ..|.un ..|.conv ..|.ext ..|.rM ..|.mm ..|.sj ..=>0
 |.alloc _|.box ..|.load ..|.pT _|.iJ ..|.slice ..|.nN ..|.nj ..|.len _|.re ..|.call ..|.oG ..|.oF ..|.nG ..|.mr ..=>1
 |_=>2
def St.dB (σ:St):List (Nat×aq)->Option St
 |[]=>some σ
 |(n,b)::l=>match σ.ins n b with
  |some σ1=>σ1.dB l
  |none=>none
def jl (m:Mode):Nat->List C->List ah×Nat×List (Nat×aq)
 |nm,[]=>([],nm,[])
 |nm,.list sz xs::cs=>(.sl nm sz 0 xs.length::(jl m (nm+1) cs).1,(jl m (nm+1) cs).2.1,(nm,.row m.tA m sz xs)::(jl m (nm+1) cs).2.2)
 |nm,x::cs=>(.c x::(jl m nm cs).1,(jl m nm cs).2.1,(jl m nm cs).2.2)
def yt (m:Mode):Nat->List Dv->Option (List (Bool×List ah)×List (Nat×aq))
 |_,[]=>some ([],[])
 |nm,(.ptr,_)::_=>none
 |nm,(k,cs)::ds=>match yt m (jl m nm cs).2.1 ds with
  |some (ls,bs)=>some ((decide (k=.agg),(jl m nm cs).1)::ls,(jl m nm cs).2.2++bs)
  |none=>none
theorem aaF (σ:St) (l l':List (Nat×aq)):σ.dB (l++l')=(σ.dB l).bind fun σ1=>σ1.dB l':=by
 induction l generalizing σ with
 |nil=>rfl
 |cons x l ih=>
  obtain⟨n,b⟩:=x;simp only[List.cons_append,St.dB];cases σ.ins n b with
  |none=>rfl
  |some σ1=>exact ih σ1
theorem Lg (m:Mode):∀(cs:List C) (σ:St) (nm:Nat),σ.imp m nm cs=(σ.dB (jl m nm cs).2.2).map fun σ1=>((jl m nm cs).1,(jl m nm cs).2.1,σ1)
 |[],σ,nm=>rfl
 |.list sz xs::cs,σ,nm=>by
  simp only[St.imp,jl,St.dB];cases σ.ins nm (.row m.tA m sz xs) with
  |none=>rfl
  |some σ1=>
   simp only[Lg m cs];cases σ1.dB (jl m (nm+1) cs).2.2<;>rfl
 |.int k n::cs,σ,nm=>by
  simp only[St.imp,jl,Lg m cs];cases σ.dB (jl m nm cs).2.2<;>rfl
 |.bool b::cs,σ,nm=>by
  simp only[St.imp,jl,Lg m cs];cases σ.dB (jl m nm cs).2.2<;>rfl
theorem RN (m:Mode):∀(ds:List Dv) (σ:St) (nm:Nat),σ.jE m nm ds=(yt m nm ds).bind fun x=>(σ.dB x.2).map fun σ1=>(x.1,σ1)
 |[],σ,nm=>rfl
 |(k,cs)::ds,σ,nm=>by
  have db:(match σ.imp m nm cs with
    |some (l,gu,σ1)=>match σ1.jE m gu ds with
     |some (ls,σ2)=>some ((decide (k=K.agg),l)::ls,σ2)
     |none=>none
    |none=>none)=(match yt m (jl m nm cs).2.1 ds with
    |some (ls,bs)=>some ((decide (k=K.agg),(jl m nm cs).1)::ls,(jl m nm cs).2.2++bs)
    |none=>none).bind fun x=>(σ.dB x.2).map fun σ1=>(x.1,σ1):=by
   rw[Lg];have ih:=fun(σ1:St)=>RN m ds σ1 (jl m nm cs).2.1;cases h1:σ.dB (jl m nm cs).2.2 with
   |none=>
    cases h2:yt m (jl m nm cs).2.1 ds with
    |none=>rfl
    |some x=>simp[aaF,h1]
   |some σ1=>
    simp only[Option.map_some,ih];cases h2:yt m (jl m nm cs).2.1 ds with
    |none=>rfl
    |some x=>
     simp[aaF,h1];cases σ1.dB x.2<;>rfl
  cases k with
  |ptr=>rfl
  |one=>exact db
  |agg=>exact db
def Cu (T:aN) (m:Mode) (d:Option Nat) (f:FuncId) (as:List aj) (h:Nat->Option aq):Option (aj×List (Nat×aq)):=
 match kU h as with
 |some ds=>match aN.find T.pure f with
  |some M=>match M ds with
   |some rs=>match yt m (jI d) rs with
    |some (ls,bs)=>some (lZ ls,bs)
    |none=>none
   |none=>none
  |none=>none
 |none=>none
def abt (vs:List aj) (f:FuncId):Option aj:=
 match vs.mapM (fun v=>match v with|.one c=>if c.jW=true then none else some c|_=>none) with
 |some cs=>if cs.all ah.LY=true then some (.one (.fn f cs)) else none
 |none=>none
def rd (T:aN) (d:Option Nat) (op:aU) (ev:MO->aj) (h:Nat->Option aq):Option (aj×List (Nat×aq)):=
 match op with
 |.mv x=>some (ev x,[])
 |.pick c x y=>match ev c with
  |.one (.c (.bool b))=>if b=true then some (ev x,[]) else some (ev y,[])
  |_=>none
 |.build zs parts=>match rh ev zs parts with
  |some cs=>some (.agg cs,[])
  |none=>none
 |.bin op x y=>match xH op (ev x) (ev y) with
  |some c=>some (.one (.c c),[])
  |none=>none
 |.nE op x y=>match Cq op (ev x) (ev y) with
  |some c=>some (.one (.c c),[])
  |none=>none
 |.un op x=>match EI op (ev x) with
  |some c=>some (.one (.c c),[])
  |none=>none
 |.conv k x=>match ev x with
  |.one (.c (.int _ n))=>some (.one (.c (.int k (k.wrap n))),[])
  |_=>none
 |.ext i x=>match ev x with
  |.bH xs=>match xs[i]? with
   |some (ag,cs)=>some (ov ag cs,[])
   |none=>none
  |_=>none
 |.rM ag off sz x=>match ev x with
  |.agg cs=>match sub cs off sz with
   |some l=>some (ov ag l,[])
   |none=>none
  |_=>none
 |.re f gm x=>match ev x with
  |.one (.sl n sz lo len)=>if(h n).isSome=true then some (.agg (Be gm len (.sl n sz lo len)),[]) else none
  |.one (.c (.list sz xs))=>some (.agg (Be gm xs.length (.c (.list sz xs))),[])
  |.one (.nil sz)=>some (.agg (Be gm 0 (.nil sz)),[])
  |_=>none
 |.mm mx x y=>match ev x,ev y with
  |.one (.c (.int k a)),.one (.c (.int k' b))=>if mx=true then(if a<b then some (.one (.c (.int k b)),[]) else some (.one (.c (.int k a)),[]))
   else(if b<a then some (.one (.c (.int k b)),[]) else some (.one (.c (.int k a)),[]))
  |_,_=>none
 |.sj f xs=>match abt (xs.map ev) f with
  |some v=>some (v,[])
  |none=>none
 |.alloc zs=>match d with
  |some n=>some (.one (.ptr n 0 0 0),[(n,.box zs)])
  |none=>none
 |.box sz x=>match d,(ev x).cells? with
  |some n,some (_,cs)=>if cs.length=sz then some (.one (.ptr n 0 0 0),[(n,.box cs)]) else none
  |_,_=>none
 |.load ag sz x=>match ev x with
  |.one p=>match loadAt h p sz with
   |some cs=>some (ov ag cs,[])
   |none=>none
  |_=>none
 |.pT x=>match ev x with
  |.one (.ptr n k sz off)=>if(h n).isSome=true then some (.one (.ptr n k sz off),[]) else none
  |.one (.de xs off)=>some (.one (.de xs off),[])
  |.one (.cE xs off j n s len)=>some (.one (.cE xs off j n s len),[])
  |_=>none
 |.iJ m sz by_ zs l c=>match d,(ev l).dV,(ev c).dV with
  |some n,some a,some b=>if a<=b/\0<=a/\b.toNat*by_<=dR/\zs.length=sz then
   some (.one (.sl n sz 0 a.toNat),[(n,.row true m sz (List.replicate a.toNat zs))])
   else none
  |_,_,_=>none
 |.slice sz x lo hi=>
  let Ss:Option Int:=match lo with|none=>some 0|some l=>(ev l).dV
  match ev x,Ss with
  |.one (.sl n s l0 len),some l=>
   match(match hi with|none=>some (len:Int)|some h=>(ev h).dV) with
   |some hh=>if s=sz/\0<=l/\l<=hh/\hh<=len/\(h n).isSome=true then some (.one (.sl n s (l0+l.toNat) (hh - l).toNat),[]) else none
   |none=>none
  |.one (.c (.list s xs)),some l=>
   match(match hi with|none=>some (xs.length:Int)|some h=>(ev h).dV) with
   |some hh=>if s=sz/\0<=l/\l<=hh/\hh<=xs.length then some (.one (.c (.list s ((xs.drop l.toNat).take (hh - l).toNat))),[]) else none
   |none=>none
  |_,_=>none
 |.nN off x=>match ev x with
  |.one (.ptr n k sz o)=>if(h n).isSome=true then some (.one (.ptr n k sz (o+off)),[]) else none
  |.one (.de xs o)=>some (.one (.de xs (o+off)),[])
  |.one (.cE xs o j n s len)=>some (.one (.cE xs (o+off) j n s len),[])
  |_=>none
 |.nj sz x i=>match ev x,(ev i).dV with
  |.one (.sl n s lo len),some k=>if s=sz/\0<=k/\k<len/\(h n).isSome=true then some (.one (.ptr n (lo+k.toNat) s 0),[]) else none
  |.one (.c (.list s xs)),some k=>if s=sz/\0<=k then
   match xs[k.toNat]? with
   |some e=>some (.one (.de e 0),[])
   |none=>none
   else none
  |.one (.bw n kk aB off s len),some k=>match cO h (.bw n kk aB off s len) with
   |some (.list s' ys)=>if s'=sz/\0<=k/\k<ys.length then some (.one (.cY n kk aB off sz k.toNat),[]) else none
   |_=>none
  |_,_=>none
 |.len x=>match ev x with
  |.one (.sl n sz lo len)=>if(h n).isSome=true then some (.one (.c (.int .i64 len)),[]) else none
  |.one (.c (.list sz xs))=>some (.one (.c (.int .i64 xs.length)),[])
  |.one (.nil sz)=>some (.one (.c (.int .i64 0)),[])
  |.one (.bw n k aB off sz len)=>match cO h (.bw n k aB off sz len) with
   |some (.list s ys)=>some (.one (.c (.int .i64 ys.length)),[])
   |_=>none
  |_=>none
 |.call m f xs=>Cu T m d f (xs.map ev) h
 |.oF f xs=>(Cv T f (xs.map ev) h).map fun v=>(v,[])
 |.nG f xs=>(qk T f (xs.map ev) h).map fun v=>(v,[])
 |.mr f xs=>(zQ T f (xs.map ev)).map fun v=>(v,[])
 |.oG m x xs=>match ev x with
  |.one (.fn f cK)=>Cu T m d f (xs.map ev++cK.map .one) h
  |_=>none
 |_=>none
def gV (d:Option Nat) (σ:St) (x:aj×List (Nat×aq)):Option St:=(σ.dB x.2).map (·.put d x.1)
theorem XE (T:aN) (m:Mode) (d:Option Nat) (f:FuncId) (as:List aj) (σ:St):vL T m d f as σ=(Cu T m d f as σ.h).bind (gV d σ):=by
 unfold vL Cu;cases kU σ.h as with
 |none=>rfl
 |some ds=>
  simp only
  cases aN.find T.pure f with
  |none=>rfl
  |some M=>
   simp only
   cases M ds with
   |none=>rfl
   |some rs=>
    simp only[RN];cases yt m (jI d) rs with
    |none=>rfl
    |some x=>
     simp only[Option.bind_some,gV];cases σ.dB x.2<;>rfl
theorem ql (T:aN) (d:Option Nat) (op:aU) (σ:St) (hc:op.eY<=1):exec T d op σ=(rd T d op σ.ev σ.h).bind (gV d σ):=by
 cases op<;>simp only[aU.eY] at hc<;>first|omega|skip
 case call m f xs=>exact XE _ _ _ _ _ _
 case oF f xs=>
  simp only[exec,rd];cases Cv T f (xs.map σ.ev) σ.h with
  |none=>rfl
  |some v=>rfl
 case nG f xs=>
  simp only[exec,rd];cases qk T f (xs.map σ.ev) σ.h with
  |none=>rfl
  |some v=>rfl
 case mr f xs=>
  simp only[exec,rd];cases zQ T f (xs.map σ.ev) with
  |none=>rfl
  |some v=>rfl
 case oG m x xs=>
  simp only[exec,rd];split
  ·rename_i f cK h1;simp only[h1];exact XE _ _ _ _ _ _
  ·rename_i cg;split
   ·rename_i f cK h1;exact absurd h1 (cg f cK)
   ·rfl
 case alloc zs=>
  simp only[exec,rd];split
  ·rename_i n;simp only[Option.bind_some,gV,St.dB];cases σ.ins n (.box zs)<;>rfl
  ·rfl
 case box sz x=>
  simp only[exec,rd];split
  ·rename_i n ag cs h1;simp only[h1];split
   ·simp only[Option.bind_some,gV,St.dB];cases σ.ins n (.box cs)<;>rfl
   ·rfl
  ·rename_i cg;split
   ·rename_i n ag cs h1;exact absurd h1 (cg n ag cs rfl)
   ·rfl
 case iJ m sz by_ zs l c=>
  simp only[exec,rd];split
  ·rename_i n a b h1 h2;simp only[h1,h2];split
   ·simp only[Option.bind_some,gV,St.dB];cases σ.ins n (.row true m sz (List.replicate a.toNat zs))<;>rfl
   ·rfl
  ·rename_i cg;split
   ·rename_i n a b h1 h2;exact absurd h2 (cg n a b rfl h1)
   ·rfl
 case sj f xs=>
  simp only[exec,rd,abt];cases (xs.map σ.ev).mapM (fun v=>match v with|.one c=>if c.jW=true then none else some c|_=>none) with
  |none=>rfl
  |some cs=>
   simp only
   split<;>rfl
 case mv x=>rfl
 case pick c x y=>
  simp only[exec,rd];generalize σ.ev c=v;cases v with
  |one v=>cases v with
   |c v=>cases v with
    |bool b=>cases b<;>rfl
    |_=>rfl
   |_=>rfl
  |_=>rfl
 case build zs ps=>simp only[exec,rd];cases rh σ.ev zs ps<;>rfl
 case bin op x y=>simp only[exec,rd];cases xH op (σ.ev x) (σ.ev y)<;>rfl
 case nE op x y=>simp only[exec,rd];cases Cq op (σ.ev x) (σ.ev y)<;>rfl
 case un op x=>simp only[exec,rd];cases EI op (σ.ev x)<;>rfl
 case conv k x=>
  simp only[exec,rd];generalize σ.ev x=v;cases v with
  |one v=>cases v with
   |c v=>cases v<;>rfl
   |_=>rfl
  |_=>rfl
 case ext i x=>
  simp only[exec,rd];generalize σ.ev x=v;cases v with
  |bH xs=>
   simp only
   cases xs[i]? <;>rfl
  |_=>rfl
 case rM ag off sz x=>
  simp only[exec,rd];generalize σ.ev x=v;cases v with
  |agg cs=>
   simp only
   cases sub cs off sz<;>rfl
  |_=>rfl
 case re f gm x=>
  simp only[exec,rd];generalize σ.ev x=v;cases v with
  |one v=>cases v with
   |sl n sz lo len=>simp only;split<;>rfl
   |c v=>cases v<;>rfl
   |_=>rfl
  |_=>rfl
 case mm b x y=>
  simp only[exec,rd];generalize σ.ev x=v;generalize σ.ev y=u;cases v with
  |one v=>cases v with
   |c v=>cases v with
    |int k a=>cases u with
     |one u=>cases u with
      |c u=>cases u with
       |int k' a'=>
        simp only
        cases b
        ·simp only[Bool.false_eq_true,if_false];split<;>rfl
        ·simp only[if_true];split<;>rfl
       |_=>rfl
      |_=>rfl
     |_=>rfl
    |_=>rfl
   |_=>rfl
  |_=>rfl
 case load ag sz x=>
  simp only[exec,rd];generalize σ.ev x=v;cases v with
  |one v=>
   simp only
   cases loadAt σ.h v sz<;>rfl
  |_=>rfl
 case pT x=>
  simp only[exec,rd];generalize σ.ev x=v;cases v with
  |one v=>cases v with
   |ptr n k sz off=>simp only;split<;>rfl
   |_=>rfl
  |_=>rfl
 case nN off x=>
  simp only[exec,rd];generalize σ.ev x=v;cases v with
  |one v=>cases v with
   |ptr n k sz off=>simp only;split<;>rfl
   |_=>rfl
  |_=>rfl
 case len x=>
  simp only[exec,rd];generalize σ.ev x=v;cases v with
  |one v=>cases v with
   |sl n sz lo len=>simp only;split<;>rfl
   |c v=>cases v<;>rfl
   |bw n k aB off sz len=>
    simp only
    cases cO σ.h (.bw n k aB off sz len) with
    |none=>rfl
    |some y=>cases y<;>rfl
   |_=>rfl
  |_=>rfl
 case nj sz x i=>
  simp only[exec,rd];generalize σ.ev x=v;generalize (σ.ev i).dV=u;cases v with
  |one v=>cases v with
   |sl n s lo len=>cases u with
    |none=>rfl
    |some k=>simp only;split<;>rfl
   |c v=>cases v with
    |list s xs=>cases u with
     |none=>rfl
     |some k=>
      simp only
      split
      ·cases xs[k.toNat]? <;>rfl
      ·rfl
    |_=>rfl
   |bw n k aB off s len=>
    cases u with
    |none=>rfl
    |some q=>
     simp only
     cases cO σ.h (.bw n k aB off s len) with
     |none=>rfl
     |some y=>cases y with
      |list s' ys=>simp only;split<;>rfl
      |_=>rfl
   |_=>rfl
  |_=>rfl
 case slice sz x lo hi=>
  cases lo with
  |none=>
   cases hi with
   |none=>
    simp only[exec,rd];generalize σ.ev x=v;cases v with
    |one v=>cases v with
     |sl n s l0 len=>simp only;split<;>rfl
     |c v=>cases v with
      |list s xs=>simp only;split<;>rfl
      |_=>rfl
     |_=>rfl
    |_=>rfl
   |some hi=>
    simp only[exec,rd];generalize σ.ev x=v;generalize (σ.ev hi).dV=q;cases q with
    |none=>
     cases v with
     |one v=>cases v with
      |c v=>cases v<;>rfl
      |_=>rfl
     |_=>rfl
    |some q=>
     cases v with
     |one v=>cases v with
      |sl n s l0 len=>simp only;split<;>rfl
      |c v=>cases v with
       |list s xs=>simp only;split<;>rfl
       |_=>rfl
      |_=>rfl
     |_=>rfl
  |some lo=>
   cases hi with
   |none=>
    simp only[exec,rd];generalize σ.ev x=v;generalize (σ.ev lo).dV=u;cases u with
    |none=>
     cases v with
     |one v=>cases v with
      |c v=>cases v<;>rfl
      |_=>rfl
     |_=>rfl
    |some u=>
     cases v with
     |one v=>cases v with
      |sl n s l0 len=>simp only;split<;>rfl
      |c v=>cases v with
       |list s xs=>simp only;split<;>rfl
       |_=>rfl
      |_=>rfl
     |_=>rfl
   |some hi=>
    simp only[exec,rd];generalize σ.ev x=v;generalize (σ.ev lo).dV=u;generalize (σ.ev hi).dV=q;cases u with
    |none=>
     cases v with
     |one v=>cases v with
      |c v=>cases v<;>rfl
      |_=>rfl
     |_=>rfl
    |some u=>
     cases q with
     |none=>
      cases v with
      |one v=>cases v with
       |c v=>cases v<;>rfl
       |_=>rfl
      |_=>rfl
     |some q=>
      cases v with
      |one v=>cases v with
       |sl n s l0 len=>simp only;split<;>rfl
       |c v=>cases v with
        |list s xs=>simp only;split<;>rfl
        |_=>rfl
       |_=>rfl
      |_=>rfl
def St.we (σ:St) (e:Nat->aj):St:={σ with env:=e}
def tL (e:Nat->aj) (d:Option Nat) (x:Nat->aj):Nat->aj:=
 match d with
 |some n=>ax e n (x n)
 |none=>e
theorem at8 (σ:St):σ.we σ.env=σ:=rfl
theorem tD (σ:St) (e:Nat->aj) (d:Option Nat) (v:aj):(σ.we e).put d v=(σ.put d v).we (tL e d (σ.put d v).env):=by
 cases d with
 |none=>rfl
 |some n=>simp[St.put,St.we,tL,bO]
theorem GA (σ:St) (e:Nat->aj) (n:Nat) (b:aq):(σ.we e).ins n b=(σ.ins n b).map (·.we e):=by
 unfold St.ins;by_cases h:σ.used n=true
 ·rw[if_pos h,if_pos (show(σ.we e).used n=true from h)];rfl
 ·rw[if_neg h,if_neg (show¬(σ.we e).used n=true from h)];rfl
theorem AF:∀(l:List (Nat×aq)) (σ:St) (e:Nat->aj),(σ.we e).dB l=(σ.dB l).map (·.we e)
 |[],σ,e=>rfl
 |(n,b)::l,σ,e=>by
  simp only[St.dB,GA];cases σ.ins n b with
  |none=>rfl
  |some σ1=>exact AF l σ1 e
theorem atS (σ:St) (e:Nat->aj) (c:ah):(σ.we e).fR c=(σ.fR c).map fun x=>(x.1,x.2.1,x.2.2.we e):=by
 cases c with
 |c x=>rfl
 |nil sz=>simp only[St.fR];split<;>rfl
 |sl n sz lo len=>
  have:(σ.we e).h n=σ.h n:=rfl;simp only[St.fR,this];cases σ.h n with
  |none=>rfl
  |some b=>cases b with
   |box cs=>rfl
   |row gr m rs xs=>simp only;split<;>rfl
 |_=>rfl
theorem HV:∀(cs:List ah) (σ:St) (e:Nat->aj),(σ.we e).gw cs=(σ.gw cs).map fun x=>(x.1,x.2.1,x.2.2.we e)
 |[],σ,e=>rfl
 |c::cs,σ,e=>by
  simp only[St.gw,atS];cases σ.fR c with
  |none=>rfl
  |some x=>
   obtain⟨x,o,σ1⟩:=x;simp only[Option.map_some,HV cs σ1 e];cases σ1.gw cs<;>rfl
theorem akw (σ:St) (e:Nat->aj) (p:ah):(σ.we e).uw p=(σ.uw p).map (·.we e):=by
 cases p with
 |ptr n k sz off=>
  have h3:(σ.we e).h=σ.h:=rfl;simp only[St.uw,h3];cases σ.h n with
  |none=>rfl
  |some b=>
   cases b with
   |row gr m rs xs=>rfl
   |box cs=>
    simp only[HV];cases σ.gw cs with
    |none=>rfl
    |some x=>rfl
 |_=>rfl
theorem agv (sz:Nat):∀(vs:List aj) (σ:St) (e:Nat->aj),(σ.we e).mS sz vs=(σ.mS sz vs).map fun x=>(x.1,x.2.1,x.2.2.we e)
 |[],σ,e=>rfl
 |v::vs,σ,e=>by
  simp only[St.mS];cases v.cells? with
  |none=>rfl
  |some x=>
   obtain⟨ag,cs⟩:=x;simp only
   split
   ·simp only[HV];cases σ.gw cs with
    |none=>rfl
    |some y=>
     obtain⟨y,o,σ1⟩:=y;simp only[Option.map_some,agv sz vs σ1 e];cases σ1.mS sz vs<;>rfl
   ·rfl
theorem aha (σ:St) (e:Nat->aj) (sz:Nat) (v:aj):rv (σ.we e) sz v=(rv σ sz v).map fun x=>(x.1,x.2.1,x.2.2.we e):=by
 cases v with
 |one v=>cases v with
  |sl a s lo len=>cases lo with
   |zero=>
    have:(σ.we e).h a=σ.h a:=rfl;simp only[rv,this];cases σ.h a with
    |none=>rfl
    |some b=>cases b with
     |box cs=>rfl
     |row gr m rs xs=>cases gr with
      |true=>simp only;split<;>rfl
      |false=>rfl
   |succ lo=>rfl
  |_=>rfl
 |_=>rfl
theorem ahc (fl:Bool) (σ:St) (e:Nat->aj) (sz:Nat) (m:Mode) (v:aj):mq fl (σ.we e) sz m v=(mq fl σ sz m v).map fun x=>(x.1,x.2.1,x.2.2.we e):=by
 cases v with
 |one v=>cases v with
  |sl b s lo len=>
   have:(σ.we e).h b=σ.h b:=rfl;simp only[mq,this];cases σ.h b with
   |none=>rfl
   |some b=>cases b with
    |box cs=>rfl
    |row gr m rs xs=>
     simp only
     repeat' split
     all_goals rfl
  |c x=>cases x with
   |list s ys=>
    simp only[mq]
    repeat' split
    all_goals rfl
   |_=>rfl
  |_=>rfl
 |_=>rfl
theorem atz (σ:St) (e:Nat->aj) (n:Nat) (gr:Bool) (m:Mode) (rs:Nat) (xs:List (List C)) (k off:Nat) (el:List C) (vs:List ah):
  oq (σ.we e) n gr m rs xs k off el vs=(oq σ n gr m rs xs k off el vs).map (·.we e):=by
 simp only[oq,HV];cases sub el off vs.length with
 |none=>rfl
 |some ii=>
  simp only
  cases σ.gw vs with
  |none=>rfl
  |some x=>
   obtain⟨cs,o,σ1⟩:=x;have:(σ1.we e).h n=σ1.h n:=rfl;simp only[Option.map_some,this]
   repeat' split
   all_goals rfl
theorem D8 (T:aN) (d:Option Nat) (op:aU) {ev ev':MO->aj} (h:Nat->Option aq) (cb:∀x∈op.args,ev' x=ev x):rd T d op ev' h=rd T d op ev h:=by
 have hl:∀xs:List MO,(∀x∈xs,ev' x=ev x)->xs.map ev'=xs.map ev:=fun xs hx=>List.map_congr_left hx;have hp:∀(ps:List (Nat×Nat×MO)) (zs:List ah),(∀x∈ps.map (·.2.2),ev' x=ev x)->rh ev' zs ps=rh ev zs ps:=by
  intro ps;induction ps with
  |nil=>intro zs _;rfl
  |cons p ps ih=>
   intro zs hx;obtain⟨off,sz,x⟩:=p;simp only[rh];rw[hx x (by simp)];cases (ev x).cells? with
   |none=>rfl
   |some y=>
    simp only
    split
    ·exact ih _ fun z hz=>hx z (by simp at hz⊢;exact .inr hz)
    ·rfl
 cases op with
 |build zs ps=>simp only[rd];rw[hp ps zs cb]
 |call m f xs=>simp only[rd];rw[hl xs cb]
 |oF f xs=>simp only[rd];rw[hl xs cb]
 |nG f xs=>simp only[rd];rw[hl xs cb]
 |mr f xs=>simp only[rd];rw[hl xs cb]
 |sj f xs=>simp only[rd];rw[hl xs cb]
 |oG m x xs=>simp only[rd];rw[cb x (by simp[aU.args]),hl xs fun y hy=>cb y (by simp[aU.args,hy])]
 |slice sz x lo hi=>
  have h1:=cb x (by simp[aU.args]);cases lo with
  |none=>cases hi with
   |none=>simp only[rd,h1]
   |some hi=>have h3:=cb hi (by simp[aU.args]);simp only[rd,h1,h3]
  |some lo=>
   have h2:=cb lo (by simp[aU.args]);cases hi with
   |none=>simp only[rd,h1,h2]
   |some hi=>have h3:=cb hi (by simp[aU.args]);simp only[rd,h1,h2,h3]
 |mv x=>have h1:=cb x (by simp[aU.args]);simp only[rd,h1]
 |pick x y z=>have h1:=cb x (by simp[aU.args]);have h2:=cb y (by simp[aU.args]);have h3:=cb z (by simp[aU.args]);simp only[rd,h1,h2,h3]
 |alloc zs=>rfl
 |box sz x=>have h1:=cb x (by simp[aU.args]);simp only[rd,h1]
 |ft sz ps=>rfl
 |hZ m f xs=>rfl
 |pq m f x xs=>rfl
 |nH m f xs=>rfl
 |ki f xs=>rfl
 |load ag sz x=>have h1:=cb x (by simp[aU.args]);simp only[rd,h1]
 |store sz x v=>rfl
 |pT x=>have h1:=cb x (by simp[aU.args]);simp only[rd,h1]
 |bin op x y=>have h1:=cb x (by simp[aU.args]);have h2:=cb y (by simp[aU.args]);simp only[rd,h1,h2]
 |nE op x y=>have h1:=cb x (by simp[aU.args]);have h2:=cb y (by simp[aU.args]);simp only[rd,h1,h2]
 |un op x=>have h1:=cb x (by simp[aU.args]);simp only[rd,h1]
 |conv k x=>have h1:=cb x (by simp[aU.args]);simp only[rd,h1]
 |iJ m sz by_ zs x y=>have h1:=cb x (by simp[aU.args]);have h2:=cb y (by simp[aU.args]);simp only[rd,h1,h2]
 |nN off x=>have h1:=cb x (by simp[aU.args]);simp only[rd,h1]
 |nj sz x y=>have h1:=cb x (by simp[aU.args]);have h2:=cb y (by simp[aU.args]);simp only[rd,h1,h2]
 |ext i x=>have h1:=cb x (by simp[aU.args]);simp only[rd,h1]
 |rM ag off sz x=>have h1:=cb x (by simp[aU.args]);simp only[rd,h1]
 |re f gm x=>have h1:=cb x (by simp[aU.args]);simp only[rd,h1]
 |len x=>have h1:=cb x (by simp[aU.args]);simp only[rd,h1]
 |append fl sz by_ x y=>rfl
 |tail sz x lo=>rfl
 |qS ag sz x=>rfl
 |copy sz x y=>rfl
 |mA z x=>rfl
 |mm b x y=>have h1:=cb x (by simp[aU.args]);have h2:=cb y (by simp[aU.args]);simp only[rd,h1,h2]
theorem Nl (σ:St) (e:Nat->aj):(σ.we e).h=σ.h:=rfl
theorem ar7 (σ:St) (e:Nat->aj) (it:dz) (x:C):(σ.we e).oW it x=(σ.oW it x).map (·.we e):=by
 cases it with
 |nil sz=>rfl
 |row n=>
  cases x with
  |int k i=>rfl
  |bool b=>rfl
  |list sz xs=>
   simp only[St.oW,Nl];cases σ.h n with
   |none=>rfl
   |some b=>
    cases b with
    |box cs=>rfl
    |row gr m rs jp=>simp only;split<;>rfl
 |nest n k off=>
  simp only[St.oW,Nl];cases σ.h n with
  |none=>rfl
  |some b=>
   cases b with
   |box cs=>rfl
   |row gr m rs jp=>
    simp only
    cases jp[k]? with
    |none=>rfl
    |some el=>rfl
theorem Tf:∀(its:List (dz×Mode)) (dW:List C) (σ:St) (e:Nat->aj),(σ.we e).od its dW=(σ.od its dW).map (·.we e)
 |[],[],σ,e=>rfl
 |it::its,x::dW,σ,e=>by
  simp only[St.od,ar7];cases σ.oW it.1 x with
  |none=>rfl
  |some σ1=>exact Tf its dW σ1 e
 |[],_::_,σ,e=>rfl
 |_::_,[],σ,e=>rfl
theorem aaC (m:Mode) (σ:St) (e:Nat->aj) (nm:Nat) (ds:List Dv):(σ.we e).jE m nm ds=(σ.jE m nm ds).map fun x=>(x.1,x.2.we e):=by
 simp only[RN];cases yt m nm ds with
 |none=>rfl
 |some x=>
  simp only[Option.bind_some,AF];cases σ.dB x.2 with
  |none=>rfl
  |some σ1=>rfl
theorem XD (T:aN) (m:Mode) (d:Option Nat) (f:FuncId) (as:List aj) (σ:St) (e:Nat->aj):
  rF T m d f as (σ.we e)=(rF T m d f as σ).map fun τ=>τ.we (tL e d τ.env):=by
 unfold rF;cases aN.nO T.u4 f with
 |none=>rfl
 |some z=>
  obtain⟨sig,M⟩:=z;cases qT as with
  |none=>rfl
  |some cZ=>
   simp only
   by_cases fx:(oS sig cZ).Nodup
   ·rw[if_pos fx,if_pos fx];show(match mN σ.h (dH σ.h (oS sig cZ)) sig cZ with|some (ds,its)=>_|none=>none)=_
    cases mN σ.h (dH σ.h (oS sig cZ)) sig cZ with
    |none=>rfl
    |some z=>
     obtain⟨ds,its⟩:=z;simp only
     cases M ds with
     |none=>rfl
     |some z=>
      obtain⟨rs,dW⟩:=z;simp only[Tf];cases σ.od its dW with
      |none=>rfl
      |some σ1=>
       simp only[Option.map_some,aaC];cases σ1.jE m (jI d) rs with
       |none=>rfl
       |some z=>
        obtain⟨ls,σ2⟩:=z;simp only[Option.map_some,tD]
   ·rw[if_neg fx,if_neg fx];rfl
theorem aii (T:aN) (m:Mode) (d:Option Nat) (f:FuncId) (as:List aj) (σ:St) (e:Nat->aj):
  vM T m d f as (σ.we e)=(vM T m d f as σ).map fun τ=>τ.we (tL e d τ.env):=by
 unfold vM;cases aN.nO T.u4 f with
 |none=>rfl
 |some z=>
  obtain⟨sig,M⟩:=z;simp only
  have hh:(σ.we e).h=σ.h:=rfl;rw[hh];cases yR σ.h sig as with
  |none=>rfl
  |some cZ=>
   simp only
   by_cases fx:(yV sig cZ).Nodup
   ·rw[if_pos fx,if_pos fx];cases su σ.h (dH σ.h (yV sig cZ)) sig cZ with
    |none=>rfl
    |some z=>
     obtain⟨ds,its⟩:=z;simp only
     cases M ds with
     |none=>rfl
     |some z=>
      obtain⟨rs,dW⟩:=z;simp only[Tf];cases σ.od its dW with
      |none=>rfl
      |some σ1=>
       simp only[Option.map_some,aaC];cases σ1.jE m (jI d) rs with
       |none=>rfl
       |some z=>
        obtain⟨ls,σ2⟩:=z;simp only[Option.map_some,tD]
   ·rw[if_neg fx,if_neg fx];rfl
theorem ail (T:aN) (m:Mode) (d:Option Nat) (f:FuncId) (as:List aj) (σ:St) (e:Nat->aj):
  vN T m d f as (σ.we e)=(vN T m d f as σ).map fun τ=>τ.we (tL e d τ.env):=by
 unfold vN;cases aN.s9 T.xs f with
 |none=>rfl
 |some z=>
  obtain⟨i,M⟩:=z;simp only
  cases as[i]? with
  |none=>rfl
  |some x=>
   have hh:(σ.we e).h=σ.h:=rfl;simp only[hh];cases EN σ.h x with
   |none=>rfl
   |some z=>
    obtain⟨n,lo,len,N⟩:=z;exact XD _ _ _ _ _ _ _
theorem O4:∀(as:List aj) (σ:St) (e:Nat->aj),(σ.we e).iP as=(σ.iP as).map fun x=>(x.1,x.2.1,x.2.2.we e)
 |[],σ,e=>rfl
 |v::as,σ,e=>by
  simp only[St.iP,Nl,HV];cases mY σ.h v with
  |some x=>
   obtain⟨n,xs⟩:=x;simp only[O4 as σ e];cases σ.iP as<;>rfl
  |none=>
   simp only
   cases v.cells? with
   |none=>rfl
   |some x=>
    obtain⟨ag,cs⟩:=x;simp only
    cases σ.gw cs with
    |none=>rfl
    |some y=>
     obtain⟨xs,o,σ1⟩:=y;simp only[Option.map_some,O4 as σ1 e];cases σ1.iP as<;>rfl
theorem ar5 (σ:St) (e:Nat->aj) (ns:List Nat) (out:List C):(σ.we e).sq ns out=(σ.sq ns out).map (·.we e):=by
 match ns,out with
 |[],[]=>rfl
 |[],_::_=>rfl
 |[n],out=>
  simp only[St.sq,Nl];cases σ.h n with
  |none=>rfl
  |some b=>
   cases b with
   |box cs=>simp only;split<;>rfl
   |row gr m rs xs=>rfl
 |_::_::_,out=>rfl
theorem aho (σ:St) (e:Nat->aj) (d:Option Nat) (rs:List Dv):rz (σ.we e) d rs=(rz σ d rs).map fun τ=>τ.we (tL e d τ.env):=by
 unfold rz;split
 ·cases d with
  |none=>rfl
  |some q=>
   simp only[GA];cases σ.ins q _ with
   |none=>rfl
   |some σ1=>simp only[Option.map_some,tD]
 ·cases kl rs with
  |none=>rfl
  |some ls=>simp only[Option.map_some,tD]
theorem aih (T:aN) (d:Option Nat) (f:FuncId) (as:List aj) (σ:St) (e:Nat->aj):
  rE T d f as (σ.we e)=(rE T d f as σ).map fun τ=>τ.we (tL e d τ.env):=by
 unfold rE;rw[O4];cases σ.iP as with
 |none=>rfl
 |some x=>
  obtain⟨ds,ns,σ1⟩:=x;simp only[Option.map_some];cases aN.lM T.vs f with
  |none=>rfl
  |some M=>
   simp only
   cases M ds with
   |none=>rfl
   |some z=>
    obtain⟨rs,out⟩:=z;simp only[ar5];cases σ1.sq ns out with
    |none=>rfl
    |some σ2=>exact aho σ2 e d rs
theorem PT (T:aN) (d:Option Nat) (op:aU) (σ:St) (e:Nat->aj) (cb:∀x∈op.args,(σ.we e).ev x=σ.ev x) (hd:∀sz x v,op=.store sz x v->d=none):
  exec T d op (σ.we e)=(exec T d op σ).map fun τ=>τ.we (tL e d τ.env):=by
 by_cases hc:op.eY<=1
 ·rw[ql T d op _ hc,ql T d op _ hc,D8 T d op _ cb];show Option.bind (rd T d op σ.ev σ.h) _=_;cases rd T d op σ.ev σ.h with
  |none=>rfl
  |some x=>
   simp only[Option.bind_some,gV,AF];cases σ.dB x.2 with
   |none=>rfl
   |some σ1=>simp only[Option.map_some,tD]
 ·cases op<;>simp[aU.eY] at hc
  case ft sz ps=>
   have hl:ps.map (σ.we e).ev=ps.map σ.ev:=List.map_congr_left cb;simp only[exec,hl,agv];cases d with
   |none=>rfl
   |some n=>
    cases σ.mS sz (ps.map σ.ev) with
    |none=>rfl
    |some x=>
     obtain⟨es,o,σ1⟩:=x;simp only[Option.map_some,GA];cases σ1.ins n (.row true (if o=true then .aO else .aI) sz es) with
     |none=>rfl
     |some σ2=>simp only[Option.map_some,tD]
  case store sz x v=>
   have h1:=cb x (by simp[aU.args]);have h2:=cb v (by simp[aU.args]);have hd:=hd sz x v rfl;subst hd;simp only[exec,h1,h2];cases σ.ev x with
   |one p=>cases p with
    |ptr n k aB off=>
     cases (σ.ev v).cells? with
     |none=>rfl
     |some y=>
      obtain⟨ag,vs⟩:=y;have:(σ.we e).h n=σ.h n:=rfl;simp only[this];split
      ·cases σ.h n with
       |none=>rfl
       |some b=>cases b with
        |box cs=>simp only;split<;>rfl
        |row gr m rs xs=>
         simp only
         split
         ·cases xs[k]? with
          |none=>rfl
          |some el=>simp only[atz];rfl
         ·rfl
      ·rfl
    |cY n k aB off s i=>
     cases (σ.ev v).cells? with
     |none=>rfl
     |some y=>
      obtain⟨ag,vs⟩:=y;have:(σ.we e).h n=σ.h n:=rfl;simp only[this];split
      ·cases σ.h n with
       |none=>rfl
       |some b=>cases b with
        |box cs=>rfl
        |row gr m rs xs=>cases m with
         |live=>cases gr with
          |true=>rfl
          |false=>
           simp only
           split
           ·cases w6 xs k off s i vs<;>rfl
           ·rfl
         |_=>cases gr<;>rfl
      ·rfl
    |_=>cases (σ.ev v).cells?<;>rfl
   |agg cs=>cases (σ.ev v).cells?<;>rfl
   |bH cs=>cases (σ.ev v).cells?<;>rfl
  case append fl sz by_ x y=>
   have h1:=cb x (by simp[aU.args]);have h2:=cb y (by simp[aU.args]);simp only[exec,h1,h2,aha];cases d with
   |none=>rfl
   |some n=>
    simp only
    cases rv σ sz (σ.ev x) with
    |none=>rfl
    |some z=>
     obtain⟨xs,m,σ1⟩:=z;simp only[Option.map_some,ahc];cases mq fl σ1 sz m (σ.ev y) with
     |none=>rfl
     |some z=>
      obtain⟨ys,m2,σ2⟩:=z;simp only[Option.map_some];split
      ·simp only[GA];cases σ2.ins n (.row true m2 sz (xs++ys)) with
       |none=>rfl
       |some gK=>simp only[Option.map_some,tD]
      ·rfl
  case copy sz x y=>
   have h1:=cb x (by simp[aU.args]);have h2:=cb y (by simp[aU.args]);have h3:(σ.we e).h=σ.h:=rfl;simp only[exec,h1,h2,h3];cases σ.ev x with
   |one p=>cases p with
    |sl n s lo len=>
     cases σ.ev y with
     |one c=>
      simp only
      cases σ.h n with
      |none=>rfl
      |some b=>cases b with
       |box cs=>rfl
       |row gr m rs xs=>
        cases cO σ.h c with
        |none=>rfl
        |some q=>cases q with
         |list s' ys=>
          simp only
          split
          ·exact congrArg some (tD (σ.eD n _) e d _)
          ·rfl
         |_=>rfl
     |_=>rfl
    |_=>rfl
   |_=>rfl
  case mA z x=>
   have h1:=cb x (by simp[aU.args]);have h3:(σ.we e).h=σ.h:=rfl;simp only[exec,h1,h3];cases σ.ev x with
   |one p=>cases p with
    |sl n s lo len=>
     simp only
     cases σ.h n with
     |none=>rfl
     |some b=>cases b with
      |box cs=>rfl
      |row gr m rs xs=>
       simp only
       split
       ·exact congrArg some (tD (σ.eD n _) e d _)
       ·rfl
    |_=>rfl
   |_=>rfl
  case qS ag sz x=>
   have h1:=cb x (by simp[aU.args]);simp only[exec,h1];cases σ.ev x with
   |one p=>
    simp only[akw];cases σ.uw p with
    |none=>rfl
    |some σ1=>
     simp only[Option.map_some];have h3:(σ1.we e).h=σ1.h:=rfl;rw[h3];cases loadAt σ1.h p sz with
     |none=>rfl
     |some cs=>exact congrArg some (tD σ1 e d _)
   |_=>rfl
  case tail sz x y=>
   have h1:=cb x (by simp[aU.args]);have h2:=cb y (by simp[aU.args]);simp only[exec,h1,h2];cases d with
   |none=>rfl
   |some n=>
    generalize (σ.ev y).dV=q;cases hv:σ.ev x with
    |one p=>cases p with
     |sl a s lo len=>cases lo with
      |zero=>
       cases q with
       |none=>rfl
       |some l=>
        simp only
        have:(σ.we e).h a=σ.h a:=rfl;rw[this];cases σ.h a with
        |none=>rfl
        |some b=>cases b with
         |box cs=>rfl
         |row gr m rs xs=>cases gr with
          |false=>rfl
          |true=>
           simp only
           split
           ·rw[show(σ.we e).del a=(σ.del a).we e from rfl,GA]
            cases (σ.del a).ins n (.row true m sz (xs.drop l.toNat)) with
            |none=>rfl
            |some gK=>simp only[Option.map_some,tD]
           ·rfl
      |succ lo=>cases q<;>rfl
     |_=>cases q<;>rfl
    |_=>cases q<;>rfl
  case hZ m f xs=>
   have hl:xs.map (σ.we e).ev=xs.map σ.ev:=List.map_congr_left cb;simp only[exec,hl,XD]
  case ki f xs=>
   have hl:xs.map (σ.we e).ev=xs.map σ.ev:=List.map_congr_left cb;simp only[exec,hl,aih]
  case pq m f x xs=>
   have h0:=cb x (by simp[aU.args]);have hl:xs.map (σ.we e).ev=xs.map σ.ev:=List.map_congr_left fun y hy=>cb y (by simp[aU.args,hy]);simp only[exec,hl,h0];cases σ.ev x with
   |one c=>cases c with
    |fn g cK=>
     simp only
     split
     ·exact aii _ _ _ _ _ _ _
     ·rfl
    |_=>rfl
   |agg cs=>rfl
   |bH xs=>rfl
  case nH m f xs=>
   have hl:xs.map (σ.we e).ev=xs.map σ.ev:=List.map_congr_left cb;simp only[exec,hl,ail]
section
variable {u vv:Nat->Prop} {h h':Nat->Option aq}
theorem anI (hh:∀n,u n->h' n=h n) {p:ah} (hp:∀m,p.ref m->u m) (sz:Nat):loadAt h' p sz=loadAt h p sz:=by
 cases p with
 |ptr n k aB off=>simp only[loadAt,hh n (hp n rfl)]
 |cY n k aB off s i=>simp only[loadAt,hh n (hp n rfl)]
 |_=>rfl
theorem ah.yY {c:ah} {m:Nat} (h:c.hH m):c.ref m:=by
 cases c<;>first|exact h|exact h.elim
def aj.yZ:aj->Nat->Prop
 |.one c,m=>c.hH m
 |.agg cs,m=>∃c∈cs,c.hH m
 |.bH _,_=>False
theorem aj.Tk {x:aj} {m:Nat} (h:x.yZ m):x.ref m:=by
 cases x with
 |one c=>exact ah.yY h
 |agg cs=>obtain⟨c,hc,h⟩:=h;exact⟨c,hc,ah.yY h⟩
 |bH xs=>exact h.elim
theorem BA (hh:∀n,u n->h' n=h n) {p:ah} (hp:∀m,p.hH m->u m):cO h' p=cO h p:=by
 cases p with
 |sl n sz lo len=>simp only[cO,hh n (hp n rfl)]
 |bw n k aB off sz len=>simp only[cO,hh n (hp n rfl)]
 |_=>rfl
theorem Nj (hh:∀n,u n->h' n=h n):∀{l:List ah} (_:∀p∈l,∀m,p.hH m->u m),iL h' l=iL h l
 |[],_=>rfl
 |c::cs,hp=>by
  have h1:=BA hh (hp c (by simp));have h2:=Nj hh (l:=cs) fun p q=>hp p (List.mem_cons_of_mem _ q);simp only[iL,h1,h2]
theorem at6 (hh:∀n,u n->h' n=h n) (hb:∀m cs c n,vv m->h m=some (.box cs)->c∈cs->c.ref n->u n) {x:aj} (hx:∀m,x.yZ m->u m) (hv:∀m,x.yZ m->vv m):je h' x=je h x:=by
 cases x with
 |one c=>cases c with
  |ptr n k sz off=>
   simp only[je,hh n (hx n rfl)];cases hn:h n with
   |none=>rfl
   |some b=>cases b with
    |box cs=>simp only[Nj hh fun p hp m hm=>hb n cs p m (hv n rfl) hn hp (ah.yY hm)]
    |row gr m sz xs=>rfl
  |de xs off=>rfl
  |c x=>rfl
  |nil sz=>rfl
  |sl n sz lo len=>simp only[je];rw[BA hh (p:=.sl n sz lo len) hx]
  |bw n k aB off sz len=>simp only[je];rw[BA hh (p:=.bw n k aB off sz len) hx]
  |cY n k aB off sz i=>rfl
  |cE xs off j n sz len=>rfl
  |fn f cK=>rfl
  |bm=>rfl
 |agg cs=>simp only[je,Nj hh fun p hp m hm=>hx m ⟨p,hp,hm⟩]
 |bH xs=>rfl
theorem Ni (hh:∀n,u n->h' n=h n) (hb:∀m cs c n,vv m->h m=some (.box cs)->c∈cs->c.ref n->u n):∀{xs:List aj} (_:∀x∈xs,∀m,x.yZ m->u m) (_:∀x∈xs,∀m,x.yZ m->vv m),kU h' xs=kU h xs
 |[],_,_=>rfl
 |x::xs,hx,hv=>by
  have h1:=at6 hh hb (hx x (by simp)) (hv x (by simp));have h2:=Ni hh hb (xs:=xs) (fun p q=>hx p (List.mem_cons_of_mem _ q)) (fun p q=>hv p (List.mem_cons_of_mem _ q));simp only[kU,h1,h2]
theorem anQ (hh:∀n,u n->h' n=h n) {md:Mode} {c:ah} (hp:∀m,c.ref m->u m):tx h' md c=tx h md c:=by
 cases c with
 |sl n sz lo len=>simp only[tx,hh n (hp n rfl)]
 |bw n k aB off sz len=>simp only[tx,hh n (hp n rfl)]
 |_=>rfl
theorem aas (hh:∀n,u n->h' n=h n) (ns:List Nat):∀n,u n->dH h' ns n=dH h ns n:=fun n hn=>by simp only[dH,hh n hn]
theorem SE (hh:∀n,u n->h' n=h n) (ns:List Nat):∀(fs:List (Option Mode)) (cs:List ah),(∀c∈cs,∀m,c.ref m->u m)->jY h' (dH h' ns) fs cs=jY h (dH h ns) fs cs
 |[],cs,hc=>by simp only[jY,Nj (aas hh ns) fun p hp m hm=>hc p hp m (ah.yY hm)]
 |none::fs,c::cs,hc=>by
  simp only[jY,BA (aas hh ns) fun m hm=>hc c (by simp) m (ah.yY hm),SE hh ns fs cs fun p hp=>hc p (by simp[hp])]
 |some md::fs,c::cs,hc=>by
  simp only[jY,anQ hh (hc c (by simp)),SE hh ns fs cs fun p hp=>hc p (by simp[hp])]
 |none::_,[],_=>rfl
 |some _::_,[],_=>rfl
theorem acO (hh:∀n,u n->h' n=h n) (ns:List Nat):∀(as:List (Bool×List ah)) (sig:aM),(∀x∈as,∀c∈x.2,∀m,c.ref m->u m)->mN h' (dH h' ns) sig as=mN h (dH h ns) sig as
 |[],_,_=>rfl
 |(ag,cs)::as,sig,hc=>by
  simp only[mN,SE hh ns (aM.hd sig) cs (hc (ag,cs) (by simp)),acO hh ns as (aM.tl sig) fun x hx=>hc x (by simp[hx])]
theorem SG:∀{fs:List (Option Mode)} {cs:List ah} {n:Nat},n∈nz fs cs->∃c∈cs,c.ref n
 |some _::fs,c::cs,n,hn=>by
  simp only[nz] at hn;rcases List.mem_append.1 hn with h|h
  ·refine⟨c,by simp,?_⟩;cases c<;>simp[ah.eN] at h<;>(subst h;rfl)
  ·obtain⟨c',h1,h2⟩:=SG h;exact⟨c',by simp[h1],h2⟩
 |none::fs,c::cs,n,hn=>by
  simp only[nz] at hn;obtain⟨c',h1,h2⟩:=SG hn;exact⟨c',by simp[h1],h2⟩
 |[],_,n,hn=>by simp[nz] at hn
 |some _::_,[],n,hn=>by simp[nz] at hn
 |none::_,[],n,hn=>by simp[nz] at hn
theorem abu:∀{as:List (Bool×List ah)} {sig:aM} {n:Nat},n∈oS sig as->∃x∈as,∃c∈x.2,c.ref n
 |a::as,s::sig,n,hn=>by
  simp only[oS] at hn;rcases List.mem_append.1 hn with h|h
  ·obtain⟨c,h1,h2⟩:=SG h;exact⟨a,by simp,c,h1,h2⟩
  ·obtain⟨x,h1,h2⟩:=abu h;exact⟨x,by simp[h1],h2⟩
 |[],s::sig,n,hn=>by simp[oS] at hn
 |as,[],n,hn=>by cases as<;>simp[oS] at hn
theorem abj:∀{as:List aj} {cZ:List (Bool×List ah)},qT as=some cZ->∀x∈cZ,∀c∈x.2,∀m,c.ref m->∃v∈as,v.ref m
 |[],cZ,hx,x,hm=>by simp only[qT] at hx;injection hx with hx;subst hx;cases hm
 |v::vs,cZ,hx,x,hm=>by
  simp only[qT] at hx;split at hx
  ·rename_i y ys e1 e2;injection hx with hx;subst hx;intro c hc m hr;cases hm with
   |head=>exact⟨v,by simp,aj.xK e1 hc hr⟩
   |tail _ hm=>
    obtain⟨v',h1,h2⟩:=abj e2 x hm c hc m hr;exact⟨v',by simp[h1],h2⟩
  ·cases hx
theorem aik (hh:∀n,u n->h' n=h n) {T:aN} {f:FuncId} {as:List aj} (hx:∀x∈as,∀m,x.ref m->u m):qk T f as h'=qk T f as h:=by
 unfold qk;cases aN.s8 T.ws f with
 |none=>rfl
 |some M=>
  obtain⟨sig,M⟩:=M;cases hc:qT as with
  |none=>rfl
  |some cZ=>
   have hr:∀x∈cZ,∀c∈x.2,∀m,c.ref m->u m:=fun x h1 c h2 m h3=>by
    obtain⟨v,a1,a2⟩:=abj hc x h1 c h2 m h3;exact hx v a1 m a2
   simp only
   cases hn:oS sig cZ with
   |nil=>rfl
   |cons n l=>
    cases l with
    |cons n2 l=>rfl
    |nil=>
     obtain⟨x,h1,c,h2,h3⟩:=abu (n:=n) (sig:=sig) (as:=cZ) (by rw[hn];simp);simp only[acO hh [n] cZ sig hr,hh n (hr x h1 c h2 n h3)]
theorem adx (T:aN) (d:Option Nat) (op:aU) (ev:MO->aj) (hh:∀n,u n->h' n=h n) (qu:op.GC=true->∀m cs c n,vv m->h m=some (.box cs)->c∈cs->c.ref n->u n)
  (hx:∀x∈op.args,∀m,(ev x).ref m->u m) (wB:∀x∈op.args,∀m,(ev x).ref m->vv m):rd T d op ev h'=rd T d op ev h:=by
 cases op with
 |load ag sz x=>
  have h1:=hx x (by simp[aU.args]);simp only[rd];cases hv:ev x with
  |one p=>rw[hv] at h1;simp only[anI hh (p:=p) h1]
  |_=>rfl
 |pT x=>
  have h1:=hx x (by simp[aU.args]);simp only[rd];cases hv:ev x with
  |one p=>cases p with
   |ptr n k sz off=>rw[hv] at h1;simp only[hh n (h1 n rfl)]
   |_=>rfl
  |_=>rfl
 |nN off x=>
  have h1:=hx x (by simp[aU.args]);simp only[rd];cases hv:ev x with
  |one p=>cases p with
   |ptr n k sz off=>rw[hv] at h1;simp only[hh n (h1 n rfl)]
   |_=>rfl
  |_=>rfl
 |len x=>
  have h1:=hx x (by simp[aU.args]);simp only[rd];cases hv:ev x with
  |one p=>cases p with
   |sl n sz lo len=>rw[hv] at h1;simp only[hh n (h1 n rfl)]
   |bw n k aB off sz len=>rw[hv] at h1;simp only[BA hh (p:=.bw n k aB off sz len) (fun m hm=>h1 m (ah.yY hm))]
   |c x=>cases x<;>rfl
   |_=>rfl
  |_=>rfl
 |re f gm x=>
  have h1:=hx x (by simp[aU.args]);simp only[rd];cases hv:ev x with
  |one p=>cases p with
   |sl n sz lo len=>rw[hv] at h1;simp only[hh n (h1 n rfl)]
   |c x=>cases x<;>rfl
   |_=>rfl
  |_=>rfl
 |nj sz x i=>
  have h1:=hx x (by simp[aU.args]);simp only[rd];generalize (ev i).dV=q;cases hv:ev x with
  |one p=>cases p with
   |sl n s lo len=>
    rw[hv] at h1;have h2:=hh n (h1 n rfl);cases q with
    |none=>rfl
    |some q=>simp only[h2]
   |bw n k aB off s len=>
    rw[hv] at h1;cases q with
    |none=>rfl
    |some q=>simp only[BA hh (p:=.bw n k aB off s len) (fun m hm=>h1 m (ah.yY hm))]
   |c x=>cases x<;>cases q<;>rfl
   |_=>cases q<;>rfl
  |_=>cases q<;>rfl
 |slice sz x lo hi=>
  have h1:=hx x (by simp[aU.args]);simp only[rd];cases hv:ev x with
  |one p=>cases p with
   |sl n s l0 len=>
    rw[hv] at h1;have h2:=hh n (h1 n rfl);cases lo with
    |none=>simp only[h2]
    |some lo=>
     simp only
     cases (ev lo).dV with
     |none=>rfl
     |some q=>simp only[h2]
   |c x=>cases lo with
    |none=>cases x<;>rfl
    |some lo=>
     simp only
     cases (ev lo).dV<;>cases x<;>rfl
   |_=>cases lo<;>rfl
  |_=>cases lo<;>rfl
 |call m f xs=>
  simp only[rd,Cu];have go:∀u':Nat->Prop,(∀x∈(aU.call m f xs).args,∀m,(ev x).ref m->u' m)->∀x∈xs.map ev,∀m,x.yZ m->u' m:=by
   intro u' hx x wD q hq;obtain⟨y,hy,rfl⟩:=List.mem_map.1 wD;exact hx y hy q (aj.Tk hq)
  rw[Ni hh (qu rfl) (go _ hx) (go _ wB)]
 |oF f xs=>
  simp only[rd,Cv];have go:∀u':Nat->Prop,(∀x∈(aU.oF f xs).args,∀m,(ev x).ref m->u' m)->∀x∈xs.map ev,∀m,x.yZ m->u' m:=by
   intro u' hx x wD q hq;obtain⟨y,hy,rfl⟩:=List.mem_map.1 wD;exact hx y hy q (aj.Tk hq)
  rw[Ni hh (qu rfl) (go _ hx) (go _ wB)]
 |mr f xs=>rfl
 |nG f xs=>
  have:qk T f (xs.map ev) h'=qk T f (xs.map ev) h:=aik hh fun x wD q hq=>by
   obtain⟨y,hy,rfl⟩:=List.mem_map.1 wD;exact hx y hy q hq
  simp only[rd,this]
 |oG m x xs=>
  simp only[rd];cases hv:ev x with
  |one p=>cases p with
   |fn f cK=>
    simp only[Cu];have go:∀u':Nat->Prop,(∀y∈(aU.oG m x xs).args,∀m,(ev y).ref m->u' m)->∀y∈xs.map ev++cK.map aj.one,∀m,y.yZ m->u' m:=by
     intro u' hx y hym q hq;rcases List.mem_append.1 hym with hy|hy
     ·obtain⟨z,hz,rfl⟩:=List.mem_map.1 hy;exact hx z (by simp[aU.args,hz]) q (aj.Tk hq)
     ·obtain⟨z,hz,rfl⟩:=List.mem_map.1 hy;refine hx x (by simp[aU.args]) q ?_;rw[hv];exact⟨z,hz,hq⟩
    rw[Ni hh (qu rfl) (go _ hx) (go _ wB)]
   |_=>rfl
  |_=>rfl
 |_=>rfl
theorem adw (T:aN) (d:Option Nat) (op:aU) (ev:MO->aj) (hh:∀n,u n->h' n=h n) (hb:∀m cs c n,h m=some (.box cs)->c∈cs->c.ref n->u n)
  (hx:∀x∈op.args,∀m,(ev x).ref m->u m):rd T d op ev h'=rd T d op ev h:=
 adx (vv:=fun _=>True) T d op ev hh (fun _ m cs c n _=>hb m cs c n) hx (fun _ _ _ _=>trivial)
theorem adz (T:aN) (d:Option Nat) (op:aU) (ev:MO->aj) (h h':Nat->Option aq) (hc:op.eY=0):rd T d op ev h'=rd T d op ev h:=by
 cases op<;>simp[aU.eY] at hc<;>rfl
end
def jn (e:Nat->aj) (d:Option Nat) (v:aj):Nat->aj:=
 match d with
 |some n=>ax e n v
 |none=>e
theorem pY (σ:St) (d:Option Nat) (v:aj):σ.put d v=σ.we (jn σ.env d v):=by cases d<;>rfl
theorem sr {e:Nat->aj} {d:Option Nat} {v:aj} {n:Nat} (h:d≠some n):jn e d v n=e n:=by
 cases d with
 |none=>rfl
 |some m=>exact cJ _ _ _ _ (fun he=>h (by rw[he]))
theorem L9 (e:Nat->aj) {d d':Option Nat} (v v':aj) (h:∀n,d=some n->d'≠some n):jn (jn e d v) d' v'=jn (jn e d' v') d v:=by
 cases d with
 |none=>rfl
 |some n=>cases d' with
  |none=>rfl
  |some m=>
   have aF:m≠n:=fun he=>h n rfl (by rw[he]);funext k;simp only[jn,j8];by_cases h1:k=m
   ·by_cases h2:k=n
    ·omega
    ·simp[h1,aF]
   ·by_cases h2:k=n
    ·simp[h2,Ne.symm aF]
    ·simp[h1,h2]
def agJ (d:Option Nat) (x:Nat->aj):aj:=
 match d with
 |some n=>x n
 |none=>.one .bm
theorem VX (e:Nat->aj) (d:Option Nat) (x:Nat->aj):tL e d x=jn e d (agJ d x):=by cases d<;>rfl
theorem alP {σ σ1 σ2:St} {n m:Nat} {b c:aq} (h1:σ.ins n b=some σ1) (h2:σ1.ins m c=some σ2):∃τ,σ.ins m c=some τ/\τ.ins n b=some σ2:=by
 obtain⟨u1,rfl⟩:=ko h1;obtain⟨u2,rfl⟩:=ko h2;have aF:m≠n:=fun e=>by subst e;simp[bO] at u2
 have um:σ.used m=false:=by simpa[cJ _ _ _ _ aF] using u2
 have un:ax σ.used m true n=false:=by rw[cJ _ _ _ _ (Ne.symm aF)];exact u1
 refine⟨_,by unfold St.ins;rw[if_neg (by simp[um])],?_⟩;unfold St.ins;simp only[un,Bool.false_eq_true,if_false];congr 2<;>(funext k;simp only[j8];by_cases h1:k=m<;>by_cases h2:k=n<;>simp_all)
theorem aaH {m:Nat} {c:aq}:∀{A:List (Nat×aq)} {σ σ1 σ2:St},σ.dB A=some σ1->σ1.ins m c=some σ2->∃τ,σ.ins m c=some τ/\τ.dB A=some σ2
 |[],σ,σ1,σ2,h1,h2=>by
  simp only[St.dB] at h1;injection h1 with h1;subst h1;exact⟨σ2,h2,rfl⟩
 |(n,b)::A,σ,σ1,σ2,h1,h2=>by
  simp only[St.dB] at h1;split at h1
  ·rename_i kZ e;obtain⟨τ,t1,t2⟩:=aaH h1 h2;obtain⟨V5,s1,s2⟩:=alP e t1;exact⟨V5,s1,by simp only[St.dB,s2];exact t2⟩
  ·cases h1
theorem RT:∀{Bs A:List (Nat×aq)} {σ σ1 σ2:St},σ.dB A=some σ1->σ1.dB Bs=some σ2->∃τ,σ.dB Bs=some τ/\τ.dB A=some σ2
 |[],A,σ,σ1,σ2,h1,h2=>by
  simp only[St.dB] at h2;injection h2 with h2;subst h2;exact⟨σ,rfl,h1⟩
 |(m,c)::Bs,A,σ,σ1,σ2,h1,h2=>by
  simp only[St.dB] at h2;split at h2
  ·rename_i gK e;obtain⟨τ,t1,t2⟩:=aaH h1 e;obtain⟨V5,s1,s2⟩:=RT t2 h2;exact⟨V5,by simp only[St.dB,t1];exact s1,s2⟩
  ·cases h2
theorem AE:∀{A:List (Nat×aq)} {σ σ1:St},σ.dB A=some σ1->(∀n,σ.used n=true->σ1.used n=true/\σ1.h n=σ.h n)/\σ1.env=σ.env
 |[],σ,σ1,h1=>by
  simp only[St.dB] at h1;injection h1 with h1;subst h1;exact⟨fun n hn=>⟨hn,rfl⟩,rfl⟩
 |(m,c)::A,σ,σ1,h1=>by
  simp only[St.dB] at h1;split at h1
  ·rename_i kZ e;obtain⟨u1,rfl⟩:=ko e;obtain⟨t1,t2⟩:=AE h1;refine⟨fun n hn=>?_,t2⟩;have aF:n≠m:=fun he=>by subst he;rw[u1] at hn;cases hn
   obtain⟨s1,s2⟩:=t1 n (oy _ _ hn);exact⟨s1,by rw[s2];exact cJ _ _ _ _ aF⟩
  ·cases h1
structure Wf (σ:St):Prop where
 env:∀s m,(σ.env s).ref m->σ.used m=true
 box:∀m cs c n,σ.h m=some (.box cs)->c∈cs->c.ref n->σ.used n=true
def ah.flat:ah->Bool
 |.c _|.nil _|.bm=>true
 |_=>false
def MO.flat:MO->Bool
 |.t _=>true
 |.k (.one c)=>c.flat
 |.k (.agg cs)=>cs.all ah.flat
 |.k (.bH xs)=>xs.isEmpty
theorem ah.Yu {c:ah} (h:c.flat=true) (m:Nat):¬c.ref m:=by
 cases c<;>first|exact id|(simp[ah.flat] at h)
theorem Wf.arg {σ:St} (W:Wf σ) {x:MO} (hx:x.flat=true) (m:Nat) (hm:(σ.ev x).ref m):σ.used m=true:=by
 cases x with
 |t n=>exact W.env n m hm
 |k v=>cases v with
  |one c=>exact absurd hm (ah.Yu hx m)
  |agg cs=>
   obtain⟨c,hc,hm⟩:=hm;exact absurd hm (ah.Yu (List.all_eq_true.1 hx c hc) m)
  |bH xs=>
   have:xs=[]:=by simpa[MO.flat] using hx
   subst this;obtain⟨c,hc,_⟩:=hm;cases hc
theorem ady (T:aN) (d:Option Nat) (op:aU) (ev:MO->aj) (h:Nat->Option aq) (hc:op.eY=0) {x:aj×List (Nat×aq)} (hx:rd T d op ev h=some x):x.2=[]:=by
 cases op<;>simp[aU.eY] at hc<;>simp only[rd] at hx
 all_goals
  repeat' split at hx
  all_goals first|(cases hx;rfl)|(cases hx)
theorem Kk {σ:St} {e:Nat->aj} {x:MO} (h:∀n,x=.t n->e n=σ.env n):(σ.we e).ev x=σ.ev x:=by
 cases x with
 |t n=>exact h n rfl
 |k v=>rfl
section
variable {T:aN} {dx dy:Option Nat} {x y:aU} {σ σ1 σ2:St}
theorem xR (vZ:∀sz p v,x=.store sz p v->dx=none) (h1:exec T dx x σ=some σ1):σ1.env=jn σ.env dx (agJ dx σ1.env):=by
 have h:=PT T dx x σ σ.env (fun _ _=>rfl) vZ;rw[at8,h1] at h;simp only[Option.map_some] at h;injection h with h;rw[<-VX]
 calc σ1.env=(σ1.we (tL σ.env dx σ1.env)).env:=by rw[<-h]
  _=_:=rfl
theorem Xl (W:Wf σ) (hd:∀n,dx=some n->dy≠some n) (r9:∀n,dx=some n->MO.t n∉y.args) (uL:∀n,dy=some n->MO.t n∉x.args)
  (KK:∀a∈x.args,a.flat=true) (Ad:∀a∈y.args,a.flat=true)
  (vZ:∀sz p v,x=.store sz p v->dx=none) (F5:∀sz p v,y=.store sz p v->dy=none) (aus:x.eY=0\/y.eY=0\/(x.eY<=1/\y.eY<=1))
  (h1:exec T dx x σ=some σ1) (h2:exec T dy y σ1=some σ2):∃τ,exec T dy y σ=some τ/\exec T dx x τ=some σ2:=by
 have aaw:∀(e:Nat->aj) (v:aj) (s:St),∀a∈y.args,(s.we (jn s.env dx v)).ev a=s.ev a:=fun e v s a ha=>Kk fun n hn=>sr fun qx=>r9 n qx (hn▸ha);have aau:∀(e:Nat->aj) (v:aj) (s:St),∀a∈x.args,(s.we (jn s.env dy v)).ev a=s.ev a:=fun e v s a ha=>Kk fun n hn=>sr fun qx=>uL n qx (hn▸ha);by_cases cx:x.eY=0
 ·rw[ql T dx x σ (by omega)] at h1;cases hr:rd T dx x σ.ev σ.h with
  |none=>rw[hr] at h1;cases h1
  |some p=>
   obtain⟨v,bs⟩:=p;have hb:bs=[]:=ady T dx x _ _ cx hr;subst hb;rw[hr] at h1;simp only[Option.bind_some,gV,St.dB,Option.map_some] at h1;injection h1 with h1;rw[pY] at h1;subst h1;rw[PT T dy y σ _ (aaw σ.env v σ) F5] at h2;cases hy:exec T dy y σ with
   |none=>rw[hy] at h2;cases h2
   |some τ=>
    rw[hy] at h2;simp only[Option.map_some] at h2;injection h2 with h2;refine⟨τ,rfl,?_⟩;have tm:=xR F5 hy;rw[ql T dx x τ (by omega),adz T dx x τ.ev σ.h τ.h cx,D8 T dx x (ev:=σ.ev) (ev':=τ.ev) σ.h (fun a ha=>by
     cases a with
     |t n=>
      show τ.env n=σ.env n;rw[tm];exact sr fun qx=>uL n qx ha
     |k v=>rfl),hr]
    simp only[Option.bind_some,gV,St.dB,Option.map_some];rw[<-h2,pY];congr 1;have:jn τ.env dx v=tL (jn σ.env dx v) dy τ.env:=by
     rw[VX,L9 σ.env _ _ hd];rw[<-tm]
    rw[this]
 ·by_cases cy:y.eY=0
  ·rw[ql T dy y σ1 (by omega)] at h2;cases hr:rd T dy y σ1.ev σ1.h with
   |none=>rw[hr] at h2;cases h2
   |some p=>
    obtain⟨v,bs⟩:=p;have hb:bs=[]:=ady T dy y _ _ cy hr;subst hb;rw[hr] at h2;simp only[Option.bind_some,gV,St.dB,Option.map_some] at h2;injection h2 with h2;have tm:=xR vZ h1;refine⟨σ.put dy v,?_,?_⟩
    ·rw[ql T dy y σ (by omega),adz T dy y σ.ev σ1.h σ.h cy,D8 T dy y (ev:=σ1.ev) (ev':=σ.ev) σ1.h (fun a ha=>by
      cases a with
      |t n=>
       show σ.env n=σ1.env n;rw[tm];exact(sr fun qx=>r9 n qx ha).symm
      |k v=>rfl),hr]
     rfl
    ·rw[pY,PT T dx x σ _ (aau σ.env v σ) vZ,h1];simp only[Option.map_some];rw[<-h2,pY];congr 2;rw[VX,<-L9 σ.env _ _ hd,<-tm]
  ·have Xv:x.eY<=1:=by omega
   have Xw:y.eY<=1:=by omega
   rw[ql T dx x σ Xv] at h1;cases hr:rd T dx x σ.ev σ.h with
   |none=>rw[hr] at h1;cases h1
   |some p=>
    obtain⟨v,A⟩:=p;rw[hr] at h1;simp only[Option.bind_some,gV] at h1;cases hA:σ.dB A with
    |none=>rw[hA] at h1;cases h1
    |some zn=>
     rw[hA] at h1;simp only[Option.map_some] at h1;injection h1 with h1;rw[pY] at h1;subst h1;obtain⟨oa,ea⟩:=AE hA;rw[ql T dy y _ Xw] at h2;have hry:rd T dy y (zn.we (jn zn.env dx v)).ev (zn.we (jn zn.env dx v)).h=rd T dy y σ.ev σ.h:=by
      rw[D8 T dy y (ev:=σ.ev) _ (fun a ha=>by rw[aaw σ.env v zn a ha];cases a with
       |t n=>show zn.env n=σ.env n;rw[ea]
       |k v=>rfl)]
      exact adw (u:=fun n=>σ.used n=true) T dy y σ.ev (fun n hn=>(oa n hn).2) W.box (fun a ha m hm=>W.arg (Ad a ha) m hm)
     rw[hry] at h2;cases Re:rd T dy y σ.ev σ.h with
     |none=>rw[Re] at h2;cases h2
     |some q=>
      obtain⟨v2,Bs⟩:=q;rw[Re] at h2;simp only[Option.bind_some,gV,AF] at h2;cases hB:zn.dB Bs with
      |none=>rw[hB] at h2;cases h2
      |some agY=>
       rw[hB] at h2;simp only[Option.map_some] at h2;injection h2 with h2;obtain⟨zo,b1,b2⟩:=RT hA hB;obtain⟨ob,eb⟩:=AE b1;obtain⟨oab,eab⟩:=AE hB;refine⟨zo.put dy v2,?_,?_⟩
       ·rw[ql T dy y σ Xw,Re];simp[gV,b1]
       ·rw[pY,ql T dx x _ Xv];have hrx:rd T dx x (zo.we (jn zo.env dy v2)).ev (zo.we (jn zo.env dy v2)).h=rd T dx x σ.ev σ.h:=by
         rw[D8 T dx x (ev:=σ.ev) _ (fun a ha=>by rw[aau σ.env v2 zo a ha];cases a with
          |t n=>show zo.env n=σ.env n;rw[eb]
          |k v=>rfl)]
         exact adw (u:=fun n=>σ.used n=true) T dx x σ.ev (fun n hn=>(ob n hn).2) W.box (fun a ha m hm=>W.arg (KK a ha) m hm)
        rw[hrx,hr];simp only[Option.bind_some,gV,AF,b2,Option.map_some];rw[<-h2,pY,pY];congr 1;show agY.we (jn (jn zo.env dy v2) dx v)=agY.we (jn (jn zn.env dx v) dy v2);rw[eb,ea,L9 σ.env _ _ hd]
end
theorem CU (T:aN) (o:bN) (σ:St):d6 T o σ=(nK o σ.env).bind fun op=>exec T o.dst op σ:=by
 unfold d6 nK;cases hg:o.guard with
 |none=>rfl
 |some g=>
  obtain⟨s,mf⟩:=g;simp only
  generalize σ.env s=v;cases v with
  |one c=>cases c with
   |c x=>cases x with
    |bool b=>simp only;split<;>rfl
    |_=>rfl
   |_=>rfl
  |agg cs=>rfl
  |bH xs=>cases xs<;>rfl
def bN.u5 (o:bN) (n:Nat):Bool:=(o.op.args.all fun a=>match a with|.t m=>m !=n|_=>true)&&(match o.guard with|some (s,_)=>s !=n|none=>true)
def bN.rK (o:bN):Bool:=o.op.args.all MO.flat&&(match o.op with|.store ..=>o.dst.isNone|_=>true)
def CI (x y:bN):Bool:=
 (match x.dst with|some d=>y.u5 d&&(match y.dst with|some e=>e !=d|none=>true)|none=>true)&&
 (match y.dst with|some d=>x.u5 d|none=>true)&&x.rK&&y.rK&&(x.op.eY==0||y.op.eY==0||(decide (x.op.eY<=1)&&decide (y.op.eY<=1)))
theorem bN.LW {o:bN} {n:Nat} (h:o.u5 n=true):MO.t n∉o.op.args:=by
 intro hm;simp only[bN.u5,Bool.and_eq_true,List.all_eq_true] at h;have:=h.1 _ hm;simp at this
theorem Kd {o:bN} {e:Nat->aj} {op:aU} (h:nK o e=some op):op=o.op\/op=.mv (.k (.bH [])):=by
 unfold nK at h;split at h
 ·injection h with h;exact .inl h.symm
 ·split at h
  ·split at h
   ·injection h with h;exact .inl h.symm
   ·injection h with h;exact .inr h.symm
  ·injection h with h;exact .inr h.symm
  ·cases h
theorem FD {o:bN} {e e':Nat->aj} (h:∀s w,o.guard=some (s,w)->e' s=e s):nK o e'=nK o e:=by
 unfold nK;cases hg:o.guard with
 |none=>rfl
 |some g=>obtain⟨s,w⟩:=g;simp only;rw[h s w hg]
theorem ahW {T:aN} {x y:bN} {σ σ1 σ2:St} (W:Wf σ) (hc:CI x y=true) (h1:d6 T x σ=some σ1) (h2:d6 T y σ1=some σ2):
  ∃τ,d6 T y σ=some τ/\d6 T x τ=some σ2:=by
 simp only[CI,Bool.and_eq_true] at hc;obtain⟨⟨⟨⟨c1,c2⟩,c3⟩,c4⟩,c5⟩:=hc;rw[CU] at h1 h2;cases ex:nK x σ.env with
 |none=>rw[ex] at h1;cases h1
 |some kw=>
  rw[ex] at h1;have h1:exec T x.dst kw σ=some σ1:=h1;have jx:kw=x.op\/kw=.mv (.k (.bH [])):=Kd ex;have Bt:∀sz p v,kw=.store sz p v->x.dst=none:=by
   intro sz p v he;rcases jx with rfl|rfl
   ·simp only[bN.rK,Bool.and_eq_true,he] at c3;simpa using c3.2
   ·cases he
  have tm:=xR Bt h1;have Rt:∀s w,y.guard=some (s,w)->x.dst≠some s:=by
   intro s w hg hd;rw[hd] at c1;simp[bN.u5,hg] at c1
  have K9:∀s w,x.guard=some (s,w)->y.dst≠some s:=by
   intro s w hg hd;rw[hd] at c2;simp[bN.u5,hg] at c2
  have Kn:nK y σ1.env=nK y σ.env:=FD fun s w hg=>by rw[tm];exact sr (Rt s w hg)
  rw[Kn] at h2;cases ey:nK y σ.env with
  |none=>rw[ey] at h2;cases h2
  |some j4=>
   rw[ey] at h2;have h2:exec T y.dst j4 σ1=some σ2:=h2;have jy:j4=y.op\/j4=.mv (.k (.bH [])):=Kd ey;have zg:∀sz p v,j4=.store sz p v->y.dst=none:=by
    intro sz p v he;rcases jy with rfl|rfl
    ·simp only[bN.rK,Bool.and_eq_true,he] at c4;simpa using c4.2
    ·cases he
   have FK:∀a∈kw.args,a.flat=true:=by
    rcases jx with rfl|rfl
    ·simp only[bN.rK,Bool.and_eq_true,List.all_eq_true] at c3;exact c3.1
    ·intro a ha;simp[aU.args] at ha;subst ha;rfl
   have FL:∀a∈j4.args,a.flat=true:=by
    rcases jy with rfl|rfl
    ·simp only[bN.rK,Bool.and_eq_true,List.all_eq_true] at c4;exact c4.1
    ·intro a ha;simp[aU.args] at ha;subst ha;rfl
   have r9:∀n,x.dst=some n->MO.t n∉j4.args:=by
    intro n hd;rcases jy with rfl|rfl
    ·rw[hd] at c1;simp only[Bool.and_eq_true] at c1;exact bN.LW c1.1
    ·simp[aU.args]
   have uL:∀n,y.dst=some n->MO.t n∉kw.args:=by
    intro n hd;rcases jx with rfl|rfl
    ·rw[hd] at c2;exact bN.LW c2
    ·simp[aU.args]
   have te:∀n,x.dst=some n->y.dst≠some n:=by
    intro n hd he;rw[hd,he] at c1;simp at c1
   have cv:kw.eY=0\/j4.eY=0\/(kw.eY<=1/\j4.eY<=1):=by
    rcases jx with rfl|rfl
    ·rcases jy with rfl|rfl
     ·simp only[Bool.or_eq_true,beq_iff_eq,Bool.and_eq_true,decide_eq_true_eq,or_assoc] at c5;exact c5
     ·exact .inr (.inl rfl)
    ·exact .inl rfl
   obtain⟨τ,t1,t2⟩:=Xl W te r9 uL FK FL Bt zg cv h1 h2;refine⟨τ,?_,?_⟩
   ·rw[CU,ey];exact t1
   ·rw[CU,FD (e:=σ.env) (fun s w hg=>by rw[xR zg t1];exact sr (K9 s w hg)),ex];exact t2
def xB (P:Program) (f:FuncId) (M:List Dv->Option (List Dv)):Prop:=
 ∀ds rs,M ds=some rs->∀(w:World) (vals:List Value),EQ w ds vals->Calls P f vals.toArray w fun e w'=>
  ∃(sz cap:Nat) (a:Option Addr) (xs:List (List PC)),rs=[(.one,[(PC.list sz a cap xs).er])]/\e=.returned (PC.list sz a cap xs).val/\vr w' w.heap.size [PC.list sz a cap xs]/\Fr w.heap.size Ex.no w w'/\pn w' sz xs
theorem xB.pure {P:Program} {f:FuncId} {M:List Dv->Option (List Dv)} (h:xB P f M):dd P f M:=by
 intro ds rs hM w vals ha;refine(h ds rs hM w vals ha).mono fun e w' ⟨sz,cap,a,xs,h1,h2,h3,h4,_⟩=>?_;refine⟨[(.one,[PC.list sz a cap xs])],by rw[h1];rfl,h2,fun p hp=>?_,by simpa using h3,h4⟩;simp at hp;subst hp;exact⟨by simp,fun _=>rfl⟩
def Ik (P:Program) (T:aN):Prop:=∀f M,aN.find T.ns f=some M->xB P f M
def Pm (ops:Array Oper) (o:Oper) (mo:bN):Bool:=
 match o.guard,mo.guard with
 |none,none=>true
 |some (j,mf),some (s,agR)=>decide ((ops[j]?).bind (·.dst)=some s)&&(mf==agR)
 |_,_=>false
def oH (P:Program) (N:Nat) (ops:Array Oper) (o:Oper) (mo:bN):Bool:=
 decide (o.dst=mo.dst)&&(match o.dst with|some n=>decide (n<N)|none=>true)&&Pm ops o mo&&eU P o mo.op
def jQ (P:Program) (N:Nat) (ops:Array Oper):List Oper->List bN->Bool
 |[],[]=>true
 |o::os,m::ms=>oH P N ops o m&&jQ P N ops os ms
 |_,_=>false
section
variable {B:Nat} {E:Ex} {w0 w w':World} {G G':Gh} {N:Nat}
variable {P:Program} {T:aN} {o:Oper} {mo:bN} {a:Act} {σ σ':St} {Q:Exit->Act->World->Prop} {ops:Array Oper}
structure kg (P:Program) (T:aN):Prop where
 spec:Ij P T
 afL:Cd P T
 afM:Ce P T
 afN:xC P T
 atl:Ik P T
 fn:∀f M,aN.find T.pure f=some M->bP P f=true
theorem R.guard (r:R B E w0 N σ a w G) {j s:Nat} {b:Bool} (hj:(ops[j]?).bind (·.dst)=some s) (hb:σ.env s=.one (.c (.bool b))):yielded ops a.tmps j=some b:=by
 have h1:=r.env s;rw[hb] at h1;have h2:=h1.Cs;have h3:a.tmps[s]? =some (.bool b):=by
  rw[Array.getD_eq_getD_getElem?] at h2;cases ht:a.tmps[s]? with
  |none=>rw[ht] at h2;simp[undef] at h2
  |some v=>rw[ht] at h2;simp at h2;rw[h2]
 unfold yielded;rw[hj];simp[h3]
theorem afB {w:World} {G:Gh} {h:Nat->Option aq}:RA w G h (.bH []) undef:=⟨[],rfl,rfl,fun j x u hx=>by simp at hx⟩
theorem afC {u:Nat->Prop} (m:Nat) (hm:(aj.bH []).ref m):u m:=by
 obtain⟨c,hc,_⟩:=hm;cases hc
theorem R.akB (r:R B E w0 N σ a w G) {j s:Nat} (hj:(ops[j]?).bind (·.dst)=some s) (hb:σ.env s=.bH []):yielded ops a.tmps j=none:=by
 have h1:=r.env s;rw[hb] at h1;obtain⟨vs,h2,h3,_⟩:=h1;have:vs=[]:=List.length_eq_zero_iff.1 h3;subst this;rw[Array.getD_eq_getD_getElem?] at h2;unfold yielded;rw[hj];simp only[Option.bind_some];cases ht:a.tmps[s]? with
 |none=>rfl
 |some v=>
  rw[ht] at h2;simp only[Option.getD_some] at h2;subst h2;rfl
theorem zZ (r:R B E w0 N σ a w G) (hT:kg P T) (hc:oH P N ops o mo=true) (hx:d6 T mo σ=some σ'):
  (Region.wanted o (yielded ops a.tmps)=true/\o.wp P a w (Nx B E w0 N σ') Q)\/(Region.wanted o (yielded ops a.tmps)=false/\Nx B E w0 N σ' (a.put o.dst undef) w):=by
 simp only[oH,Bool.and_eq_true,decide_eq_true_eq] at hc;obtain⟨⟨⟨c1,c2⟩,c3⟩,c4⟩:=hc;have hN:∀n,o.dst=some n->n<N:=fun n hn=>by rw[hn] at c2;simpa using c2
 unfold Pm at c3;unfold d6 at hx;split at c3
 ·rename_i g1 g2;simp only[g2] at hx;rw[<-c1] at hx;exact .inl ⟨by simp[Region.wanted,g1],X3 r hT.spec hT.afL hT.afM hT.afN hT.fn hN c4 hx⟩
 ·rename_i j mf s agR g1 g2;simp only[Bool.and_eq_true,decide_eq_true_eq,beq_iff_eq] at c3;obtain⟨k1,rfl⟩:=c3;simp only[g2] at hx;split at hx
  ·rename_i b hb;have hy:=r.guard k1 hb;split at hx
   ·rename_i QB;rw[<-c1] at hx;exact .inl ⟨by simp[Region.wanted,g1,hy,QB],X3 r hT.spec hT.afL hT.afM hT.afN hT.fn hN c4 hx⟩
   ·rename_i QB;injection hx with hx;subst hx;refine .inr ⟨by simp[Region.wanted,g1,hy,QB],G,?_⟩;rw[<-c1];exact r.put (x:=.bH []) afB afC hN
  ·rename_i hb;have hy:=r.akB k1 hb;injection hx with hx;subst hx;refine .inr ⟨by simp[Region.wanted,g1,hy],G,?_⟩;rw[<-c1];exact r.put (x:=.bH []) afB afC hN
  ·cases hx
 ·cases c3
theorem R.wf (r:R B E w0 N σ a w G):Wf σ:=⟨r.pg,r.hr.iq⟩
theorem auj {K:Act->World->Prop} (h:o.wp P a w K (fun _ _ _=>False)):∃a' w',K a' w':=by
 unfold Oper.wp at h;unfold Oper.upon at h;split at h
 ·exact⟨_,_,h⟩
 ·exact⟨_,_,h⟩
 ·exact⟨_,_,h⟩
 ·obtain⟨e,w',fr,hR,_⟩:=h [];cases e with
  |returned v=>exact⟨_,_,hR⟩
  |panicked c=>exact hR.elim
  |outgrown=>obtain⟨_,_,hf⟩:=hR;exact hf.elim
 ·obtain⟨v,w',hR,_⟩:=h default [];exact⟨_,_,hR⟩
 ·exact h.elim
 ·exact h.elim
def zC (B:Nat) (E:Ex) (w0:World) (N:Nat) (σ:St):Prop:=∃a w G,R B E w0 N σ a w G
theorem Ti (r:zC B E w0 N σ) (hT:kg P T) (hc:oH P N ops o mo=true) (hx:d6 T mo σ=some σ'):zC B E w0 N σ':=by
 obtain⟨a,w,G,r⟩:=r;rcases zZ (Q:=fun _ _ _=>False) r hT hc hx with⟨_,h⟩|⟨_,G',h⟩
 ·obtain⟨a',w',G',h⟩:=auj h;exact⟨a',w',G',h⟩
 ·exact⟨_,_,G',h⟩
theorem V2 (hT:kg P T):∀{l:List Oper} {ms:List bN} {σ σ':St} {a:Act} {w:World} {G:Gh},jQ P N ops l ms=true->fu T ms σ=some σ'->R B E w0 N σ a w G->
  (∀a w G,R B E w0 N σ' a w G->Q .normal a w)->wpList P ops Q l a w
 |[],[],σ,σ',a,w,G,hc,hx,r,hQ=>by
  simp only[fu] at hx;injection hx with hx;subst hx;exact hQ _ _ _ r
 |o::l,m::ms,σ,σ',a,w,G,hc,hx,r,hQ=>by
  simp only[jQ,Bool.and_eq_true] at hc;simp only[fu] at hx;split at hx
  ·rename_i σ1 e1;unfold wpList;rcases zZ (Q:=Q) r hT hc.1 e1 with⟨hw,h⟩|⟨hw,G',h⟩
   ·rw[if_pos hw];exact .inl (Oper.wp_mono (fun a' w' ⟨G',r'⟩=>V2 hT hc.2 hx r' hQ) h)
   ·rw[if_neg (by simp[hw])];exact V2 hT hc.2 hx h hQ
  ·cases hx
 |[],_::_,_,_,_,_,_,hc,_,_,_=>by simp[jQ] at hc
 |_::_,[],_,_,_,_,_,hc,_,_,_=>by simp[jQ] at hc
def rJ (T:aN) (ms:List bN):List Nat->St->Option St
 |[],σ=>some σ
 |i::L,σ=>match ms[i]? with
  |some o=>match d6 T o σ with
   |some σ1=>rJ T ms L σ1
   |none=>none
  |none=>none
inductive qb (ops:Array Oper):Nat->Nat->Prop where
 |XF (i:Nat) (o:Oper) (e:_):ops[i]? =some o->e∈o.after->Region.binds .any e=true->qb ops i e.on
 |step (i j:Nat) (o:Oper) (e:_):ops[i]? =some o->e∈o.after->Region.binds .any e=true->qb ops e.on j->qb ops i j
def PM (o:Oper):List Nat:=(o.after.toList.filter (Region.binds .any)).map (·.on)
def GW (dJ:List Nat):List Nat->Nat
 |[]=>0
 |j::js=>(Nat.shiftLeft 1 j|||dJ.getD j 0)|||GW dJ js
def uZ:List Oper->List Nat->List Nat
 |[],dJ=>dJ
 |o::os,dJ=>uZ os (dJ++[GW dJ (PM o)])
theorem anO {o:Oper} {j:Nat} (h:j∈PM o):∃e∈o.after,Region.binds .any e=true/\e.on=j:=by
 unfold PM at h;simp only[List.mem_map,List.mem_filter] at h;obtain⟨e,⟨h1,h2⟩,h3⟩:=h;exact⟨e,Array.mem_toList_iff.1 h1,h2,h3⟩
theorem abn {dJ:List Nat}:∀{js:List Nat} {k:Nat},(GW dJ js).testBit k=true->∃j∈js,j=k\/(dJ.getD j 0).testBit k=true
 |[],k,h=>by simp[GW] at h
 |j::js,k,h=>by
  simp only[GW,Nat.testBit_or,Bool.or_eq_true] at h;rcases h with(h|h)|h
  ·refine⟨j,by simp,.inl ?_⟩;have h':(1<<<j).testBit k=true:=h;rw[Nat.one_shiftLeft,Nat.testBit_two_pow] at h';exact of_decide_eq_true h'
  ·exact⟨j,by simp,.inr h⟩
  ·obtain⟨j',h1,h2⟩:=abn h;exact⟨j',by simp[h1],h2⟩
theorem LF {ops:Array Oper}:∀(os:List Oper) (dJ:List Nat) (pre:List Oper),ops.toList=pre++os->dJ.length=pre.length->(∀i k,(dJ.getD i 0).testBit k=true->qb ops i k)->
  ∀i k,((uZ os dJ).getD i 0).testBit k=true->qb ops i k
 |[],dJ,pre,_,_,h,i,k,hb=>h i k hb
 |o::os,dJ,pre,he,hl,h,i,k,hb=>by
  refine LF os _ (pre++[o]) (by simp[he]) (by simp[hl]) (fun i k hb=>?_) i k hb;by_cases cj:i<dJ.length
  ·rw[List.getD_eq_getElem?_getD,List.getElem?_append_left cj,<-List.getD_eq_getElem?_getD] at hb;exact h i k hb
  ·by_cases hi:i=dJ.length
   ·subst hi;rw[List.getD_eq_getElem?_getD,List.getElem?_append_right (Nat.le_refl _),Nat.sub_self] at hb;simp only[List.getElem?_cons_zero,Option.getD_some] at hb;have ho:ops[dJ.length]? =some o:=by
     have:ops.toList[dJ.length]? =some o:=by rw[he,hl,List.getElem?_append_right (Nat.le_refl _),Nat.sub_self];rfl
     simpa using this
    obtain⟨j,h1,h2⟩:=abn hb;obtain⟨e,e1,e2,rfl⟩:=anO h1;rcases h2 with rfl|h2
    ·exact .XF _ o e ho e1 e2
    ·exact .step _ _ o e ho e1 e2 (h _ _ h2)
   ·rw[List.getD_eq_getElem?_getD,List.getElem?_eq_none (by simp;omega)] at hb;simp at hb
def JX (ops:List Oper) (ms:List bN):Bool:=
 (fun ks:List Nat=>(List.range ops.length).all fun i=>match ops[i]?,ms[i]? with
  |some o,some m=>(o.after.toList.all fun e=> !Region.binds .any e||decide (e.on<i))&&
   (List.range i).all fun j=>(ks.getD i 0).testBit j||(match ms[j]? with|some mj=>CI mj m|none=>false)
  |_,_=>false) (uZ ops [])
structure V8 (ops:Array Oper) (ms:List bN):Prop where
 back:∀(i:Nat) (o:Oper),ops[i]? =some o->∀e∈o.after,Region.binds .any e=true->e.on<i
 pair:∀(i j:Nat) (o:Oper) (m:bN),ops[i]? =some o->ms[i]? =some m->j<i->qb ops i j\/∃mj,ms[j]? =some mj/\CI mj m=true
theorem ahK {ms:List bN} (h:JX ops.toList ms=true):V8 ops ms:=by
  simp only[JX,List.all_eq_true,List.mem_range] at h;have db:∀(i:Nat) (o:Oper),ops[i]? =some o->∃m,ms[i]? =some m/\(o.after.toList.all fun e=> !Region.binds .any e||decide (e.on<i))=true/\
        ∀j,j<i->(((uZ ops.toList []).getD i 0).testBit j||(match ms[j]? with|some mj=>CI mj m|none=>false))=true:=by
    intro i o ho;have hi:i<ops.toList.length:=by simpa using(Array.getElem?_eq_some_iff.1 ho).1
    have hi':=h i hi;have fB:ops.toList[i]? =some o:=by simpa using ho
    rw[fB] at hi';cases hm:ms[i]? with
    |none=>rw[hm] at hi';cases hi'
    |some m=>
     rw[hm] at hi';simp only[Bool.and_eq_true,List.all_eq_true,List.mem_range] at hi';exact⟨m,rfl,by rw[List.all_eq_true];exact hi'.1,hi'.2⟩
  refine⟨fun i o ho e he hb=>?_,fun i j o m ho hm hj=>?_⟩
  · obtain⟨m,_,k1,_⟩:=db i o ho;have:=List.all_eq_true.1 k1 e (Array.mem_toList_iff.2 he);simp[hb] at this;exact this
  · obtain⟨m',bL,_,k2⟩:=db i o ho;rw[hm] at bL;injection bL with bL;subst bL;have:=k2 j hj;rw[Bool.or_eq_true] at this;rcases this with h1|h1
    · exact .inl (LF ops.toList [] [] rfl rfl (by intro i k hb;simp at hb) i j h1)
    · cases Dh:ms[j]? with
      |none=>rw[Dh] at h1;cases h1
      |some mj=>rw[Dh] at h1;exact .inr ⟨mj,rfl,h1⟩
def EV (ops:Array Oper) (cG:Array Bool):Prop:=
 ∀(k:Nat) (o:Oper),ops[k]? =some o->cG.getD k true=true->∀e∈o.after,Region.binds .any e=true->cG.getD e.on true=true
theorem Co {cG:Array Bool} (hc:EV ops cG) {i j:Nat} (hb:qb ops i j):(∀o,ops[i]? =some o->∀e∈o.after,Region.binds .any e=true->cG.getD e.on true=true)->cG.getD j true=true:=by
 induction hb with
 |XF i o e ho he hb=>exact fun h=>h o ho e he hb
 |step i j o e ho he hb _ ih=>exact fun h=>ih fun o' fB=>hc _ o' fB (h o ho e he hb)
theorem X7 (hT:kg P T) {ms:List bN} (gQ:∀(i:Nat) (m:bN),ms[i]? =some m->∃o,ops[i]? =some o/\oH P N ops o m=true) {i:Nat} {mi:bN} (hi:ms[i]? =some mi) {post:List Nat} {ef:St}:
  ∀{pre:List Nat} {σ:St},zC B E w0 N σ->rJ T ms (pre++i::post) σ=some ef->(∀j∈pre,∃mj,ms[j]? =some mj/\CI mj mi=true)->
  ∃τ,d6 T mi σ=some τ/\rJ T ms (pre++post) τ=some ef
 |[],σ,hr,hx,hc=>by
  simp only[List.nil_append,rJ,hi] at hx;split at hx
  ·rename_i σ1 e;exact⟨σ1,e,hx⟩
  ·cases hx
 |j::pre,σ,hr,hx,hc=>by
  obtain⟨mj,hj,jz⟩:=hc j (by simp);simp only[List.cons_append,rJ,hj] at hx;split at hx
  ·rename_i σ1 e1;obtain⟨oj,_,fV⟩:=gQ j mj hj;obtain⟨oA,t1,t2⟩:=X7 hT gQ hi (Ti hr hT fV e1) hx (fun k hk=>hc k (by simp[hk]));obtain⟨a,w,G,r⟩:=hr;obtain⟨τ,s1,s2⟩:=ahW r.wf jz e1 t1;exact⟨τ,s1,by simp only[List.cons_append,rJ,hj,s2];exact t2⟩
  ·cases hx
theorem auf (hT:kg P T) {ms:List bN} (gQ:∀(i:Nat) (m:bN),ms[i]? =some m->∃o,ops[i]? =some o/\oH P N ops o m=true) (hlen:ms.length=ops.size) (hd:V8 ops ms) {ef:St}
  (hQ:∀a w G,R B E w0 N ef a w G->Q .normal a w):
  ∀(gb:Nat) (L:List Nat) (cG:Array Bool) (σ:St) (a:Act) (w:World) (G:Gh),R B E w0 N σ a w G->rJ T ms L σ=some ef->L.Pairwise (·<·)->L.length<=gb->cG.size=ops.size->
   (∀j,j∈L↔cG.getD j true=false)->EV ops cG->wpAny P .any ops Q gb cG a w:=by
 have first:∀(L:List Nat) (cG:Array Bool),L.Pairwise (·<·)->cG.size=ops.size->(∀j,j∈L↔cG.getD j true=false)->Region.ready .any ops cG=[]->L=[]:=by
  intro L cG hp hs hL hr;cases L with
  |nil=>rfl
  |cons j L=>
   exfalso;have hj:=(hL j).1 (by simp);have kF:j<ops.size:=by
    rw[<-hs];rcases Nat.lt_or_ge j cG.size with h|h
    ·exact h
    ·simp[Array.getElem?_eq_none h] at hj
   have ho:ops[j]? =some ops[j]:=Array.getElem?_eq_getElem kF;have:j∈Region.ready .any ops cG:=by
    rw[mem_ready];refine⟨hj,_,ho,fun e he hb=>?_⟩;have cj:=hd.back j _ ho e he hb;have ni:e.on∉j::L:=by
     intro hm;cases hm with
     |head=>omega
     |tail _ hm=>have:=(List.pairwise_cons.1 hp).1 _ hm;omega
    have aF:cG.getD e.on true≠false:=fun h=>ni ((hL e.on).2 h);have nf:e.on<cG.size:=by omega
    simp[nf] at aF⊢;exact aF
   rw[hr] at this;cases this
 intro gb;induction gb with
 |zero=>
  intro L cG σ a w G r hx hp hl hs hL hC;have qt:L=[]:=List.eq_nil_of_length_eq_zero (by omega);subst qt;simp only[rJ] at hx;injection hx with hx;subst hx;refine⟨?_,hQ _ _ _ r⟩;cases hr:Region.ready .any ops cG with
  |nil=>rfl
  |cons i l=>
   have hm:i∈Region.ready .any ops cG:=by rw[hr];simp
   have:=(hL i).2 (mem_ready.1 hm).1;cases this
 |succ gb ih=>
  intro L cG σ a w G r hx hp hl hs hL hC;refine⟨fun hr=>?_,fun i hi=>?_⟩
  ·have qt:=first L cG hp hs hL hr
   subst qt;simp only[rJ] at hx;injection hx with hx;subst hx;exact hQ _ _ _ r
  ·obtain⟨Ai,oi,iD,Aa⟩:=mem_ready.1 hi;have pC:i∈L:=(hL i).2 Ai;obtain⟨pre,post,rfl⟩:=List.append_of_mem pC;have Df:i<ops.size:=(Array.getElem?_eq_some_iff.1 iD).1;have rY:ms[i]? =some ms[i]:=List.getElem?_eq_getElem (by omega);obtain⟨o',fB,jk⟩:=gQ i _ rY;rw[iD] at fB;injection fB with fB;subst fB;have fY:=List.pairwise_append.1 hp;obtain⟨τ,t1,t2⟩:=X7 (ops:=ops) hT gQ rY ⟨a,w,G,r⟩ hx (fun j hj=>by
    have kE:j<i:=fY.2.2 j hj i (by simp);rcases hd.pair i j oi _ iD rY kE with FX|h
    ·have h1:=Co hC FX (fun o ho e he hb=>by
      rw[iD] at ho;injection ho with ho;subst ho;have h1:=Aa e he hb;have cj:=hd.back i _ iD e he hb;have nf:e.on<cG.size:=by omega
      simp[nf] at h1⊢;exact h1)
     have h2:=(hL j).1 (by simp[hj]);rw[h1] at h2;cases h2
    ·exact h)
   have qF:∀a' w',Nx B E w0 N τ a' w'->wpAny P .any ops Q gb (cG.setIfInBounds i true) a' w':=by
    rintro a' w' ⟨G',r'⟩;refine ih (pre++post) _ τ a' w' G' r' t2 ?_ (by simp at hl⊢;omega) (by simpa using hs) (fun j=>?_) (fun k o ho hk e he hb=>?_)
    ·rw[List.pairwise_append];exact⟨fY.1,(List.pairwise_cons.1 fY.2.1).2,fun x hx y hy=>fY.2.2 x hx y (by simp[hy])⟩
    ·by_cases kE:j=i
     ·subst kE;have kF:j<cG.size:=by omega
      simp only[List.mem_append];constructor
      ·rintro(h|h)
       ·have:=fY.2.2 j h j (by simp);omega
       ·have:=(List.pairwise_cons.1 fY.2.1).1 j h;omega
      ·intro h;simp[kF] at h
     ·rw[getD_set_ne true (Ne.symm kE),<-hL j];simp[kE]
    ·have yg:∀q,cG.getD q true=true->(cG.setIfInBounds i true).getD q true=true:=by
      intro q hq;by_cases nZ:q=i
      ·subst nZ;have:q<cG.size:=by omega
       simp[this]
      ·rw[getD_set_ne true (Ne.symm nZ)];exact hq
     by_cases ye:k=i
     ·subst ye;rw[iD] at ho;injection ho with ho;subst ho;have h1:=Aa e he hb;have cj:=hd.back k _ iD e he hb;have nf:e.on<cG.size:=by omega
      refine yg _ ?_;simp[nf] at h1⊢;exact h1
     ·rw[getD_set_ne true (Ne.symm ye)] at hk;exact yg _ (hC k o ho hk e he hb)
   unfold wpOp;rw[iD];simp only
   rcases zZ (Q:=Q) r hT jk t1 with⟨hw,h⟩|⟨hw,h⟩
   ·rw[if_pos hw];exact .inl (Oper.wp_mono qF h)
   ·rw[if_neg (by simp[hw])];exact qF _ _ h
theorem X6:∀(post pre:List bN) (σ:St),rJ T (pre++post) (List.range' pre.length post.length) σ=fu T post σ
 |[],pre,σ=>by simp[rJ,fu]
 |m::post,pre,σ=>by
  simp only[List.length_cons,List.range'_succ,rJ,fu];rw[List.getElem?_append_right (Nat.le_refl _),Nat.sub_self];simp only[List.getElem?_cons_zero];cases d6 T m σ with
  |none=>rfl
  |some σ1=>
   have:=X6 post (pre++[m]) σ1;simp only[List.length_append,List.length_cons,List.length_nil,List.append_assoc,List.singleton_append,Nat.zero_add] at this;exact this
theorem Ps:∀{l:List Oper} {ms:List bN},jQ P N ops l ms=true->ms.length=l.length/\∀(i:Nat) (m:bN),ms[i]? =some m->∃o,l[i]? =some o/\oH P N ops o m=true
 |[],[],_=>⟨rfl,by simp⟩
 |o::l,m::ms,hc=>by
  simp only[jQ,Bool.and_eq_true] at hc;obtain⟨i1,i2⟩:=Ps hc.2;refine⟨by simp[i1],fun i m' hm=>?_⟩;cases i with
  |zero=>simp at hm;subst hm;exact⟨o,rfl,hc.1⟩
  |succ i=>exact i2 i m' (by simpa using hm)
 |[],_::_,hc=>by simp[jQ] at hc
 |_::_,[],hc=>by simp[jQ] at hc
theorem R.drawn (r:R B E w0 N σ a w G) (k:Nat):R B E w0 N σ a {w with drawn:=k} G:=by
 have hw:∀b,b<w.heap.size->({w with drawn:=k}:World).heap[b]? =w.heap[b]? :=fun _ _=>rfl
 exact r.step rfl (fun _ h=>h) (bk.world (fun b hb=>hw b (r.hr.gC b hb)) _) (r.hr.grow hw (Nat.le_refl _)) (r.fr.grow hw (Nat.le_refl _) rfl rfl rfl)
theorem ash (hT:kg P T) (hm:P.follows .mixedOrders=true) {id:Nat} {lK:Bool} {ms:List bN} (hc:jQ P N ops ops.toList ms=true) (hd:lK=true->JX ops.toList ms=true)
  (hx:fu T ms σ=some σ') (r:R B E w0 N σ a w G) (hQ:∀a w G,R B E w0 N σ' a w G->Q .normal a w):(Code.region id ops lK).wp P Q a w:=by
 cases lK with
 |false=>exact wp_region_list (V2 hT hc hx r hQ)
 |true=>
  obtain⟨k1,k2⟩:=Ps hc;have hlen:ms.length=ops.size:=by simpa using k1
  refine wp_region_any hm (auf (B:=B) (E:=E) (w0:=w0) (N:=N) hT (fun i m h=>by
   obtain⟨o,h1,h2⟩:=k2 i m h;exact⟨o,by simpa using h1,h2⟩) hlen (ahK (hd rfl)) hQ ops.size (List.range ops.size) _ σ a _ G (r.drawn _) ?_ ?_ (by simp) (by simp) (fun j=>?_) (fun k o ho hk=>?_))
  ·have:=X6 (T:=T) ms [] σ;simp only[List.nil_append,List.length_nil,hlen,<-List.range_eq_range'] at this;rw[this];exact hx
  ·exact List.pairwise_lt_range
  ·rw[List.mem_range];constructor
   ·intro h;simp[h]
   ·intro h;rcases Nat.lt_or_ge j ops.size with h'|h'
    ·exact h'
    ·simp[Array.getElem?_eq_none (show(Array.replicate ops.size false).size<=j by simpa using h')] at h
  ·exfalso;have Gd:k<ops.size:=(Array.getElem?_eq_some_iff.1 ho).1;simp[Gd] at hk
end
theorem To (ok:Nat->Bool) (env:Nat->aj):∀(ss:List Nat) (n:Nat),wV ok env ss n=if n∈ss then(env n).dK ok else .one .bm
 |[],n=>by simp[wV,xQ]
 |s::ss,n=>by
  simp only[wV,j8,To ok env ss,List.mem_cons];by_cases h:n=s
  ·subst h;simp
  ·simp[h]
theorem Mc (ok:Nat->Bool) (h:Nat->Option aq):∀(ss:List Nat) (n:Nat),sv ok h ss n=if n∈ss/\ok n=true then(h n).map (·.dK ok) else none
 |[],n=>by simp[sv,CO]
 |s::ss,n=>by
  have ih:=Mc ok h ss n;simp only[sv,List.mem_cons];by_cases hn:n=s
  ·subst hn;by_cases hk:ok n=true
   ·rw[if_pos hk];cases hh:h n with
    |some b=>simp[bO,hk]
    |none=>simp only[ih,hh];simp
   ·rw[if_neg hk,ih];simp[hk]
  ·by_cases hk:ok s=true
   ·rw[if_pos hk];cases hh:h s with
    |some b=>simp only[cJ _ _ _ _ hn,ih];simp[hn]
    |none=>simp only[ih];simp[hn]
   ·rw[if_neg hk,ih];simp[hn]
theorem adJ (ok:Nat->Bool):∀(ss:List Nat) (n:Nat),wW ok ss n=(decide (n∈ss)&&ok n)
 |[],n=>by simp[wW,XK]
 |s::ss,n=>by
  have ih:=adJ ok ss n;simp only[wW];by_cases hn:n=s
  ·subst hn;by_cases hk:ok n=true
   ·rw[if_pos hk];simp[bO,hk]
   ·rw[if_neg hk,ih];simp[hk]
  ·by_cases hk:ok s=true
   ·rw[if_pos hk,cJ _ _ _ _ hn,ih];simp[hn]
   ·rw[if_neg hk,ih];simp[hn]
theorem ah.ahM {ok:Nat->Bool} {c:ah} {m:Nat} (h:(c.fG ok).hH m):ok m=true:=by
 cases c<;>simp only[ah.fG] at h<;>first|exact h.elim|skip
 all_goals
  split at h
  ·rename_i hk;have h':=h;simp only[ah.hH] at h';subst h';exact hk
  ·exact h.elim
theorem ah.CH {ok:Nat->Bool} {c:ah} {m:Nat} (h:(c.dK ok).ref m):ok m=true:=by
 cases c with
 |fn f cK=>
  obtain⟨x,hx,h⟩:=h;obtain⟨y,hy,rfl⟩:=List.mem_map.1 hx;exact ah.ahM h
 |c x=>exact h.elim
 |nil sz=>exact h.elim
 |de xs off=>exact h.elim
 |bm=>exact h.elim
 |ptr n k sz off=>
  simp only[ah.dK,ah.fG] at h;split at h
  ·rename_i hk;have h':m=n:=h;subst h';exact hk
  ·exact h.elim
 |sl n sz lo len=>
  simp only[ah.dK,ah.fG] at h;split at h
  ·rename_i hk;have h':m=n:=h;subst h';exact hk
  ·exact h.elim
 |bw n k aB off sz len=>
  simp only[ah.dK,ah.fG] at h;split at h
  ·rename_i hk;have h':m=n:=h;subst h';exact hk
  ·exact h.elim
 |cY n k aB off sz i=>
  simp only[ah.dK,ah.fG] at h;split at h
  ·rename_i hk;have h':m=n:=h;subst h';exact hk
  ·exact h.elim
 |cE xs off j n sz len=>
  simp only[ah.dK,ah.fG] at h;split at h
  ·rename_i hk;have h':m=n:=h;subst h';exact hk
  ·exact h.elim
section
variable {B:Nat} {E:Ex} {w0 w w':World} {G G':Gh} {N:Nat} {h h':Nat->Option aq} {ok:Nat->Bool}
variable {P:Program} {T:aN} {a:Act} {σ σ':St} {Q:Exit->Act->World->Prop}
structure qc (ok:Nat->Bool) (h h':Nat->Option aq):Prop where
 le:∀n,ok n=true->h' n=(h n).map (·.dK ok)\/h' n=none
 no:∀n,ok n=false->h' n=none
theorem qc.ne (L:qc ok h h') {n:Nat} (hn:h' n≠none):ok n=true/\h n≠none:=by
 cases hk:ok n with
 |false=>exact absurd (L.no n hk) hn
 |true=>
  refine⟨rfl,fun e=>?_⟩;rcases L.le n hk with h1|h1
  ·rw[e] at h1;exact hn h1
  ·exact hn h1
theorem qc.row (L:qc ok h h') {n:Nat} {gr:Bool} {m:Mode} {sz:Nat} {xs:List (List C)} (hn:h' n=some (.row gr m sz xs)):h n=some (.row gr m sz xs):=by
 obtain⟨hk,h0⟩:=L.ne (n:=n) (by rw[hn];simp);rcases L.le n hk with h1|h1
 ·rw[h1] at hn;cases hh:h n with
  |none=>exact absurd hh h0
  |some b=>cases b with
   |box cs=>rw[hh] at hn;simp[aq.dK] at hn
   |row gr m sz xs=>rw[hh] at hn;simp only[Option.map_some,aq.dK] at hn;exact hn
 ·rw[h1] at hn;cases hn
theorem qc.box (L:qc ok h h') {n:Nat} {cs:List ah} (hn:h' n=some (.box cs)):∃ga,h n=some (.box ga)/\cs=ga.map (·.dK ok):=by
 obtain⟨hk,h0⟩:=L.ne (n:=n) (by rw[hn];simp);rcases L.le n hk with h1|h1
 ·rw[h1] at hn;cases hh:h n with
  |none=>exact absurd hh h0
  |some b=>cases b with
   |box ga=>
    rw[hh] at hn;simp only[Option.map_some,aq.dK] at hn;injection hn with hn;injection hn with hn;exact⟨ga,rfl,hn.symm⟩
   |row gr m sz xs=>rw[hh] at hn;simp[aq.dK] at hn
 ·rw[h1] at hn;cases hn
theorem ir.less (L:qc ok h h') {c:ah} {v:Value} (hc:ir w G h c v):ir w G h' (c.fG ok) v:=by
 cases c with
 |ptr n k sz off=>
  simp only[ah.fG];split
  ·exact fun hn=>hc (L.ne hn).2
  ·trivial
 |sl n sz lo len=>
  simp only[ah.fG];split
  ·exact fun hn=>hc (L.ne hn).2
  ·trivial
 |bw n k aB off sz len=>
  simp only[ah.fG];split
  ·exact fun gr xs hn=>hc gr xs (L.row hn)
  ·trivial
 |cY n k aB off sz i=>
  simp only[ah.fG];split
  ·exact fun gr xs hn=>hc gr xs (L.row hn)
  ·trivial
 |cE xs off j n sz len=>
  simp only[ah.fG];split
  ·obtain⟨b,o,pe,h1,h2,h3,h4,h5⟩:=hc;obtain⟨u,u1,u2,u3⟩:=h5;exact⟨b,o,pe,h1,h2,h3,h4,u,u1,u2,fun hn=>u3 (L.ne hn).2⟩
  ·trivial
 |c x=>exact hc
 |nil sz=>exact hc
 |de xs off=>exact hc
 |fn f cK=>exact hc
 |bm=>exact hc
theorem RC.less (L:qc ok h h') {c:ah} {v:Value} (hc:RC w G h c v):RC w G h' (c.dK ok) v:=by
 cases c with
 |fn f cK=>
  obtain⟨vs,h1,h2,h3⟩:=hc;refine⟨vs,h1,by simpa using h2,fun j c u hj hu=>?_⟩;rw[List.getElem?_map] at hj;cases hc:cK[j]? with
  |none=>rw[hc] at hj;cases hj
  |some c0=>
   rw[hc] at hj;simp at hj;subst hj;exact⟨(h3 j c0 u hc hu).1,(h3 j c0 u hc hu).2.less L⟩
 |ptr n k sz off=>
  have:=ir.less (w:=w) (G:=G) L (c:=.ptr n k sz off) hc;simp only[ah.dK];rw[t8]
  ·exact this
  ·simp only[ah.fG];split<;>rfl
 |sl n sz lo len=>
  have:=ir.less (w:=w) (G:=G) L (c:=.sl n sz lo len) hc;simp only[ah.dK];rw[t8]
  ·exact this
  ·simp only[ah.fG];split<;>rfl
 |bw n k aB off sz len=>
  have:=ir.less (w:=w) (G:=G) L (c:=.bw n k aB off sz len) hc;simp only[ah.dK];rw[t8]
  ·exact this
  ·simp only[ah.fG];split<;>rfl
 |cY n k aB off sz i=>
  have:=ir.less (w:=w) (G:=G) L (c:=.cY n k aB off sz i) hc;simp only[ah.dK];rw[t8]
  ·exact this
  ·simp only[ah.fG];split<;>rfl
 |cE xs off j n sz len=>
  have:=ir.less (w:=w) (G:=G) L (c:=.cE xs off j n sz len) hc;simp only[ah.dK];rw[t8]
  ·exact this
  ·simp only[ah.fG];split<;>rfl
 |c x=>exact hc
 |nil sz=>exact hc
 |de xs off=>exact hc
 |bm=>exact hc
theorem dh.less (L:qc ok h h') {cs:List ah} {vs:List Value} (hc:dh w G h cs vs):dh w G h' (cs.map (·.dK ok)) vs:=by
 refine⟨by simpa using hc.1,fun j c u hj hu=>?_⟩;rw[List.getElem?_map] at hj;cases dG:cs[j]? with
 |none=>rw[dG] at hj;cases hj
 |some c0=>
  rw[dG] at hj;simp at hj;subst hj;exact⟨(hc.2 j c0 u dG hu).1,(hc.2 j c0 u dG hu).2.less L⟩
theorem RV.less (L:qc ok h h') {ag:Bool} {cs:List ah} {v:Value} (hc:RV w G h ag cs v):RV w G h' ag (cs.map (·.dK ok)) v:=by
 unfold RV at*
 split
 ·rename_i h1;simp only[h1,if_true] at hc;obtain⟨vs,e,hv⟩:=hc;exact⟨vs,e,hv.less L⟩
 ·rename_i h1;simp only[h1] at hc;exact dh.less L hc
theorem RA.less (L:qc ok h h') {x:aj} {v:Value} (hc:RA w G h x v):RA w G h' (x.dK ok) v:=by
 cases x with
 |one c=>
  rcases hc with rfl|hc
  ·exact Or.inl rfl
  ·exact Or.inr (RV.less L hc)
 |agg cs=>exact RV.less L hc
 |bH xs=>
  obtain⟨vs,e,hl,hv⟩:=hc;refine⟨vs,e,by simpa using hl,fun j x u hj hu=>?_⟩;rw[List.getElem?_map] at hj;cases dG:xs[j]? with
  |none=>rw[dG] at hj;cases hj
  |some c0=>
   rw[dG] at hj;simp at hj;subst hj;exact RV.less L (hv j c0 u dG hu)
theorem aj.CH {x:aj} {m:Nat} (h:(x.dK ok).ref m):ok m=true:=by
 cases x with
 |one c=>exact ah.CH h
 |agg cs=>
  obtain⟨c,hc,h⟩:=h;obtain⟨c0,dG,rfl⟩:=List.mem_map.1 hc;exact ah.CH h
 |bH xs=>
  obtain⟨x,hx,c,hc,h⟩:=h;obtain⟨x0,Aw,rfl⟩:=List.mem_map.1 hx;obtain⟨c0,dG,rfl⟩:=List.mem_map.1 hc;exact ah.CH h
theorem HR.less {used:Nat->Bool} (H:HR B E w G h used []) (L:qc ok h h'):HR B E w G h' ok []:=by
 refine⟨fun n hn=>(L.ne hn).1,fun m cs c n hm hc hr=>?_,fun n cs hn=>?_,fun n gr m sz xs hn=>H.row n gr m sz xs (L.row hn),fun n hn=>H.own n (L.ne hn).2,fun n n' hn bu=>H.inj n n' (L.ne hn).2 (L.ne bu).2,
  H.gC,H.pH,fun n n' gr m sz xs bn m' aH ar hn bu=>H.gn n n' gr m sz xs bn m' aH ar (L.row hn) (L.row bu),fun n gr sz xs hn b hb n' bu=>H.live n gr sz xs (L.row hn) b hb n' (L.ne bu).2,?_,?_,?_⟩
 ·obtain⟨ga,_,rfl⟩:=L.box hm;obtain⟨c0,_,rfl⟩:=List.mem_map.1 hc;exact ah.CH hr
 ·obtain⟨ga,h0,rfl⟩:=L.box hn;obtain⟨a1,a2,a3⟩:=H.box n ga h0;refine⟨a1,a2,fun j c hj=>?_⟩;rw[List.getElem?_map] at hj;cases dG:ga[j]? with
  |none=>rw[dG] at hj;cases hj
  |some c0=>
   rw[dG] at hj;simp at hj;subst hj;obtain⟨v,b1,b2,b3⟩:=a3 j c0 dG;exact⟨v,b1,b2,b3.less L⟩
 ·intro i pc hi;simp at hi
 ·intro i j pc dv b _ hi;simp at hi
 ·intro i pc n gr m sz xs b hi;simp at hi
theorem HR.at1 {used used':Nat->Bool} (H:HR B E w G h used []) (hu:∀n,used n=true->used' n=true):HR B E w G h used' []:=
 ⟨fun n hn=>hu n (H.ji n hn),fun m cs c n hm hc hr=>hu n (H.iq m cs c n hm hc hr),H.box,H.row,H.own,H.inj,H.gC,H.pH,H.gn,H.live,H.sJ,H.xf,H.sK⟩
theorem SS {ke kh:List Nat} {n:Nat} (hn:σ.j3 ke kh n=true):n∈kh:=by
 simp only[St.j3,Bool.and_eq_true] at hn;simpa using hn.1.1
theorem R.jo (r:R B E w0 N σ a w G) (ke kh:List Nat):R B E w0 N (σ.jo ke kh) a w G:=by
 have L:qc (σ.j3 ke kh) σ.h (σ.jo ke kh).h:=by
  refine⟨fun n hn=>.inl ?_,fun n hn=>?_⟩
  ·show sv _ _ _ n=_;rw[Mc,if_pos ⟨SS hn,hn⟩]
  ·show sv _ _ _ n=_;rw[Mc,if_neg (by simp[hn])]
 have hu:∀n,σ.j3 ke kh n=true->(σ.jo ke kh).used n=true:=by
  intro n hk;show(Nat.ble aW n||wW _ _ n)=true;rw[adJ];simp[hk,SS hk]
 refine⟨r.defers,r.size,fun s=>?_,fun s n hn=>?_,?_,r.fr,fun n p b hp hb=>?_,fun n hn=>?_⟩
 ·show RA w G _ (wV _ _ _ s) _;rw[To];split
  ·exact(r.env s).less L
  ·exact Or.inl rfl
 ·have bu:(wV (σ.j3 ke kh) σ.env ke s).ref n:=hn;rw[To] at bu;split at bu
  ·exact hu n (aj.CH bu)
  ·exact absurd bu id
 ·exact(r.hr.less L).at1 hu
 ·have h0:(σ.jo ke kh).h n≠none:=by rw[hb];simp
  obtain⟨hk,_⟩:=L.ne h0;have oP:=fun b0 (h1:σ.h n=some b0)=>r.oV n p b0 hp h1;have aJ:sv (σ.j3 ke kh) σ.h kh n=some b:=hb;rw[Mc,if_pos ⟨SS hk,hk⟩] at aJ;cases h1:σ.h n with
  |none=>rw[h1] at aJ;cases aJ
  |some b0=>
   obtain⟨p1,p2,p3,p4,p6,p5⟩:=oP b0 h1;refine⟨p1,p2,p3,p4,p6,fun gr sz xs FZ=>?_⟩;rw[h1,FZ] at aJ;cases b0 with
   |box cs=>simp[aq.dK] at aJ
   |row bn m' aH ar=>
    simp only[aq.dK,Option.map_some,Option.some.injEq,aq.row.injEq] at aJ;obtain⟨_,rfl,_,_⟩:=aJ;exact p5 bn aH ar rfl
 ·show(Nat.ble aW n||_)=true;rw[Nat.ble_eq_true_of_le hn];rfl
end
def back (x c n:Nat):Nat:=if n=c then x else n
theorem WL {x c n:Nat} (hn:n≠c):back x c (oe x c n)=n:=by
 unfold back oe;by_cases h:n=x
 ·subst h;simp
 ·simp[h,hn]
theorem asr {x c n:Nat} (hx:x≠c) (hn:n≠c):oe x c n≠x:=by
 unfold oe;by_cases h:n=x
 ·simp[h];exact fun e=>hx e.symm
 ·simp[h]
structure po (x c:Nat) (used:Nat->Bool) (h h':Nat->Option aq):Prop where
 ne:x≠c
 uc:used c=false
 gone:h' x=none
 b:∀n,n≠x->h' n=(h (back x c n)).map (·.br x c)
section
variable {B:Nat} {E:Ex} {w0 w w':World} {G G':Gh} {N:Nat} {h h':Nat->Option aq} {used:Nat->Bool} {x c:Nat}
variable {P:Program} {T:aN} {a:Act} {σ σ':St} {Q:Exit->Act->World->Prop}
def uz (G:Gh) (x c:Nat):Gh:=⟨G.Im,fun n=>G.g (back x c n)⟩
theorem po.at (L:po x c used h h') {n:Nat} (hn:used n=true):h' (oe x c n)=(h n).map (·.br x c):=by
 have hc:n≠c:=fun e=>by subst e;rw[L.uc] at hn;cases hn
 rw[L.b _ (asr L.ne hc),WL hc]
theorem po.FR (L:po x c used h h') {n:Nat} (hn:used n=true):(uz G x c).g (oe x c n)=G.g n:=by
 have hc:n≠c:=fun e=>by subst e;rw[L.uc] at hn;cases hn
 show G.g (back x c (oe x c n))=_;rw[WL hc]
theorem LD {o:Option aq} (hn:o.map (·.br x c)≠none):o≠none:=by
 cases o with
 |none=>exact absurd rfl hn
 |some b=>simp
theorem Sy {o:Option aq} {gr:Bool} {m:Mode} {sz:Nat} {xs:List (List C)} (hn:o.map (·.br x c)=some (.row gr m sz xs)):o=some (.row gr m sz xs):=by
 cases o with
 |none=>cases hn
 |some b=>cases b with
  |box cs=>simp[aq.br] at hn
  |row gr m sz xs=>exact hn
theorem abl {o:Option aq} {cs:List ah} (hn:o.map (·.br x c)=some (.box cs)):∃ga,o=some (.box ga)/\cs=ga.map (·.br x c):=by
 cases o with
 |none=>cases hn
 |some b=>cases b with
  |box ga=>
   simp only[Option.map_some,aq.br] at hn;injection hn with hn;injection hn with hn;exact⟨ga,rfl,hn.symm⟩
  |row gr m sz xs=>simp[aq.br] at hn
theorem ir.br (L:po x c used h h') {y:ah} {v:Value} (hr:∀m,y.hH m->used m=true) (hc:ir w G h y v):ir w (uz G x c) h' (y.oY x c) v:=by
 cases y with
 |ptr n k sz off=>
  intro hn;rw[L.at (hr n rfl)] at hn;rw[L.FR (hr n rfl)];exact hc (LD hn)
 |sl n sz lo len=>
  intro hn;rw[L.at (hr n rfl)] at hn;rw[L.FR (hr n rfl)];exact hc (LD hn)
 |bw n k aB off sz len=>
  intro gr xs hn;rw[L.at (hr n rfl)] at hn;rw[L.FR (hr n rfl)];exact hc gr xs (Sy hn)
 |cY n k aB off sz i=>
  intro gr xs hn;rw[L.at (hr n rfl)] at hn;rw[L.FR (hr n rfl)];exact hc gr xs (Sy hn)
 |cE xs off j n sz len=>
  obtain⟨b,o,pe,h1,h2,h3,h4,h5⟩:=hc;obtain⟨u,u1,u2,u3⟩:=h5;refine⟨b,o,pe,h1,h2,h3,h4,u,u1,u2,fun hn=>?_⟩;rw[L.at (hr n rfl)] at hn;rw[L.FR (hr n rfl)];exact u3 (LD hn)
 |c x=>exact hc
 |nil sz=>exact hc
 |de xs off=>exact hc
 |fn f cK=>exact hc
 |bm=>exact hc
theorem RC.br (L:po x c used h h') {y:ah} {v:Value} (hr:∀m,y.ref m->used m=true) (hc:RC w G h y v):RC w (uz G x c) h' (y.br x c) v:=by
 cases y with
 |fn f cK=>
  obtain⟨vs,h1,h2,h3⟩:=hc;refine⟨vs,h1,by simpa using h2,fun j y u hj hu=>?_⟩;rw[List.getElem?_map] at hj;cases hc:cK[j]? with
  |none=>rw[hc] at hj;cases hj
  |some c0=>
   rw[hc] at hj;simp at hj;subst hj;exact⟨(h3 j c0 u hc hu).1,(h3 j c0 u hc hu).2.br L fun m hm=>hr m ⟨c0,List.mem_of_getElem? hc,hm⟩⟩
 |ptr n k sz off=>exact ir.br (w:=w) (G:=G) L (y:=.ptr n k sz off) hr hc
 |sl n sz lo len=>exact ir.br (w:=w) (G:=G) L (y:=.sl n sz lo len) hr hc
 |bw n k aB off sz len=>exact ir.br (w:=w) (G:=G) L (y:=.bw n k aB off sz len) hr hc
 |cY n k aB off sz i=>exact ir.br (w:=w) (G:=G) L (y:=.cY n k aB off sz i) hr hc
 |cE xs off j n sz len=>exact ir.br (w:=w) (G:=G) L (y:=.cE xs off j n sz len) hr hc
 |c x=>exact hc
 |nil sz=>exact hc
 |de xs off=>exact hc
 |bm=>exact hc
theorem dh.br (L:po x c used h h') {cs:List ah} {vs:List Value} (hr:∀y∈cs,∀m,y.ref m->used m=true) (hc:dh w G h cs vs):dh w (uz G x c) h' (cs.map (·.br x c)) vs:=by
 refine⟨by simpa using hc.1,fun j y u hj hu=>?_⟩;rw[List.getElem?_map] at hj;cases dG:cs[j]? with
 |none=>rw[dG] at hj;cases hj
 |some c0=>
  rw[dG] at hj;simp at hj;subst hj;exact⟨(hc.2 j c0 u dG hu).1,(hc.2 j c0 u dG hu).2.br L (hr c0 (List.mem_of_getElem? dG))⟩
theorem RV.br (L:po x c used h h') {ag:Bool} {cs:List ah} {v:Value} (hr:∀y∈cs,∀m,y.ref m->used m=true) (hc:RV w G h ag cs v):RV w (uz G x c) h' ag (cs.map (·.br x c)) v:=by
 unfold RV at*
 split
 ·rename_i h1;simp only[h1,if_true] at hc;obtain⟨vs,e,hv⟩:=hc;exact⟨vs,e,hv.br L hr⟩
 ·rename_i h1;simp only[h1] at hc;exact dh.br L hr hc
theorem RA.br (L:po x c used h h') {y:aj} {v:Value} (hr:∀m,y.ref m->used m=true) (hc:RA w G h y v):RA w (uz G x c) h' (y.br x c) v:=by
 cases y with
 |one y=>
  rcases hc with rfl|hc
  ·exact Or.inl rfl
  ·exact Or.inr (RV.br L (fun z hz m hm=>hr m (by simp at hz;subst hz;exact hm)) hc)
 |agg cs=>exact RV.br L (fun z hz m hm=>hr m ⟨z,hz,hm⟩) hc
 |bH xs=>
  obtain⟨vs,e,hl,hv⟩:=hc;refine⟨vs,e,by simpa using hl,fun j y u hj hu=>?_⟩;rw[List.getElem?_map] at hj;cases dG:xs[j]? with
  |none=>rw[dG] at hj;cases hj
  |some c0=>
   rw[dG] at hj;simp at hj;subst hj;exact RV.br L (fun z hz m hm=>hr m ⟨c0,List.mem_of_getElem? dG,z,hz,hm⟩) (hv j c0 u dG hu)
def zj (used:Nat->Bool) (x c:Nat):Nat->Bool:=fun n=>if n=c then used x else if n=x then false else used n
theorem ah.D9 (L:po x c used h h') {y:ah} {m:Nat} (hr:∀m,y.hH m->used m=true) (hm:(y.oY x c).hH m):zj used x c m=true:=by
 have db:∀n,used n=true->m=oe x c n->zj used x c m=true:=by
  intro n hn e;subst e;have hc:n≠c:=fun e=>by subst e;rw[L.uc] at hn;cases hn
  unfold zj oe;by_cases h1:n=x
  ·subst h1;simp[hn]
  ·simp[h1,hc,hn]
 cases y<;>first|exact absurd hm id|exact db _ (hr _ rfl) hm
theorem ah.Ea (L:po x c used h h') {y:ah} {m:Nat} (hr:∀m,y.ref m->used m=true) (hm:(y.br x c).ref m):zj used x c m=true:=by
 cases y with
 |fn f cK=>
  obtain⟨z,hz,hm⟩:=hm;obtain⟨z0,wE,rfl⟩:=List.mem_map.1 hz;exact ah.D9 L (fun m hm=>hr m ⟨z0,wE,hm⟩) hm
 |ptr n k sz off=>exact ah.D9 L (y:=.ptr n k sz off) hr hm
 |sl n sz lo len=>exact ah.D9 L (y:=.sl n sz lo len) hr hm
 |bw n k aB off sz len=>exact ah.D9 L (y:=.bw n k aB off sz len) hr hm
 |cY n k aB off sz i=>exact ah.D9 L (y:=.cY n k aB off sz i) hr hm
 |cE xs off j n sz len=>exact ah.D9 L (y:=.cE xs off j n sz len) hr hm
 |c x=>exact absurd hm id
 |nil sz=>exact absurd hm id
 |de xs off=>exact absurd hm id
 |bm=>exact absurd hm id
theorem aj.Ea (L:po x c used h h') {y:aj} {m:Nat} (hr:∀m,y.ref m->used m=true) (hm:(y.br x c).ref m):zj used x c m=true:=by
 cases y with
 |one y=>exact ah.Ea L hr hm
 |agg cs=>
  obtain⟨z,hz,hm⟩:=hm;obtain⟨z0,wE,rfl⟩:=List.mem_map.1 hz;exact ah.Ea L (fun m hm=>hr m ⟨z0,wE,hm⟩) hm
 |bH xs=>
  obtain⟨p,hp,z,hz,hm⟩:=hm;obtain⟨p0,Gk,rfl⟩:=List.mem_map.1 hp;obtain⟨z0,wE,rfl⟩:=List.mem_map.1 hz;exact ah.Ea L (fun m hm=>hr m ⟨p0,Gk,z0,wE,hm⟩) hm
theorem HR.br (H:HR B E w G h used []) (L:po x c used h h'):HR B E w (uz G x c) h' (zj used x c) []:=by
 have nx:∀n,h' n≠none->n≠x:=fun n hn e=>by subst e;exact hn L.gone
 have hb:∀n,h' n≠none->h (back x c n)≠none:=fun n hn=>by
  have:=L.b n (nx n hn);rw[this] at hn;exact LD hn
 have eW:∀{n gr m sz xs},h' n=some (.row gr m sz xs)->h (back x c n)=some (.row gr m sz xs):=by
  intro n gr m sz xs hn;have:=L.b n (nx n (by rw[hn];simp));rw[this] at hn;exact Sy hn
 have uC:∀n n',n≠x->n'≠x->n≠n'->back x c n≠back x c n':=by
  intro n n' h1 h2 h3;unfold back;by_cases e1:n=c
  ·by_cases e2:n'=c
   ·omega
   ·simp[e1,e2];omega
  ·by_cases e2:n'=c
   ·simp[e1,e2];omega
   ·simp[e1,e2];omega
 have yn:∀n,n≠x->used (back x c n)=true->zj used x c n=true:=by
  intro n h1 h2;unfold zj;unfold back at h2;by_cases e1:n=c
  ·simp[e1] at h2⊢;exact h2
  ·simp[e1] at h2;simp[e1,h1,h2]
 refine⟨fun n hn=>yn n (nx n hn) (H.ji _ (hb n hn)),fun m cs y n hm hy hr=>?_,fun n cs hn=>?_,fun n gr m sz xs hn=>?_,fun n hn=>H.own _ (hb n hn),
  fun n n' hn bu aF=>H.inj _ _ (hb n hn) (hb n' bu) (uC n n' (nx n hn) (nx n' bu) aF),H.gC,H.pH,fun n n' gr m sz xs bn m' aH ar hn bu hm bL aF=>H.gn _ _ gr m sz xs bn m' aH ar (eW hn) (eW bu) hm bL
   (uC n n' (nx n (by rw[hn];simp)) (nx n' (by rw[bu];simp)) aF),fun n gr sz xs hn b aJ n' bu=>H.live _ gr sz xs (eW hn) b aJ _ (hb n' bu),?_,?_,?_⟩
 ·have KX:=nx m (by rw[hm];simp);rw[L.b m KX] at hm;obtain⟨ga,h0,rfl⟩:=abl hm;obtain⟨y0,La,rfl⟩:=List.mem_map.1 hy;exact ah.Ea L (fun q hq=>H.iq _ ga y0 q h0 La hq) hr
 ·have Ap:=nx n (by rw[hn];simp);rw[L.b n Ap] at hn;obtain⟨ga,h0,rfl⟩:=abl hn;obtain⟨a1,a2,a3⟩:=H.box _ ga h0;refine⟨a1,a2,fun j y hj=>?_⟩;rw[List.getElem?_map] at hj;cases dG:ga[j]? with
  |none=>rw[dG] at hj;cases hj
  |some y0=>
   rw[dG] at hj;simp at hj;subst hj;obtain⟨v,b1,b2,b3⟩:=a3 j y0 dG;exact⟨v,b1,b2,b3.br L fun q hq=>H.iq _ ga y0 q h0 (List.mem_of_getElem? dG) hq⟩
 ·have hr:=H.row _ gr m sz xs (eW hn);refine⟨hr.pos,hr.er,hr.nl,hr.eI,hr.room,?_,hr.nr⟩;have hm:=hr.mode;cases m<;>exact hm
 ·intro i pc hi;simp at hi
 ·intro i j pc dv b _ hi;simp at hi
 ·intro i pc n gr m sz xs b hi;simp at hi
theorem R.br (r:R B E w0 N σ a w G) (hx:σ.br x c=some σ'):∃G',R B E w0 N σ' a w G':=by
 unfold St.br at hx;split at hx
 ·injection hx with hx;subst hx;exact⟨G,r⟩
 ·rename_i aF;split at hx
  ·injection hx with hx;subst hx;exact⟨G,r⟩
  rename_i hxp;split at hx
  ·cases hx
  ·rename_i hu;injection hx with hx;subst hx;have x4:¬aW<=c:=fun hc=>by rw[r.u7 c hc] at hu;exact hu rfl
   have aav:¬aW<=x:=fun hc=>hxp (Nat.ble_eq_true_of_le hc);have K6:σ.used c=false:=by simpa using hu
   have L:po x c σ.used σ.h (fun n=>if n=c then(σ.h x).map (·.br x c) else if n=x then none else(σ.h n).map (·.br x c)):=by
    refine⟨aF,K6,by simp[aF],fun n hn=>?_⟩;unfold back;by_cases h1:n=c
    ·simp[h1]
    ·simp[h1,hn]
   exact⟨uz G x c,r.defers,r.size,fun s=>(r.env s).br L (fun m hm=>r.pg s m hm),fun s n hn=>aj.Ea L (fun m hm=>r.pg s m hm) hn,r.hr.br L,r.fr,fun n p b hp hb=>by
    have hn:=E.lt n p hp;have th:n≠c:=fun e=>x4 (e▸hn);have Ap:n≠x:=fun e=>aav (e▸hn);have aJ:(if n=c then(σ.h x).map (·.br x c) else if n=x then none else(σ.h n).map (·.br x c))=some b:=hb
    rw[if_neg th,if_neg Ap] at aJ;have hg:(uz G x c).g n=G.g n:=by simp[uz,back,th]
    rw[hg];cases h1:σ.h n with
    |none=>rw[h1] at aJ;cases aJ
    |some b0=>
     obtain⟨p1,p2,p3,p4,p6,p5⟩:=r.oV n p b0 hp h1;refine⟨p1,p2,p3,p4,p6,fun gr sz xs FZ=>?_⟩;rw[h1,FZ] at aJ;cases b0 with
     |box cs=>simp[aq.br] at aJ
     |row bn m' aH ar=>
      simp only[aq.br,Option.map_some,Option.some.injEq,aq.row.injEq] at aJ;obtain⟨_,rfl,_,_⟩:=aJ;exact p5 bn aH ar rfl,fun n hn=>by
    have th:n≠c:=fun e=>x4 (e▸hn);have Ap:n≠x:=fun e=>aav (e▸hn);show(if n=c then σ.used x else if n=x then false else σ.used n)=true
    rw[if_neg th,if_neg Ap];exact r.u7 n hn⟩
theorem R.aaI (r:R B E w0 N σ a w G) {m:Mode} {sz:Nat} (bU:0<sz) (hx:σ.ins c (.row true m sz [])=some σ'):
  ∃G',R B E w0 N σ' a w G'/\RC w G' σ'.h (.sl c sz 0 0) (.slice none 0 0):=by
 obtain⟨hn,rfl⟩:=ko hx;have G7:∀b,¬bf b ([]:List (List PC)):=by rintro b ⟨k,j,q,⟨e,he,_⟩,_⟩;simp at he
 have jV:iM ([]:List (List PC)):=⟨by rintro k j q ⟨e,he,_⟩;simp at he,by rintro k j q k' j' q' b ⟨e,he,_⟩;simp at he⟩;have H:=r.hr.insert (w':=w) (n:=c) (blk:=.row true m sz []) (p:=⟨true,0,0,0,[],none⟩) hn (fun _ _=>rfl) (Nat.le_refl _) (fun hf=>by cases hf) (fun cs y q hb=>by cases hb)
  (by
   refine⟨bU,rfl,fun _=>⟨rfl,fun _=>rfl⟩,(fun hf=>by cases hf),(fun hf=>by cases hf),?_,fun _ _ k pc hk=>by obtain⟨e,he,_⟩:=hk;simp at he⟩;cases m with
   |aI=>exact fun b hb=>absurd hb (G7 b)
   |aO=>exact⟨fun b hb=>absurd hb (G7 b),jV⟩
   |live=>exact⟨fun b hb=>absurd hb (G7 b),jV⟩)
  (fun gr m' aH ar hb hm n' bn jH jc gx h0 ic b cN=>absurd cN (G7 b)) (fun gr aH ar hb b cN=>absurd cN (G7 b)) (fun gr m' aH ar hb hm i pc b hi=>by simp at hi)
 refine⟨_,r.step rfl (fun q hq=>oy _ _ hq) (bk.insert r.hr hn (fun _ _=>rfl)) H r.fr,fun _=>?_⟩;simp only[bO];exact Or.inl ⟨rfl,rfl,rfl,rfl⟩
end
theorem ah.CL (n:Nat) (c:ah):c.iB n=c\/c.iB n=.bm:=by
 cases c<;>first|(exact .inl rfl)|skip
 ·rename_i m k aB off sz len;cases h:Nat.beq m n with
  |true=>exact .inr (by simp[ah.iB,h])
  |false=>exact .inl (by simp[ah.iB,h])
 ·rename_i m k aB off sz i;cases h:Nat.beq m n with
  |true=>exact .inr (by simp[ah.iB,h])
  |false=>exact .inl (by simp[ah.iB,h])
theorem ah.ah2 (n:Nat) (c:ah):(c.iB n).iB n=c.iB n:=by
 rcases c.CL n with h|h
 ·rw[h,h]
 ·rw[h];rfl
theorem ah.ah3 {n m:Nat} {c:ah} (h:(c.iB n).hH m):c.hH m:=by
 rcases c.CL n with h1|h1
 ·rwa[h1] at h
 ·rw[h1] at h;exact h.elim
theorem ah.Fv (n:Nat) (c:ah) (hc:c.jW=false):c.cut n=c.iB n:=by
 cases c<;>first|rfl|(simp[ah.jW] at hc)
theorem ah.CM (n:Nat) (c:ah):(c.cut n).cut n=c.cut n:=by
 by_cases hc:c.jW=false
 ·rw[ah.Fv n c hc];rcases c.CL n with h|h
  ·rw[h,ah.Fv n c hc,h]
  ·rw[h];rfl
 ·cases c<;>first|(simp[ah.jW] at hc;done)|skip
  simp only[ah.cut,List.map_map];congr 1;apply List.map_congr_left;intro x _;exact ah.ah2 n x
theorem ah.CN {n m:Nat} {c:ah} (h:(c.cut n).ref m):c.ref m:=by
 by_cases hc:c.jW=false
 ·rw[ah.Fv n c hc] at h;rcases c.CL n with h1|h1
  ·rwa[h1] at h
  ·rw[h1] at h;exact h.elim
 ·cases c<;>first|(simp[ah.jW] at hc;done)|skip
  obtain⟨x,hx,hm⟩:=h;obtain⟨y,hy,rfl⟩:=List.mem_map.1 hx;exact⟨y,hy,ah.ah3 hm⟩
theorem aj.CN {n m:Nat} {x:aj} (h:(x.cut n).ref m):x.ref m:=by
 cases x with
 |one c=>exact ah.CN h
 |agg cs=>
  obtain⟨c,hc,hm⟩:=h;obtain⟨y,hy,rfl⟩:=List.mem_map.1 hc;exact⟨y,hy,ah.CN hm⟩
 |bH xs=>
  obtain⟨x,hx,c,hc,hm⟩:=h;obtain⟨y,hy,rfl⟩:=List.mem_map.1 hx;obtain⟨z,hz,rfl⟩:=List.mem_map.1 hc;exact⟨y,hy,z,hz,ah.CN hm⟩
theorem aj.CM (n:Nat) (x:aj):(x.cut n).cut n=x.cut n:=by
 cases x with
 |one c=>simp only[aj.cut,ah.CM]
 |agg cs=>
  simp only[aj.cut,List.map_map];congr 1;apply List.map_congr_left;intro x _;exact ah.CM n x
 |bH xs=>
  simp only[aj.cut,List.map_map];congr 1;apply List.map_congr_left;intro x _;simp only[Function.comp,List.map_map];congr 1;apply List.map_congr_left;intro y _;exact ah.CM n y
section
variable {B:Nat} {E:Ex} {w0 w w':World} {G G':Gh} {N:Nat} {h h':Nat->Option aq} {used:Nat->Bool}
variable {P:Program} {a:Act} {σ σ':St} {n:Nat}
theorem vJ {m:Nat} (hm:(h m).map (aq.cut n)≠none):h m≠none:=by
 intro hh;rw[hh] at hm;exact hm rfl
theorem xP {m:Nat} {gr:Bool} {mo:Mode} {sz:Nat} {xs:List (List C)} (hm:(h m).map (aq.cut n)=some (.row gr mo sz xs)):h m=some (.row gr mo sz xs):=by
 cases hh:h m with
 |none=>rw[hh] at hm;cases hm
 |some b=>
  rw[hh] at hm;cases b with
  |box cs=>simp[aq.cut] at hm
  |row bn jH aH ar=>simpa[aq.cut] using hm
theorem PH {m:Nat} {cs:List ah} (hm:(h m).map (aq.cut n)=some (.box cs)):∃ga,h m=some (.box ga)/\cs=ga.map (·.cut n):=by
 cases hh:h m with
 |none=>rw[hh] at hm;cases hm
 |some b=>
  rw[hh] at hm;cases b with
  |box ga=>simp[aq.cut] at hm;exact⟨ga,rfl,hm.symm⟩
  |row bn jH aH ar=>simp[aq.cut] at hm
theorem ir.cut {c:ah} {v:Value} (hc:ir w G h c v):ir w G (fun m=>(h m).map (aq.cut n)) (c.iB n) v:=by
 rcases c.CL n with e|e
 ·rw[e];cases c with
  |c x=>exact hc
  |nil sz=>exact hc
  |ptr m k sz off=>exact fun hm=>hc (vJ hm)
  |de xs off=>exact hc
  |sl m sz lo len=>exact fun hm=>hc (vJ hm)
  |bw m k aB off sz len=>exact fun gr xs hm=>hc gr xs (xP hm)
  |cY m k aB off sz i=>exact fun gr xs hm=>hc gr xs (xP hm)
  |cE xs off j m sz len=>
   obtain⟨b,o,pe,h1,h2,h3,h4,u,u1,u2,u3⟩:=hc;exact⟨b,o,pe,h1,h2,h3,h4,u,u1,u2,fun hm=>u3 (vJ hm)⟩
  |fn f cK=>exact hc
  |bm=>trivial
 ·rw[e];trivial
theorem RC.cut {c:ah} {v:Value} (hc:RC w G h c v):RC w G (fun m=>(h m).map (aq.cut n)) (c.cut n) v:=by
 by_cases hf:c.jW=false
 ·rw[t8 _ _ _ _ _ hf] at hc;rw[ah.Fv n c hf];have h1:=hc.cut (n:=n);rcases c.CL n with e|e
  ·rw[e] at h1⊢;rw[t8 _ _ _ _ _ hf];exact h1
  ·rw[e];trivial
 ·cases c<;>first|(simp[ah.jW] at hf;done)|skip
  obtain⟨vs,h1,h2,h3⟩:=hc;refine⟨vs,h1,by simpa using h2,fun j c u hj hu=>?_⟩;rw[List.getElem?_map] at hj;cases dG:(_:List ah)[j]? with
  |none=>rw[dG] at hj;cases hj
  |some c0=>
   rw[dG] at hj;injection hj with hj;subst hj;exact⟨(h3 j c0 u dG hu).1,(h3 j c0 u dG hu).2.cut⟩
theorem dh.cut {cs:List ah} {vs:List Value} (hc:dh w G h cs vs):dh w G (fun m=>(h m).map (aq.cut n)) (cs.map (·.cut n)) vs:=by
 refine⟨by simpa using hc.1,fun j c u hj hu=>?_⟩;rw[List.getElem?_map] at hj;cases dG:cs[j]? with
 |none=>rw[dG] at hj;cases hj
 |some c0=>
  rw[dG] at hj;injection hj with hj;subst hj;exact⟨(hc.2 j c0 u dG hu).1,(hc.2 j c0 u dG hu).2.cut⟩
theorem RV.cut {ag:Bool} {cs:List ah} {v:Value} (hc:RV w G h ag cs v):RV w G (fun m=>(h m).map (aq.cut n)) ag (cs.map (·.cut n)) v:=by
 unfold RV at*
 split
 ·rename_i h1;simp only[h1,if_true] at hc;obtain⟨vs,e,hv⟩:=hc;exact⟨vs,e,hv.cut⟩
 ·rename_i h1;simp only[h1] at hc;exact dh.cut hc
theorem RA.cut {x:aj} {v:Value} (hc:RA w G h x v):RA w G (fun m=>(h m).map (aq.cut n)) (x.cut n) v:=by
 cases x with
 |one c=>
  rcases hc with rfl|hc
  ·exact .inl rfl
  ·exact .inr (RV.cut (n:=n) hc)
 |agg cs=>exact RV.cut (n:=n) (ag:=true) hc
 |bH xs=>
  obtain⟨vs,e,hl,hv⟩:=hc;refine⟨vs,e,by simpa using hl,fun j x u hj hu=>?_⟩;rw[List.getElem?_map] at hj;cases dG:xs[j]? with
  |none=>rw[dG] at hj;cases hj
  |some x0=>
   rw[dG] at hj;injection hj with hj;subst hj;exact(hv j x0 u dG hu).cut
theorem R.cut (r:R B E w0 N σ a w G) (n:Nat):R B E w0 N (σ.cut n) a w G:=by
 have H:=r.hr;refine⟨r.defers,r.size,fun s=>(r.env s).cut,fun s m hm=>r.pg s m (aj.CN hm),?_,r.fr,fun m p b hp hb=>?_,r.u7⟩
 ·refine⟨fun m hm=>H.ji m (vJ hm),fun m cs c q hm hc hr=>?_,fun m cs hm=>?_,fun m gr mo sz xs hm=>H.row m gr mo sz xs (xP hm),fun m hm=>H.own m (vJ hm),
   fun m m' hm bL=>H.inj m m' (vJ hm) (vJ bL),H.gC,H.pH,fun m m' gr mo sz xs bn jH aH ar hm bL=>H.gn m m' gr mo sz xs bn jH aH ar (xP hm) (xP bL),
   fun m gr sz xs hm b hb m' bL=>H.live m gr sz xs (xP hm) b hb m' (vJ bL),by intro i pc hi;simp at hi,by intro i j pc dv b _ hi;simp at hi,by intro i pc n gr m sz xs b hi;simp at hi⟩
  ·obtain⟨ga,h1,rfl⟩:=PH hm;obtain⟨c0,dG,rfl⟩:=List.mem_map.1 hc;exact H.iq m ga c0 q h1 dG (ah.CN hr)
  ·obtain⟨ga,h1,rfl⟩:=PH hm;obtain⟨a1,a2,a3⟩:=H.box m ga h1;refine⟨a1,a2,fun j c hj=>?_⟩;rw[List.getElem?_map] at hj;cases dG:ga[j]? with
   |none=>rw[dG] at hj;cases hj
   |some c0=>
    rw[dG] at hj;injection hj with hj;subst hj;obtain⟨v,b1,b2,b3⟩:=a3 j c0 dG;exact⟨v,b1,b2,b3.cut⟩
 ·have aJ:(σ.h m).map (aq.cut n)=some b:=hb;cases hh:σ.h m with
  |none=>rw[hh] at aJ;cases aJ
  |some b0=>
   obtain⟨p1,p2,p3,p4,p5,p6⟩:=r.oV m p b0 hp hh;refine⟨p1,p2,p3,p4,p5,fun gr sz xs e=>?_⟩;subst e;have:=xP aJ;rw[hh] at this;injection this with this;exact p6 gr sz xs this
structure B9 (q:Nat) (w:World) (G:Gh) (h:Nat->Option aq) (used:Nat->Prop) (w':World) (G':Gh) (h':Nat->Option aq):Prop where
 im:∀b,G.Im b->G'.Im b
 cell:∀b,G.Im b->∀o,w'.cell? (ad b o)=w.cell? (ad b o)
 name:∀n,used n->h' n≠none->h n≠none/\(G'.g n).nl=(G.g n).nl/\(G'.g n).b=(G.g n).b/\(G'.g n).o=(G.g n).o/\(G'.g n).cap=(G.g n).cap/\(G'.g n).na=(G.g n).na
 live:∀n gr sz xs,n≠q->used n->h' n=some (.row gr .live sz xs)->(∃qq jp,h n=some (.row qq .live sz jp))/\
  ∀k j pc,At (G.g n).px k j pc->pc.ie=true->∃dv,At (G'.g n).px k j dv/\dv.val=pc.val/\dv.ie=true
 box:∀b o v,G.Im b->w.cell? (ad b o)=some v->w'.cell? (ad b o)=some v
theorem ir.pL {q:Nat} {used:Nat->Prop} (K:B9 q w G h used w' G' h') {c:ah} {v:Value} (hq:c.iB q=c) (hr:∀m,c.hH m->used m) (hc:ir w G h c v):ir w' G' h' c v:=by
 cases c with
 |c x=>
  obtain⟨pc,h1,h2,h3,h4⟩:=hc;exact⟨pc,h1,h2,h3.congr fun b hb o=>K.cell b (h4 b hb) o,fun b hb=>K.im b (h4 b hb)⟩
 |nil sz=>exact hc
 |ptr n k sz off=>
  intro hn;obtain⟨h0,e1,e2,e3,e4,e5⟩:=K.name n (hr n rfl) hn;rw[e1,e2,e3];exact hc h0
 |de xs off=>
  obtain⟨b,o,pe,h1,h2,h3,h4⟩:=hc;refine⟨b,o,pe,h1,h2,K.im b h3,fun j c hj=>?_⟩;obtain⟨a1,a2,a3⟩:=h4 j c hj;exact⟨(K.cell b h3 _).trans a1,a2.congr fun b' aJ o'=>K.cell b' (a3 b' aJ) o',fun b' aJ=>K.im b' (a3 b' aJ)⟩
 |sl n sz lo len=>
  intro hn;obtain⟨h0,e1,e2,e3,e4,e5⟩:=K.name n (hr n rfl) hn;have:=hc h0;unfold gM at*
  rw[e1,e2,e3,e4,e5];exact this
 |bw n k aB off sz len=>
  have aF:n≠q:=by
   rintro rfl;simp[ah.iB,Nat.beq_refl] at hq
  intro gr xs hn;obtain⟨⟨qq,jp,h0⟩,hl⟩:=K.live n gr aB xs aF (hr n rfl) hn;obtain⟨pc,p1,p2,p3⟩:=hc qq jp h0;obtain⟨dv,q1,q2,q3⟩:=hl k off pc p1 p3;exact⟨dv,q1,q2.trans p2,q3⟩
 |cY n k aB off sz i=>
  have aF:n≠q:=by
   rintro rfl;simp[ah.iB,Nat.beq_refl] at hq
  intro gr xs hn;obtain⟨⟨qq,jp,h0⟩,hl⟩:=K.live n gr aB xs aF (hr n rfl) hn;obtain⟨pc,b,o,len,cap,p1,p2,p3,p4⟩:=hc qq jp h0;obtain⟨dv,q1,q2,q3⟩:=hl k off pc p1 p3;exact⟨dv,b,o,len,cap,q1,q2.trans p2,q3,p4⟩
 |cE xs off j n sz len=>
  obtain⟨b,o,pe,h1,h2,h3,h4,h5⟩:=hc;obtain⟨u,u1,u2,u3⟩:=h5;refine⟨b,o,pe,h1,h2,K.im b h3,fun i c iv hi=>?_,u,(K.cell b h3 _).trans u1,u2,fun hn=>?_⟩
  ·obtain⟨a1,a2,a3⟩:=h4 i c iv hi;exact⟨(K.cell b h3 _).trans a1,a2.congr fun b' aJ o'=>K.cell b' (a3 b' aJ) o',fun b' aJ=>K.im b' (a3 b' aJ)⟩
  ·obtain⟨h0,e1,e2,e3,e4,e5⟩:=K.name n (hr n rfl) hn;have:=u3 h0;unfold gM at*
   rw[e1,e2,e3,e4,e5];exact this
 |fn f cK=>exact hc
 |bm=>trivial
theorem RC.pL {q:Nat} {used:Nat->Prop} (K:B9 q w G h used w' G' h') {c:ah} {v:Value} (hq:c.cut q=c) (hr:∀m,c.ref m->used m) (hc:RC w G h c v):RC w' G' h' c v:=by
 by_cases hf:c.jW=false
 ·rw[t8 _ _ _ _ _ hf] at*
  rw[ah.Fv q c hf] at hq;exact hc.pL K hq fun m hm=>hr m (by rw[ah.adG c m hf];exact hm)
 ·cases c<;>first|(simp[ah.jW] at hf;done)|skip
  rename_i f cK;obtain⟨vs,h1,h2,h3⟩:=hc;injection hq with _ hq;refine⟨vs,h1,h2,fun j c u hj hu=>⟨(h3 j c u hj hu).1,(h3 j c u hj hu).2.pL K ?_ fun m hm=>hr m ⟨c,List.mem_of_getElem? hj,hm⟩⟩⟩;have:=congrArg (fun l:List ah=>l[j]?) hq;simp only[List.getElem?_map,hj,Option.map_some,Option.some.injEq] at this;exact this
theorem dh.pL {q:Nat} {used:Nat->Prop} (K:B9 q w G h used w' G' h') {cs:List ah} {vs:List Value} (hq:∀c∈cs,c.cut q=c) (hr:∀c∈cs,∀m,c.ref m->used m) (hc:dh w G h cs vs):dh w' G' h' cs vs:=
 ⟨hc.1,fun j c u hj hu=>⟨(hc.2 j c u hj hu).1,(hc.2 j c u hj hu).2.pL K (hq c (List.mem_of_getElem? hj)) (hr c (List.mem_of_getElem? hj))⟩⟩
theorem RV.pL {q:Nat} {used:Nat->Prop} (K:B9 q w G h used w' G' h') {ag:Bool} {cs:List ah} {v:Value} (hq:∀c∈cs,c.cut q=c) (hr:∀c∈cs,∀m,c.ref m->used m) (hc:RV w G h ag cs v):RV w' G' h' ag cs v:=by
 unfold RV at*
 split
 ·rename_i h1;simp only[h1,if_true] at hc;obtain⟨vs,e,hv⟩:=hc;exact⟨vs,e,hv.pL K hq hr⟩
 ·rename_i h1;simp only[h1] at hc;exact dh.pL K hq hr hc
theorem abm {q:Nat} {cs:List ah} (h:cs.map (·.cut q)=cs):∀c∈cs,c.cut q=c:=by
 intro c hc;obtain⟨j,hj⟩:=List.getElem?_of_mem hc;have:=congrArg (fun l:List ah=>l[j]?) h;simp only[List.getElem?_map,hj,Option.map_some,Option.some.injEq] at this;exact this
theorem RA.pL {q:Nat} {used:Nat->Prop} (K:B9 q w G h used w' G' h') {x:aj} {v:Value} (hq:x.cut q=x) (hr:∀m,x.ref m->used m) (hc:RA w G h x v):RA w' G' h' x v:=by
 cases x with
 |one c=>
  injection hq with hq;exact hc.imp id fun hv=>RV.pL K (fun c' dm=>by simp at dm;subst dm;exact hq) (fun c' dm m hm=>hr m (by simp at dm;subst dm;exact hm)) hv
 |agg cs=>
  injection hq with hq;exact RV.pL K (abm hq) (fun c' dm m hm=>hr m ⟨c',dm,hm⟩) hc
 |bH xs=>
  injection hq with hq;obtain⟨vs,e,hl,hv⟩:=hc;refine⟨vs,e,hl,fun j x u hj hu=>RV.pL K (abm ?_) (fun c' dm m hm=>hr m ⟨x,List.mem_of_getElem? hj,c',dm,hm⟩) (hv j x u hj hu)⟩;have:=congrArg (fun l:List (Bool×List ah)=>l[j]?) hq;simp only[List.getElem?_map,hj,Option.map_some,Option.some.injEq] at this;exact congrArg Prod.snd this
end
section
variable {B:Nat} {E:Ex} {w0 w w':World} {G G':Gh} {N:Nat} {h h':Nat->Option aq} {used:Nat->Bool}
variable {P:Program} {a:Act} {σ σ':St} {n:Nat}
structure Ig (B:Nat) (E:Ex) (w:World) (G:Gh) (h:Nat->Option aq) (n k off:Nat) (q:PC):Prop where
 ez:Good w q
 sep:Sep q
 nr:pk w q
 own:∀b,aX b q->¬G.Im b/\dZ w b/\(B<=b\/E b)
 name:∀b,aX b q->∀m,h m≠none->(G.g m).nl=false->b≠(G.g m).b
 row:∀b,aX b q->∀m gr mo sz xs,m≠n->h m=some (.row gr mo sz xs)->¬bf b (G.g m).px
 rest:∀b,aX b q->∀k' j' c,At (G.g n).px k' j' c->(k',j')≠(k,off)->¬aX b c
theorem R.nest (r:R B E w0 N σ a w G) {rs k off:Nat} {xs:List (List C)} (hn:σ.h n=some (.row true .live rs xs)) (oP:n<aW) (akL:∀s,(σ.env s).cut n=σ.env s)
  (akM:∀m cs c,σ.h m=some (.box cs)->c∈cs->c.cut n=c) {pe:List PC} (jC:(G.g n).px[k]? =some pe) (nW:off+1=rs) {q:PC} {cur:Array Value} {et:TypeId}
  (hg:w.heap[(G.g n).b]? =some (.cells cur et (0,0))) (hq:Ig B E w G σ.h n k off q):
  R B E w0 N (σ.eD n (.row true .live rs (xs.set k ((pe.map PC.er).set off q.er)))) a (gE w (G.g n).b ((G.g n).o+k*rs+off) [q.val] cur) ⟨G.Im,ax G.g n {G.g n with px:=(G.g n).px.set k (pe.set off q)}⟩:=by
 have H:=r.hr;have hr:=H.row n true .live rs xs hn;have bK:σ.h n≠none:=by rw[hn];simp
 have aT:(G.g n).nl=false:=by
  cases hq:(G.g n).nl with
  |false=>rfl
  |true=>rw[(hr.nl hq).1] at jC;simp at jC
 obtain⟨l1,l2,l3⟩:=hr.eI aT;obtain⟨rZ,qB,tj⟩:=H.own n bK aT;have wq:pe.length=rs:=l2.1 pe (List.mem_of_getElem? jC);have alg:off<pe.length:=by omega
 have hold:At (G.g n).px k off pe[off]:=⟨pe,jC,List.getElem?_eq_getElem alg⟩;have gA:(G.g n).o+k*rs+off+([q.val]:List Value).length<=cur.size:=by
  have:=Cy hg (l2.2.1 k off _ hold);simp only[List.length_cons,List.length_nil];omega
 generalize lR:gE w (G.g n).b ((G.g n).o+k*rs+off) [q.val] cur=w2;have dH:∀b,b≠(G.g n).b->w2.heap[b]? =w.heap[b]? :=fun b hb=>by rw[<-lR];exact zl b hb
 have pF:∀b,dZ w b->dZ w2 b:=fun b hb=>by rw[<-lR];exact H7 hg gA b hb
 have mH:w2.heap.size=w.heap.size:=by rw[<-lR];exact rk
 have Rd:∀b,aX b q->b≠(G.g n).b:=fun b hb=>hq.name b hb n bK aT;have iC:∀b,bf b (G.g n).px->b≠(G.g n).b:=fun b hb=>H.qp bK aT hn hb;have lr:∀b,bf b ((G.g n).px.set k (pe.set off q))->aX b q\/bf b (G.g n).px:=by
  rintro b ⟨k',j',c,bJ,hb⟩;rcases oC jC bJ with⟨_,_,rfl⟩|⟨h1,_⟩
  ·exact .inl hb
  ·exact .inr ⟨_,_,_,h1,hb⟩
 have z8:∀b,G.Im b->b≠(G.g n).b:=fun b hb he=>rZ (he▸hb);have eW:nD w2 (G.g n).b (G.g n).o rs ((G.g n).px.set k (pe.set off q)):=by
  refine⟨fun e he=>?_,fun k' j' c bJ=>?_,fun k' j' c bJ=>?_⟩
  ·rcases List.mem_or_eq_of_mem_set he with he|rfl
   ·exact l2.1 e he
   ·rw[List.length_set];exact wq
  ·rw[<-lR,zk hg gA];rcases oC jC bJ with⟨rfl,rfl,rfl⟩|⟨h1,aF⟩
   ·rw[if_pos ⟨Nat.le_refl _,by simp⟩];simp
   ·have:=WG hr.pos l2.1 h1 hold aF;rw[if_neg (by simp only[List.length_cons,List.length_nil];omega)];exact l2.2.1 _ _ _ h1
  ·rcases oC jC bJ with⟨rfl,rfl,rfl⟩|⟨h1,aF⟩
   ·exact hq.ez.congr fun b hb o=>gU (dH b (Rd b hb)) o
   ·exact(l2.2.2 _ _ _ h1).congr fun b hb o=>gU (dH b (iC b ⟨_,_,_,h1,hb⟩)) o
 have K:B9 n w G σ.h (fun m=>σ.used m=true) w2 ⟨G.Im,ax G.g n {G.g n with px:=(G.g n).px.set k (pe.set off q)}⟩ (ax σ.h n (some (.row true .live rs (xs.set k ((pe.map PC.er).set off q.er))))):=by
  refine⟨fun _ h=>h,fun b hb o=>gU (dH b (z8 b hb)) o,fun m hm h0=>?_,fun m gr sz ar bF hm h0=>?_,fun b o v hb hv=>(gU (dH b (z8 b hb)) o).trans hv⟩
  ·by_cases bF:m=n
   ·subst bF;simp only[bO];exact⟨bK,trivial,trivial,trivial,trivial,trivial⟩
   ·rw[cJ _ _ _ _ bF] at h0;simp only[cJ _ _ _ _ bF];exact⟨h0,trivial,trivial,trivial,trivial,trivial⟩
  ·rw[cJ _ _ _ _ bF] at h0;simp only[cJ _ _ _ _ bF];exact⟨⟨gr,ar,h0⟩,fun k j pc h1 h2=>⟨pc,h1,rfl,h2⟩⟩
 have Hn:HR B E w2 ⟨G.Im,ax G.g n {G.g n with px:=(G.g n).px.set k (pe.set off q)}⟩ (ax σ.h n (some (.row true .live rs (xs.set k ((pe.map PC.er).set off q.er))))) σ.used []:=by
  refine H.adq (fun b _ hb=>dH b (hb aT)) (by rw[mH];exact Nat.le_refl _) (fun b _ hb=>pF b hb) (fun _ h=>h) (H.ji n bK) (fun _=>⟨rZ,qB,by rw[mH];exact tj⟩)
   (fun _ m hm h0 gY=>H.inj m n h0 bK hm gY aT) (fun _ m gr sz xs hm h0 b hb=>H.live m gr sz xs h0 b hb n bK aT) (fun cs c m hb=>by cases hb)
   (fun m cs c v hm h0 hc hv=>hv.pL K (akM m cs c h0 hc) fun p hp=>H.iq m cs c p h0 hc hp) ?_ ?_ ?_ (fun gr m sz xs _ _ i pc b hi=>by simp at hi) ?_
  ·refine⟨hr.pos,?_,(fun hl=>by rw[aT] at hl;cases hl),fun _=>⟨pF _ l1,eW,by show((G.g n).px.set k _).length<=_;simpa using l3⟩,fun _ _=>?_,?_,fun _ _ k' pc bJ=>?_⟩
   ·show xs.set k _=((G.g n).px.set k _).map _;rw[List.map_set,<-hr.er,List.map_set]
   ·obtain⟨r2,ju,e',r3,r4⟩:=hr.room aT rfl;rw[hg] at r3;injection r3 with r3;injection r3 with r3 _ _;subst r3;obtain⟨PE,c1,c2⟩:=EL (vs:=[q.val]) (o:=(G.g n).o+k*rs+off) hg gA;rw[lR] at c1;exact⟨r2,PE,et,c1,by rw[c2];exact r4⟩
   ·have dU:=hr.mode;refine⟨fun b hb=>?_,fun k' j' c bJ=>?_,fun k1 j1 c1 k2 j2 c2 b h1 h2 aF hb aJ=>?_⟩
    ·rcases lr b hb with h1|h1
     ·exact⟨(hq.own b h1).1,pF b (hq.own b h1).2.1,(hq.own b h1).2.2⟩
     ·exact⟨(dU.1 b h1).1,pF b (dU.1 b h1).2.1,(dU.1 b h1).2.2⟩
    ·rcases oC jC bJ with⟨rfl,rfl,rfl⟩|⟨h1,_⟩
     ·exact hq.sep
     ·exact dU.2.1 _ _ _ h1
    ·rcases oC jC h1 with⟨rfl,rfl,rfl⟩|⟨g1,n1⟩
     ·rcases oC jC h2 with⟨rfl,rfl,rfl⟩|⟨g2,n2⟩
      ·exact aF rfl
      ·exact hq.rest b hb _ _ _ g2 n2 aJ
     ·rcases oC jC h2 with⟨rfl,rfl,rfl⟩|⟨g2,n2⟩
      ·exact hq.rest b aJ _ _ _ g1 n1 hb
      ·exact dU.2.2 _ _ _ _ _ _ b g1 g2 aF hb aJ
   ·have hz:=hr.nr rfl rfl;rcases oC jC bJ with⟨_,_,rfl⟩|⟨h1,_⟩
    ·exact hq.nr.cz fun b hb arr e he=>⟨arr,(dH b (Rd b hb)).trans he,rfl⟩
    ·exact(hz k' pc h1).cz fun b hb arr e he=>⟨arr,(dH b (iC b ⟨_,_,_,h1,hb⟩)).trans he,rfl⟩
  ·intro gr m sz ar hb hm n' bn m' aH gx Q5 h0 bL b cN;rcases lr b cN with h1|h1
   ·exact hq.row b h1 n' bn m' aH gx Q5 h0
   ·exact H.gn n n' true .live rs xs bn m' aH gx hn h0 (by simp) bL (Ne.symm Q5) b h1
  ·intro gr sz ar hb b cN;rcases lr b cN with h1|h1
   ·exact⟨fun _=>Rd b h1,fun n' _ h0 hl=>hq.name b h1 n' h0 hl⟩
   ·exact⟨fun _=>iC b h1,fun n' _ h0 hl=>H.live n true rs xs hn b h1 n' h0 hl⟩
  ·intro _ _ b hb;obtain⟨m,gr,mo,sz,ar,hm,h0,cN⟩:=hb;exact H.qp bK aT h0 cN
 refine⟨r.defers,r.size,fun s=>(r.env s).pL K (akL s) fun m hm=>r.pg s m hm,r.pg,Hn,r.fr.one qB (fun b _ aF=>dH b aF) (by rw[mH];exact Nat.le_refl _) (by rw[<-lR];exact BB hg gA) (by rw[<-lR];rfl) (by rw[<-lR];rfl) (by rw[<-lR];rfl),fun m p b hp hb=>?_,r.u7⟩;have bF:m≠n:=by
  rintro rfl;have:=E.lt m p hp;omega
 have aJ:ax σ.h n (some (.row true .live rs (xs.set k ((pe.map PC.er).set off q.er)))) m=some b:=hb;rw[cJ _ _ _ _ bF] at aJ;have:=r.oV m p b hp aJ;simp only[cJ _ _ _ _ bF];exact this
end
section
variable {B:Nat} {E:Ex} {w0 w w':World} {G G':Gh} {N:Nat} {h h':Nat->Option aq} {used:Nat->Bool}
variable {P:Program} {o:Oper} {a:Act} {σ σ':St} {Q:Exit->Act->World->Prop}
def Cc (B:Nat) (E:Ex) (w:World) (G:Gh) (h:Nat->Option aq) (n k off sz:Nat) (zs:List (List C)) (v:Value):Prop:=
 ∃q:PC,q.val=v/\q.er=.list sz zs/\Ig B E w G h n k off q
theorem HR.acR (H:HR B E w G h used []) {n k off rs:Nat} {xs:List (List C)} (hn:h n=some (.row true .live rs xs)) (nW:off+1=rs) {pc:PC} (cD:At (G.g n).px k off pc):Ig B E w G h n k off pc:=by
 have hr:=H.row n true .live rs xs hn;have aT:(G.g n).nl=false:=by
  cases hq:(G.g n).nl with
  |false=>rfl
  |true=>obtain⟨e,he,_⟩:=cD;rw[(hr.nl hq).1] at he;simp at he
 obtain⟨l1,l2,l3⟩:=hr.eI aT;have hF:∀b,aX b pc->bf b (G.g n).px:=fun b hb=>⟨k,off,pc,cD,hb⟩;refine⟨l2.2.2 _ _ _ cD,hr.mode.2.1 _ _ _ cD,hr.nr rfl rfl k pc (by rw[<-nW];exact cD),fun b hb=>hr.mode.1 b (hF b hb),fun b hb m h0 hl=>H.live n true rs xs hn b (hF b hb) m h0 hl,fun b hb m gr mo sz ar hm h0 aJ=>?_,
  fun b hb k' j' c bJ aF aJ=>hr.mode.2.2 _ _ _ _ _ _ b bJ cD aF aJ hb⟩
 by_cases ic:mo=.aI
 ·subst ic;exact(hr.mode.1 b (hF b hb)).1 ((H.row m gr .aI sz ar h0).mode b aJ)
 ·exact H.gn n m true .live rs xs gr mo sz ar hn h0 (by simp) ic (Ne.symm hm) b (hF b hb) aJ
theorem asC {t ty e:TypeId} {i:TypeInfo} (ht:P.underlying t=some (.slice e)) (hi:P.info? e=some i) (a ya:Option Addr) (c:Nat):
  (Builtin.append_ #[t,t] ty #[.slice a 0 0,.slice ya 0 c]).run P w=.ok (.slice a 0 0) w:=by
 cases ya<;>cases a<;>simp[Builtin.append_,run_underlying ht,sizeOf,typeInfo,hi,Builtin.lenOf,Builtin.firstCells,loadCells,loadCellsFrom,storeCells]
theorem Sep.flat {sz:Nat} {x:Option Addr} {cap:Nat} {px:List (List PC)} (hs:eO (px.map fun e=>e.map PC.er)=true):Sep (.list sz x cap px):=by
 have cg:∀k j c,At px k j c->c.er.fh=true:=by
  rintro k j c ⟨e,he,hj⟩;have h6:=List.all_eq_true.1 hs (e.map PC.er) (by simp only[List.mem_map];exact⟨e,List.mem_of_getElem? he,rfl⟩);exact List.all_eq_true.1 h6 c.er (by simp only[List.mem_map];exact⟨c,List.mem_of_getElem? hj,rfl⟩)
 exact .list _ _ _ _ (fun k j c hk=>(Sep.g9 (cg k j c hk)).1) (fun b o k j c _ hk=>(Sep.g9 (cg k j c hk)).2 b) (fun k j c k' j' c' b hk _ _ hb=>absurd hb ((Sep.g9 (cg k j c hk)).2 b))
theorem aaD {sz:Nat} {x:Option Addr} {cap b:Nat} {px:List (List PC)} (hs:eO (px.map fun e=>e.map PC.er)=true) (hb:aX b (.list sz x cap px)):∃o,x=some (ad b o):=by
 rw[aX.kN] at hb;rcases hb with⟨_,ho⟩|⟨k,j,c,hk,hc⟩
 ·exact ho
 ·exact absurd ⟨k,j,c,hk,hc⟩ (vd hs b)
theorem aiA (r:R B E w0 N σ a w G) {n k rs off sz sH uW by_:Nat} {t e:TypeId} {i:TypeInfo} {z:Value} {x y:Operand} {mx my:MO} {xs ls ys:List (List C)} {yc:ah}
  (ho:o.op=.call {callee:=.builtin .append,args:=#[x,y],argTypes:=#[t,t]}) (fM:bT x mx=true) (gR:bT y my=true)
  (ht:P.underlying t=some (.slice e)) (hi:P.info? e=some i) (hz:i.zero=some z) (bU:i.size=sz) (fO:0<sz) (nR:i.bytes=by_) (vV:0<by_) (wF:z.cells.size=sz)
  (hn:σ.h n=some (.row true .live rs xs)) (nW:off+1=rs) (hx:σ.ev mx=.one (.bw n k rs off sH uW)) (hl:(xs[k]?).bind (·[off]?)=some (.list sz ls)) (qA:eO ls=true)
  (hy:σ.ev my=.one yc) (hv:cO σ.h yc=some (.list sz ys)) (pG:eO ys=true) (hb:(ls.length+ys.length)*by_<=dR):
  o.wp P a w (fun a' w'=>∃v,a'=a.put o.dst v/\R B E w0 N σ a w' G/\Cc B E w' G σ.h n k off sz (ls++ys) v) Q:=by
 have H:=r.hr;obtain⟨x1,_⟩:=r.ev fM;obtain⟨y1,_⟩:=r.ev gR;rw[hx] at x1;rw[hy] at y1;have hyj:yc≠ .bm:=by rintro rfl;simp[Am.cO] at hv
 obtain⟨pc,p1,p2,p3⟩:=(x1.fE (by simp)).1 true xs hn;obtain⟨aT,fW,gG⟩:=H.G0 hn p1;rw[hl] at gG;injection gG with gG;have iC:=H.acR hn nW p1;have hr:=H.row n true .live rs xs hn;obtain⟨yp,e1,e2,e3⟩:=H.cO hv (y1.fE hyj).1;cases pc with
 |int kk nn=>simp[PC.er] at gG
 |bool bb=>simp[PC.er] at gG
 |list s' x0 cap fA=>
 rw[PC.d9] at gG;injection gG with g1 g2;subst g1;cases yp with
 |int kk nn=>simp[PC.er] at e1
 |bool bb=>simp[PC.er] at e1
 |list s2 ya yc' py=>
 rw[PC.d9] at e1;injection e1 with f1 f2;have f1:=f1.symm;subst f1;have Ds:ys.length=py.length:=by rw[<-f2];simp
 have hll:ls.length=fA.length:=by rw[g2];simp
 have KU:eO (fA.map fun e=>e.map PC.er)=true:=by rw[<-g2];exact qA
 have alB:eO (py.map fun e=>e.map PC.er)=true:=by rw[f2];exact pG
 have gQ:eO ((fA++py).map fun e=>e.map PC.er)=true:=by
  rw[List.map_append];simp only[eO,List.all_append,Bool.and_eq_true];exact⟨KU,alB⟩
 have Z5:(fA++py).map (fun e=>e.map PC.er)=ls++ys:=by rw[List.map_append,<-g2,f2]
 have Qt:t9 w sz py (a.eval y):=by rw[<-e2];exact t9.SO e3
 have e7:∀e∈fA,e.length=sz:=by
  intro e he;cases fW with
  |nil _ _ _ _=>simp at he
  |cons _ _ _ _ _ _ _ _ h4 _ _=>exact h4 e he
 have akX:∀k j c,At fA k j c->Good w c:=by
  intro k j c hk;cases fW with
  |nil _ _ _ _=>obtain⟨e,he,_⟩:=hk;simp at he
  |cons _ _ _ _ _ _ _ _ _ _ h6=>exact h6 k j c hk
 have Dg:∀e∈fA++py,e.length=sz:=fun e he=>(List.mem_append.1 he).elim (e7 e) (Qt.1 e);have aut:∀k j c,At (fA++py) k j c->Good w c:=fun k j c hk=>(ry hk).elim (fun h=>akX _ _ _ h.2) (fun h=>Qt.2.1 _ _ _ h.2);have iE:∀k j c,At (fA++py) k j c->c.er.fh=true:=by
  rintro k j c ⟨e,he,hj⟩;have h6:=List.all_eq_true.1 gQ (e.map PC.er) (by simp only[List.mem_map];exact⟨e,List.mem_of_getElem? he,rfl⟩);exact List.all_eq_true.1 h6 c.er (by simp only[List.mem_map];exact⟨c,List.mem_of_getElem? hj,rfl⟩)
 have vY:cap=0->fA=[]:=by
  intro h0;cases fW with
  |nil _ _ _ _=>rfl
  |cons _ _ _ _ _ h1 h2 _ _ _ _=>subst h0;exact List.eq_nil_of_length_eq_zero (by omega)
 have Rq:∀{u:Value} {w2:World},(Builtin.append_ #[t,t] o.type #[a.eval x,a.eval y]).run P w=.ok u w2->(execOp a.eval o).run P w=.ok (.value u) w2:=by
  intro u w2 bR;simp[execOp,ho,resolve,invoke,builtin,bR]
 have Dn:a.eval x=.slice x0 fA.length cap:=p2.symm;by_cases v7:fA++py=[]
 ·obtain⟨rfl,rfl⟩:=List.append_eq_nil_iff.1 v7;have dG:cap=0:=by
   rcases iC.nr with h0|⟨h0,_⟩
   ·exact h0
   ·exact absurd rfl h0
  subst dG;have alC:ys=[]:=by rw[<-f2];rfl
  have ak9:ls=[]:=by rw[g2];rfl
  refine pj (v:=.slice x0 0 0) (w':=w) (Rq ?_) ⟨_,rfl,r,.list sz x0 0 [],rfl,by rw[PC.d9,alC,ak9];rfl,iC⟩;rw[Dn,<-e2];exact asC ht hi _ _ _
 ·have L:xz B E w G (ax σ.h n none) sz .live fA (a.eval x):=by
   rcases iC.nr with h0|⟨h0,h1,b,ob,cur,et,rfl,h3,h4⟩
   ·subst h0;have:=vY rfl;subst this;exact .inl ⟨x0,Dn,rfl⟩
   ·have cW:aX b (.list sz (some (ad b ob)) cap fA):=.here _ _ _ _ h0;refine .inr ⟨b,ob,cap,cur,et,Dn,h3,h4,h1,?_,?_,⟨(iC.own b cW).1,fun q hq Ao he=>?_,fun q gr mo aH ar hq=>?_⟩,(iC.own b cW).2.2,fun b' aJ=>absurd aJ (vd KU b')⟩
    ·cases fW with
     |nil _ _ _ _=>exact absurd rfl h0
     |cons _ _ _ _ _ _ h2 _ _ _ _=>exact h2
    ·generalize ib:PC.list sz (some (ad b ob)) cap fA=p at fW;cases fW with
     |int k n=>cases ib
     |bool b=>cases ib
     |nil _ _ _ _=>injection ib with _ _ _ e4;exact absurd e4 h0
     |cons _ b' SU _ _ q1 q2 q3 q4 q5 q6=>
      injection ib with f1 f2 f3 f4;injection f2 with f2;obtain⟨rfl,rfl⟩:=lf f2;subst f1 f3 f4;exact⟨q4,q5,q6⟩
    ·obtain⟨q1,q2⟩:=vK hq;exact iC.name b cW q q1 Ao he.symm
    ·obtain⟨q1,q2⟩:=nI hq;exact iC.row b cW q gr mo aH ar q2 q1
  obtain⟨r1,r2,V3,c',hyv,r3⟩:=Qt;have aae:(py.flatten.map PC.val).length=py.length*sz:=FJ r1;have h1:∀u∈py.flatten.map PC.val,u.oneCell'=true:=fun u hu=>by obtain⟨pc,_,rfl⟩:=List.mem_map.1 hu;exact PC.kc pc
  have hB:=r.fr.size;have Gf:(fA++py).length=fA.length+py.length:=by simp
  rcases adQ (P:=P) w (ty:=o.type) (B:=B) (E:=E) ht hi hz bU fO nR vV e7 L aae r3 h1 (by rw[<-hll,<-Ds];exact hb) with⟨a0,k0,_,Gk,_⟩|⟨b,ob,ui,cur,e',aaq,b2,b3,b4,b5,b6,b7,b8,b9,bR⟩|⟨ui,arr,c1,c2,c3,c4,bR⟩
  ·exact absurd (by rw[Gk,List.eq_nil_of_length_eq_zero k0];rfl) v7
  ·
   rw[Dn] at aaq;injection aaq with q1 q2 q3;subst q1 q3;have wk:(ob+fA.length*sz)+(py.flatten.map PC.val).length<=cur.size:=by rw[aae,b3,Nat.add_assoc,<-Nat.add_mul];exact Nat.add_le_add_left (Nat.mul_le_mul_right _ b5) _
   generalize lR:gE w b (ob+fA.length*sz) (py.flatten.map PC.val) cur=w2 at bR;have dH:∀x,x≠b->w2.heap[x]? =w.heap[x]? :=fun x hx=>by rw[<-lR];exact zl x hx
   have mH:w2.heap.size=w.heap.size:=by rw[<-lR];exact rk
   have jA:∀x,Cz w w2 x:=fun x=>by
    by_cases hx:x=b
    ·subst hx;rw[<-lR];exact BB b2 wk
    ·exact Cz.of_eq (dH x hx)
   have QA:¬G.Im b:=b7.1;have gW:∀k' j,k'<fA.length->j<sz->w2.cell? (ad b (ob+k'*sz+j))=w.cell? (ad b (ob+k'*sz+j)):=by
    intro k' j bJ hj;rw[<-lR,zk b2 wk,if_neg];rintro⟨q1,_⟩;have:(k'+1)*sz<=fA.length*sz:=Nat.mul_le_mul_right _ bJ;rw[Nat.add_mul] at this;omega
   have Qv:∀{k' j c},At fA k' j c->k'<fA.length/\j<sz:=by
    rintro k' j c ⟨e,he,hj⟩;refine⟨(List.getElem?_eq_some_iff.1 he).1,?_⟩;have:=e7 e (List.mem_of_getElem? he);have:=(List.getElem?_eq_some_iff.1 hj).1;omega
   have akW:Good w2 (.list sz (some (ad b ob)) cap fA):=by
    by_cases h0:fA=[]
    ·subst h0;exact .nil _ _ _ fO
    ·refine .cons _ _ _ _ _ h0 (by omega) fO e7 (fun k' j c hk=>?_) (fun k' j c hk=>Good.g9 (iE k' j c ?_))
     ·rw[gW k' j (Qv hk).1 (Qv hk).2];exact b6.2.1 k' j c hk
     ·obtain⟨e,he,hj⟩:=hk;exact⟨e,by rw[List.getElem?_append_left (List.getElem?_eq_some_iff.1 he).1];exact he,hj⟩
   have bK:σ.h n≠none:=by rw[hn];simp
   have gI:∀m,σ.h m≠none->(G.g m).nl=false->(G.g m).b≠b:=by
    intro m hm hl;by_cases bF:m=n
    ·subst bF;by_cases h0:fA=[]
     ·intro he;subst he;rcases iC.nr with hc|⟨hc,_⟩
      ·have:=b7.2.1;subst hc;simp at b5;subst h0;have:py=[]:=by
        apply List.eq_nil_of_length_eq_zero;simpa using b5
       exact v7 (by rw[this];rfl)
      ·exact hc h0
     ·exact fun he=>iC.name b (.here _ _ _ _ h0) m hm hl he.symm
    ·exact b7.2.1 m (by rw[cJ _ _ _ _ bF];exact hm) hl
   have als:∀m gr mo aH ar,m≠n->σ.h m=some (.row gr mo aH ar)->¬bf b (G.g m).px:=fun m gr mo aH ar bF hm=>b7.2.2 m gr mo aH ar (by rw[cJ _ _ _ _ bF];exact hm);have yk:∀k' j' c,At (G.g n).px k' j' c->(k',j')≠(k,off)->¬aX b c:=by
    intro k' j' c bJ aF;by_cases h0:fA=[]
    ·intro hbc;rcases iC.nr with hc|⟨hc,_⟩
     ·subst hc;subst h0;have:py=[]:=by
       apply List.eq_nil_of_length_eq_zero;simpa using b5
      exact v7 (by rw[this];rfl)
     ·exact hc h0
    ·exact iC.rest b (.here _ _ _ _ h0) k' j' c bJ aF
   obtain⟨l1,l2,l3⟩:=hr.eI aT;have F4:EU w2 (G.g n) (G.g n) true .live rs xs:=by
    refine⟨by simp,.inr rfl,rfl,rfl,rfl,rfl,rfl,hr.er,fun h=>(by rw[aT] at h;cases h),fun _=>⟨⟨l2.1,fun k' j' c bJ=>?_,fun k' j' c bJ=>?_⟩,l3⟩,hr.mode.2,fun b h=>h,fun _ k' j' pc bJ hL=>⟨pc,bJ,rfl,hL⟩,fun _ _=>?_⟩
    ·rw[gU (dH _ (gI n bK aT))];exact l2.2.1 _ _ _ bJ
    ·by_cases eR:(k',j')=(k,off)
     ·have h1:k'=k:=congrArg Prod.fst eR;have h2:j'=off:=congrArg Prod.snd eR;subst h1 h2;obtain⟨ea,hea,hja⟩:=bJ;obtain⟨eb,KH,KP⟩:=p1;rw[hea] at KH;injection KH with KH;subst KH;rw[hja] at KP;injection KP with KP;subst KP;exact akW
     ·exact(l2.2.2 _ _ _ bJ).congr fun x hx o=>gU (dH x (by rintro rfl;exact yk k' j' c bJ eR hx)) o
    ·exact(hr.nr rfl rfl).cz fun x _ arr e he=>jA x arr e he
   obtain⟨sO,K,_⟩:=H.GY (G':=G) (h':=σ.h) (w':=w2) (S:=fun m=>m=n) (by rw[mH];exact Nat.le_refl _) (fun x hx cg=>by
     by_cases Dp:x=b
     ·subst Dp;by_cases h0:fA=[]
      ·rcases iC.nr with hc|⟨hc,_⟩
       ·subst hc;subst h0;exact absurd (by rw[List.eq_nil_of_length_eq_zero (by simpa using b5:py.length=0)];rfl) v7
       ·exact absurd h0 hc
      ·exact absurd (.inr ⟨k,off,_,p1,.here _ _ _ _ h0⟩) (cg n rfl)
     ·exact dH x Dp) (fun x _=>jA x) rfl (fun m hm=>by
     subst hm;exact⟨true,.live,rs,xs,xs,hn,hn,F4⟩) (fun m _=>⟨rfl,rfl⟩)
   have r':R B E w0 N σ a w2 G:=r.step rfl (fun _ h=>h) K sO (r.fr.one b8 (fun x _ hx=>dH x hx) (by rw[mH];exact Nat.le_refl _) (jA b) (by rw[<-lR];rfl) (by rw[<-lR];rfl) (by rw[<-lR];rfl));refine pj (v:=.slice (some (ad b ob)) (fA.length+py.length) cap) (w':=w2) (Rq ?_) ⟨_,rfl,r',.list sz (some (ad b ob)) cap (fA++py),by simp[PC.val],by rw[PC.d9,Z5],?_⟩
   ·rw[Dn,hyv];rw[Dn] at bR;exact bR
   ·have wm:∀x,aX x (.list sz (some (ad b ob)) cap (fA++py))->x=b:=fun x hx=>by
     obtain⟨o',fB⟩:=aaD gQ hx;injection fB with fB;exact(lf fB).1.symm
    refine⟨.cons _ _ _ _ _ v7 (by rw[Gf];exact b5) fO Dg (fun k' j c hk=>?_) (fun k' j c hk=>Good.g9 (iE k' j c hk)),Sep.flat gQ,?_,fun x hx=>?_,fun x hx m hm hl=>?_,fun x hx m gr mo aH ar bF hm=>?_,fun x hx k' j' c bJ aF=>?_⟩
    ·rw[<-lR,zk b2 wk];have hf:=sR Dg hk;rw[List.flatten_append] at hf;have lO:fA.flatten.length=fA.length*sz:=by have:=FJ e7;rwa[List.length_map] at this
     rcases ry hk with⟨nh,bJ⟩|⟨nh,bJ⟩
     ·rw[if_neg ?_]
      ·exact b6.2.1 k' j c bJ
      ·rintro⟨q1,_⟩;have:=(Qv bJ).2;have:(k'+1)*sz<=fA.length*sz:=Nat.mul_le_mul_right _ nh;rw[Nat.add_mul] at this;omega
     ·have Ae:fA.length*sz<=k'*sz+j:=Nat.le_trans (Nat.mul_le_mul_right _ nh) (Nat.le_add_right _ _);have cj:=(List.getElem?_eq_some_iff.1 hf).1;rw[List.length_append,lO] at cj;rw[List.getElem?_append_right (by rw[lO];exact Ae),lO] at hf;rw[if_pos ⟨by omega,by simp only[List.length_map];omega⟩];rw[List.getElem?_map,show ob+k'*sz+j - (ob+fA.length*sz)=k'*sz+j - fA.length*sz by omega,hf];rfl
    ·obtain⟨ju,q1,q2⟩:=EL (vs:=py.flatten.map PC.val) (o:=ob+fA.length*sz) b2 wk;rw[lR] at q1;exact .inr ⟨v7,b4,b,ob,ju,e',rfl,q1,by rw[q2,b3]⟩
    ·rw[wm x hx];exact⟨QA,(jA b).j7 ⟨cur,e',b2⟩,b8⟩
    ·rw[wm x hx];exact(gI m hm hl).symm
    ·rw[wm x hx];exact als m gr mo aH ar bF hm
    ·rw[wm x hx];exact yk k' j' c bJ aF
  ·
   have hd:∀x:Nat,x<w.heap.size->(w.drew.alloc (.cells arr e)).heap[x]? =w.heap[x]? :=fun x hx=>heap_alloc_old w.drew _ x hx;have aao:w.heap.size<=(w.drew.alloc (.cells arr e)).heap.size:=by
    have:(w.drew.alloc (.cells arr e)).heap.size=w.drew.heap.size+1:=by simp
    have h2:w.drew.heap.size=w.heap.size:=rfl;omega
   have r':R B E w0 N σ a (w.drew.alloc (.cells arr e)) G:=r.step rfl (fun _ h=>h) (bk.world (fun x hx=>hd x (H.gC x hx)) _) (H.grow hd aao) (r.fr.grow hd aao rfl rfl rfl);have mH:arr.size=ui*sz:=by rw[c3,wF];omega
   refine pj (v:=.slice (some (ad w.heap.size 0)) (fA.length+py.length) ui) (w':=w.drew.alloc (.cells arr e)) (Rq ?_) ⟨_,rfl,r',.list sz (some (ad w.heap.size 0)) ui (fA++py),by simp[PC.val],by rw[PC.d9,Z5],?_⟩
   ·rw[hyv];exact bR
   ·have wm:∀x,aX x (.list sz (some (ad w.heap.size 0)) ui (fA++py))->x=w.heap.size:=fun x hx=>by
     obtain⟨o',fB⟩:=aaD gQ hx;injection fB with fB;exact(lf fB).1.symm
    refine⟨.cons _ _ _ _ _ v7 (by rw[Gf];exact c1) fO Dg (fun k' j c hk=>?_) (fun k' j c hk=>Good.g9 (iE k' j c hk)),Sep.flat gQ,?_,fun x hx=>?_,fun x hx m hm hl=>?_,fun x hx m gr mo aH ar bF hm aJ=>?_,fun x hx k' j' c bJ aF aJ=>?_⟩
    ·have hf:=sR Dg hk;have hc:=c4 _ _ (by rw[<-List.map_append,<-List.flatten_append,List.getElem?_map,hf];rfl);simp only[Nat.zero_add];unfold ad;have Gi:=World.cell?_alloc_new w.drew arr e (k'*sz+j);exact Gi.trans hc
    ·exact .inr ⟨v7,c2,w.heap.size,0,arr,e,rfl,heap_alloc_new w.drew _,by rw[mH,Nat.zero_add]⟩
    ·rw[wm x hx];refine⟨fun hi=>?_,dZ.alloc w.drew arr e,.inl hB⟩;have:=H.gC _ hi;omega
    ·rw[wm x hx];have:=(H.own m hm hl).2.2;omega
    ·rw[wm x hx] at aJ;have:=H.oZ hm aJ;omega
    ·rw[wm x hx] at aJ;have:=H.oZ hn ⟨k',j',c,bJ,aJ⟩;omega
end
def Cb (B:Nat) (E:Ex) (w0:World) (N:Nat) (a:Act) (w:World) (G:Gh) (d:Option Nat) (σ:St):Act->World->Prop:=
 fun a' w'=>w'=w/\(∃v,a'=a.put d v)/\R B E w0 N σ a' w G
section
variable {B:Nat} {E:Ex} {w0 w w':World} {G G':Gh} {N:Nat} {h h':Nat->Option aq} {used:Nat->Bool}
variable {P:Program} {T:aN} {o:Oper} {a:Act} {σ σ':St} {Q:Exit->Act->World->Prop}
theorem z3 (r:R B E w0 N σ a w G) {x:aj} {v:Value} (bR:(execOp a.eval o).run P w=.ok (.value v) w) (hv:RA w G σ.h x v) (hr:∀m,x.ref m->σ.used m=true) (hN:∀n,o.dst=some n->n<N):
  o.wp P a w (Cb B E w0 N a w G o.dst (σ.put o.dst x)) Q:=pj bR ⟨rfl,⟨v,rfl⟩,r.put hv hr hN⟩
theorem X0 (r:R B E w0 N σ a w G) {x:Operand} {m:MO} (ho:o.op=.move x\/o.op=.assign x) (hN:∀n,o.dst=some n->n<N) (hm:bT x m=true):
  o.wp P a w (Cb B E w0 N a w G o.dst (σ.put o.dst (σ.ev m))) Q:=by
 obtain⟨h1,h2⟩:=r.ev hm;refine z3 r ?_ h1 h2 hN;rcases ho with ho|ho<;>simp[execOp,ho]
theorem PR (r:R B E w0 N σ a w G) {s:TypeId} {f off:Nat} {x:Operand} {mx:MO} {y:aj} (ho:o.op=.fieldAddr s x f) (hN:∀n,o.dst=some n->n<N) (hx:bT x mx=true) (hc:Fj P s f off=true)
  (hy:(∃n k sz q,σ.ev mx=.one (.ptr n k sz q)/\(σ.h n).isSome=true/\y=.one (.ptr n k sz (q+off)))\/(∃xs q,σ.ev mx=.one (.de xs q)/\y=.one (.de xs (q+off)))\/(∃xs q j n s len,σ.ev mx=.one (.cE xs q j n s len)/\y=.one (.cE xs (q+off) j n s len))):
  o.wp P a w (Cb B E w0 N a w G o.dst (σ.put o.dst y)) Q:=by
 obtain⟨x1,x2⟩:=r.ev hx;rcases hy with⟨n,k,sz,q,e1,hs,rfl⟩|⟨xs,q,e1,rfl⟩|⟨xs,q,j,n,s',len,e1,rfl⟩
 ·rw[e1] at x1 x2;have hp:σ.h n≠none:=by intro hh;rw[hh] at hs;cases hs
  obtain⟨h1,h2⟩:=(x1.fE (by simp)).1 hp;refine z3 r (v:=.pointer (some (ad (G.g n).b ((G.g n).o+k*sz+q+off)))) ?_ ?_ (fun m hm=>x2 m hm) hN
  ·simp only[execOp,ho,h2];simp[Ef hc]
  ·exact RA.fz rfl fun _=>⟨h1,by rw[Nat.add_assoc]⟩
 ·rw[e1] at x1;obtain⟨b,o',pe,p1,p2,p3,p4⟩:=(x1.fE (by simp)).1;refine z3 r (v:=.pointer (some (ad b (o'+q+off)))) ?_ ?_ (fun m hm=>absurd hm (by simp[aj.ref,ah.ref,ah.hH])) hN
  ·simp only[execOp,ho,p1];simp[Ef hc]
  ·exact RA.fz rfl ⟨b,o',pe,by rw[Nat.add_assoc],p2,p3,p4⟩
 ·rw[e1] at x1 x2;obtain⟨b,o',pe,p1,p2,p3,p4,p5⟩:=(x1.fE (by simp)).1;refine z3 r (v:=.pointer (some (ad b (o'+q+off)))) ?_ ?_ (fun m hm=>x2 m hm) hN
  ·simp only[execOp,ho,p1];simp[Ef hc]
  ·exact RA.fz rfl ⟨b,o',pe,by rw[Nat.add_assoc],p2,p3,p4,p5⟩
theorem XY (r:R B E w0 N σ a w G) {t e:TypeId} {i:TypeInfo} {x y:Operand} {mx my:MO} {sz:Nat} {q:Int} {z:aj} (ho:o.op=.indexAddr t x y) (hN:∀n,o.dst=some n->n<N) (fM:bT x mx=true) (gR:bT y my=true)
  (ht:P.underlying t=some (.slice e)) (hi:P.info? e=some i) (bU:i.size=sz) (hq:(σ.ev my).dV=some q) (h0:0<=q)
  (hz:(∃n lo len,σ.ev mx=.one (.sl n sz lo len)/\q<(len:Int)/\(σ.h n).isSome=true/\z=.one (.ptr n (lo+q.toNat) sz 0))\/(∃xs el,σ.ev mx=.one (.c (.list sz xs))/\xs[q.toNat]? =some el/\z=.one (.de el 0))):
  o.wp P a w (Cb B E w0 N a w G o.dst (σ.put o.dst z)) Q:=by
 obtain⟨x1,x2⟩:=r.ev fM;obtain⟨kk,ey⟩:=(r.ev gR).1.int hq;rcases hz with⟨n,lo,len,e1,h1,hs,rfl⟩|⟨xs,el,e1,h1,rfl⟩
 ·rw[e1] at x1 x2;have iF:gM (G.g n) sz lo len (a.eval x):=(x1.fE (by simp)).1 (Li hs);rcases iF with⟨_,_,_,hl⟩|⟨aT,a',hv,gF,ha⟩
  ·omega
  ·have rQ:=ha (.inl (by omega));subst rQ;refine z3 r (v:=.pointer (some (ad (G.g n).b ((G.g n).o+lo*sz+q.toNat*sz)))) ?_ ?_ (fun m hm=>x2 m hm) hN
   ·simp only[execOp,ho,hv,ey];simp[Eg ht hi bU h0 h1]
   ·exact RA.fz rfl fun _=>⟨aT,by rw[Nat.add_mul];congr 3;omega⟩
 ·rw[e1] at x1;obtain⟨pc,p1,p2,p3,p4⟩:=x1.c;cases pc with
  |int k n=>simp[PC.er] at p1
  |bool b=>simp[PC.er] at p1
  |list s' ya c py=>
   rw[PC.d9] at p1;injection p1 with p0 p1;subst p0;have jC:∃pe,py[q.toNat]? =some pe/\pe.map PC.er=el:=by
    rw[<-p1,List.getElem?_map] at h1;cases hp:py[q.toNat]? with
    |none=>rw[hp] at h1;cases h1
    |some pe=>rw[hp] at h1;simp at h1;exact⟨pe,rfl,h1⟩
   obtain⟨pe,lP,lz⟩:=jC;have cj:q.toNat<py.length:=(List.getElem?_eq_some_iff.1 lP).1;cases p3 with
   |nil _ _ _ _=>simp at cj
   |cons _ b oo _ _ g1 g2 g3 g4 g5 g6=>
    have eV:q<(py.length:Int):=by omega
    refine z3 r (v:=.pointer (some (ad b (oo+q.toNat*s')))) ?_ ?_ (fun m hm=>absurd hm (by simp[aj.ref,ah.ref,ah.hH])) hN
    ·simp only[execOp,ho,<-p2,PC.val,ey];simp[Eg ht hi bU h0 eV]
    ·refine RA.fz rfl ⟨b,oo+q.toNat*s',pe,by simp,lz,p4 b (.here _ _ _ _ g1),fun j c hj=>?_⟩;exact⟨g5 _ _ _ ⟨pe,lP,hj⟩,g6 _ _ _ ⟨pe,lP,hj⟩,fun b' aJ=>p4 b' (.there _ _ _ _ _ _ c ⟨pe,lP,hj⟩ aJ)⟩
theorem ai0 (r:R B E w0 N σ a w G) {t e:TypeId} {i:TypeInfo} {x y:Operand} {mx my:MO} {n k aB off sz aH len:Nat} {q:Int} {ys:List (List C)} (ho:o.op=.indexAddr t x y) (hN:∀n,o.dst=some n->n<N) (fM:bT x mx=true) (gR:bT y my=true)
  (ht:P.underlying t=some (.slice e)) (hi:P.info? e=some i) (bU:i.size=sz) (hq:(σ.ev my).dV=some q) (h0:0<=q) (h1:q<(ys.length:Int))
  (hx:σ.ev mx=.one (.bw n k aB off aH len)) (hv:cO σ.h (.bw n k aB off aH len)=some (.list sz ys)):
  o.wp P a w (Cb B E w0 N a w G o.dst (σ.put o.dst (.one (.cY n k aB off sz q.toNat)))) Q:=by
 obtain⟨x1,x2⟩:=r.ev fM;obtain⟨kk,ey⟩:=(r.ev gR).1.int hq;rw[hx] at x1 x2;obtain⟨gr,xs,hn,hb⟩:=agP hv;obtain⟨pc,p1,p2,p3⟩:=(x1.fE (by simp)).1 gr xs hn;obtain⟨g1,g2,g3⟩:=r.hr.G0 hn p1;rw[hb] at g3;injection g3 with g3;cases pc with
 |int k n=>simp[PC.er] at g3
 |bool b=>simp[PC.er] at g3
 |list s' ya c py=>
  rw[PC.d9] at g3;injection g3 with e1 e2;subst e1;have hl:ys.length=py.length:=by rw[e2];simp
  have eV:q<(py.length:Int):=by omega
  have wB:PC.val (.list sz ya c py)=.slice ya py.length c:=rfl;generalize ib:PC.list sz ya c py=p at g2;cases g2 with
  |int k n=>cases ib
  |bool b=>cases ib
  |nil _ _ _ _=>injection ib with _ _ _ e4;subst e4;simp at eV;omega
  |cons _ b oo _ _ q1 q2 q3 q4 q5 q6=>
   injection ib with f1 f2 f3 f4;subst f1 f2 f3 f4;refine z3 r (v:=.pointer (some (ad b (oo+q.toNat*sz)))) ?_ ?_ (fun m hm=>x2 m hm) hN
   ·simp only[execOp,ho,<-p2,PC.val,ey];simp[Eg ht hi bU h0 eV]
   ·refine RA.fz rfl fun bn ar bu=>?_;exact⟨_,b,oo,py.length,c,p1,rfl,rfl,rfl⟩
end
end Go.Am
