/- AmN, AmO, AmR, AmS, AmT, AmU, AmV, AmX, Am17, Am18, Am19, Am20, Am21, Am22, Am23, AmA, AmD, AmE, AmF: parts of the proof. No condition. -/
import Derived.Test.YthildlkhnnogiaaAmM
set_option linter.unusedVariables false
set_option linter.unusedSimpArgs false
namespace Go.Am
section
variable {B:Nat} {E:Ex} {w0 w w':World} {G G':Gh} {N:Nat} {h h':Nat->Option aq} {used:Nat->Bool}
variable {P:Program} {o:Oper} {a:Act} {σ σ':St} {Q:Exit->Act->World->Prop}
structure FF (w':World) (p p':PB) (gr:Bool) (m:Mode) (sz:Nat) (av:List (List C)):Prop where
 m1:m≠ .aJ
 fl:(∀b,¬bh b p.px)\/m=.live
 nl:p'.nl=p.nl
 b:p'.b=p.b
 o:p'.o=p.o
 cap:p'.cap=p.cap
 na:p'.na=p.na
 er:av=p'.px.map (fun e=>e.map PC.er)
 nlx:p.nl=true->p'.px=[]
 eK:p.nl=false->nG w' p.b p.o sz p'.px/\p'.px.length<=p.cap
 sep:iO p'.px
 sub:∀b,bh b p'.px->bh b p.px
 live:m=.live->∀k j pc,At p.px k j pc->pc.ie=true->∃dC,At p'.px k j dC/\dC.val=pc.val/\dC.ie=true
 nr:gr=true->m=.live->pJ w' sz p'.px
theorem HR.HO (H:HR B E w G h used []) {S:Nat->Prop} (bV:w.heap.size<=w'.heap.size)
  (hw:∀b,b<w.heap.size->(∀n,S n->¬tD G n b)->w'.heap[b]? =w.heap[b]?) (jE:∀b,b<w.heap.size->Cz w w' b) (mJ:G'.Im=G.Im)
  (hS:∀n,S n->∃gr m sz xs av,h n=some (.row gr m sz xs)/\h' n=some (.row gr m sz av)/\FF w' (G.g n) (G'.g n) gr m sz av)
  (hN:∀n,¬S n->h' n=h n/\G'.g n=G.g n):HR B E w' G' h' used []/\bm w G h (fun n=>used n=true) w' G' h'/\∀n b,bh b (G'.g n).px->bh b (G.g n).px:=by
 have ne:∀n,h' n≠none->h n≠none:=by
  intro n hn;by_cases hs:S n
  ·obtain⟨gr,m,sz,xs,av,e1,e2,_⟩:=hS n hs;rw[e1];simp
  ·rwa[(hN n hs).1] at hn
 have h9:∀n,(G'.g n).nl=(G.g n).nl/\(G'.g n).b=(G.g n).b/\(G'.g n).o=(G.g n).o/\(G'.g n).cap=(G.g n).cap/\(G'.g n).na=(G.g n).na:=by
  intro n;by_cases hs:S n
  ·obtain⟨gr,m,sz,xs,av,e1,e2,c⟩:=hS n hs;exact⟨c.nl,c.b,c.o,c.cap,c.na⟩
  ·rw[(hN n hs).2];exact⟨rfl,rfl,rfl,rfl,rfl⟩
 have sub:∀n b,bh b (G'.g n).px->bh b (G.g n).px:=by
  intro n b hb;by_cases hs:S n
  ·obtain⟨gr,m,sz,xs,av,e1,e2,c⟩:=hS n hs;exact c.sub b hb
  ·rwa[(hN n hs).2] at hb
 have lM:∀n gr m sz av,h' n=some (.row gr m sz av)->∃xs,h n=some (.row gr m sz xs):=by
  intro n gr m sz av hn;by_cases hs:S n
  ·obtain⟨Le,m1,ug,xs,td,e1,e2,_⟩:=hS n hs;rw[e2] at hn;injection hn with hn;injection hn with a1 a2 a3 a4;subst a1 a2 a3;exact⟨xs,e1⟩
  ·rw[(hN n hs).1] at hn;exact⟨av,hn⟩
 have Xt:∀n cs,h' n=some (.box cs)->h n=some (.box cs)/\¬S n:=by
  intro n cs hn;by_cases hs:S n
  ·obtain⟨Le,m1,ug,xs,td,e1,e2,_⟩:=hS n hs;rw[e2] at hn;cases hn
  ·rw[(hN n hs).1] at hn;exact⟨hn,hs⟩
 have anz:∀b,G.Im b->w'.heap[b]? =w.heap[b]? :=by
  intro b hb;refine hw b (H.gH b hb) fun n hs hf=>?_;obtain⟨gr,m,sz,xs,av,e1,e2,c⟩:=hS n hs;rcases hf with⟨hl,rfl⟩|hF
  ·exact(H.own n (by rw[e1];simp) hl).1 hb
  ·rcases c.fl with c1|rfl
   ·exact c1 b hF
   ·exact((H.row n gr .live sz xs e1).mode.1 b hF).1 hb
 have S0:∀n,¬S n->h n≠none->(G.g n).nl=false->w'.heap[(G.g n).b]? =w.heap[(G.g n).b]? :=by
  intro n hs hn hl;refine hw _ (H.own n hn hl).2.2 fun q hq hf=>?_;obtain⟨gr,m,sz,xs,av,e1,e2,c⟩:=hS q hq;have aD:n≠q:=fun e=>hs (e▸hq);rcases hf with⟨nq,hb⟩|hF
  ·exact H.inj n q hn (by rw[e1];simp) aD hl nq hb
  ·rcases c.fl with c1|rfl
   ·exact c1 _ hF
   ·exact H.live q gr sz xs e1 _ hF n hn hl rfl
 have anA:∀n gr m sz xs,¬S n->h n=some (.row gr m sz xs)->∀b,bh b (G.g n).px->w'.heap[b]? =w.heap[b]? :=by
  intro n gr m sz xs hs hn b hb;refine hw _ (H.po hn hb) fun q hq hf=>?_;obtain⟨bo,m',aF,td,ahe,e1,e2,c⟩:=hS q hq;have aD:n≠q:=fun e=>hs (e▸hq);exact H.GH aD hn e1 c.fl (.inr hb) hf
 have K:bm w G h (fun n=>used n=true) w' G' h':=by
  refine⟨fun b hb=>by rw[mJ];exact hb,fun b hb o=>gV (anz b hb) o,fun n _ hn=>⟨ne n hn,h9 n⟩,fun n gr sz av _ hn=>?_⟩;obtain⟨xs,e⟩:=lM n gr .live sz av hn;refine⟨⟨gr,xs,e⟩,fun k j pc hk hL=>?_⟩;by_cases hs:S n
  ·obtain⟨Le,m1,ug,td,ahe,e1,e2,c⟩:=hS n hs;rw[e] at e1;injection e1 with e1;injection e1 with _ e1 _ _;exact c.live e1.symm k j pc hk hL
  ·rw[(hN n hs).2];exact⟨pc,hk,rfl,hL⟩
 refine⟨⟨fun n hn=>H.jh n (ne n hn),fun m cs c n hm=>H.ik m cs c n (Xt m cs hm).1,fun n cs hn=>?_,fun n gr m sz av hn=>?_,fun n hn hl=>?_,fun n n' hn bu aD hl eQ=>?_,
  fun b hb=>?_,fun b hb=>H.pU b (by rw[mJ] at hb;exact hb),fun n n' gr m sz xs bo m' aF av hn bu hm bP aD b hb aL=>?_,fun n gr sz xs hn b hb n' bu hl=>?_,?_,?_,?_⟩,K,sub⟩
 ·obtain⟨h1,hs⟩:=Xt n cs hn;obtain⟨a1,a2,a3⟩:=H.box n cs h1;have hb:=S0 n hs (by rw[h1];simp) a1;rw[(hN n hs).2];refine⟨a1,a2.congr hb,fun j c hj=>?_⟩;obtain⟨v,v1,v2,v3⟩:=a3 j c hj;exact⟨v,(gV hb _).trans v1,v2,v3.fW K fun q hq=>H.ik n cs c q h1 (List.mem_of_getElem? hj) hq⟩
 ·by_cases hs:S n
  ·obtain⟨Le,m1,ug,td,ahe,e1,e2,c⟩:=hS n hs;rw[e2] at hn;injection hn with hn;injection hn with q1 q2 q3 q4;subst q1 q2 q3 q4;have hr:=H.row n Le m1 ug td e1;refine⟨hr.pos,c.er,fun hl=>?_,fun hl=>?_,fun hl hg=>?_,?_,c.nr⟩
   ·rw[c.nl] at hl;refine⟨c.nlx hl,fun hg=>?_⟩;rw[c.cap];exact(hr.nl hl).2 hg
   ·rw[c.nl] at hl;obtain⟨l1,l2,l3⟩:=hr.eK hl;obtain⟨c1,c2⟩:=c.eK hl;rw[c.b,c.o,c.cap];exact⟨(jE _ l1.lt).jO l1,c1,c2⟩
   ·rw[c.nl] at hl;obtain⟨r2,cur,e,r3,r4⟩:=hr.room hl hg;obtain⟨jB,s1,s2⟩:=jE (G.g n).b (H.own n (by rw[e1];simp) hl).2.2 cur e r3;unfold FT;rw[c.b,c.o,c.cap];exact⟨r2,jB,e,s1,s2.trans r4⟩
   ·have hm:=hr.mode;cases m1 with
    |aJ=>exact absurd rfl c.m1
    |aN=>exact⟨fun b hb=>by
     have aL:=c.sub b hb;have:=hm.1 b aL;exact⟨by rw[mJ];exact this.1,(jE b this.2.1.lt).jO this.2.1,this.2.2⟩,c.sep⟩
    |live=>exact⟨fun b hb=>by
     have aL:=c.sub b hb;have:=hm.1 b aL;exact⟨by rw[mJ];exact this.1,(jE b this.2.1.lt).jO this.2.1,this.2.2⟩,c.sep⟩
  ·rw[(hN n hs).1] at hn;rw[(hN n hs).2];have hr:=H.row n gr m sz av hn;have eH:=anA n gr m sz av hs hn;refine⟨hr.pos,hr.er,hr.nl,fun hl=>?_,fun hl hg=>?_,?_,fun hg hm=>(hr.nr hg hm).congr eH⟩
   ·obtain⟨l1,l2,l3⟩:=hr.eK hl;have hb:=S0 n hs (by rw[hn];simp) hl;exact⟨l1.congr hb,l2.congr (fun o=>gV hb o) (fun b' aL o=>gV (eH b' aL) o),l3⟩
   ·obtain⟨r2,cur,e,r3,r4⟩:=hr.room hl hg;exact⟨r2,cur,e,(S0 n hs (by rw[hn];simp) hl).trans r3,r4⟩
   ·have hm:=hr.mode;cases m with
    |aJ=>exact fun b hb=>by rw[mJ];exact hm b hb
    |aN=>exact⟨fun b hb=>⟨by rw[mJ];exact(hm.1 b hb).1,(hm.1 b hb).2.1.congr (eH b hb),(hm.1 b hb).2.2⟩,hm.2⟩
    |live=>exact⟨fun b hb=>⟨by rw[mJ];exact(hm.1 b hb).1,(hm.1 b hb).2.1.congr (eH b hb),(hm.1 b hb).2.2⟩,hm.2⟩
 ·obtain⟨s1,s2,s3,s4,s5⟩:=h9 n;rw[s1] at hl;rw[s2];obtain⟨o1,o2,o3⟩:=H.own n (ne n hn) hl;exact⟨by rw[mJ];exact o1,o2,Nat.lt_of_lt_of_le o3 bV⟩
 ·rw[(h9 n).1] at hl;rw[(h9 n').1] at eQ;rw[(h9 n).2.1,(h9 n').2.1];exact H.inj n n' (ne n hn) (ne n' bu) aD hl eQ
 ·rw[mJ] at hb;exact Nat.lt_of_lt_of_le (H.gH b hb) bV
 ·obtain⟨x1,e1⟩:=lM n gr m sz xs hn;obtain⟨x2,e2⟩:=lM n' bo m' aF av bu;exact H.gv n n' gr m sz x1 bo m' aF x2 e1 e2 hm bP aD b (sub n b hb) (sub n' b aL)
 ·obtain⟨x1,e1⟩:=lM n gr .live sz xs hn;rw[(h9 n').1] at hl;rw[(h9 n').2.1];exact H.live n gr sz x1 e1 b (sub n b hb) n' (ne n' bu) hl
 ·intro i pc hi;simp at hi
 ·intro i j pc dC b _ hi;simp at hi
 ·intro i pc n gr m sz xs b hi;simp at hi
def FO (σ σ1:St) (it:dD) (x:C):Prop:=
 match it with
 |.nil _=>True
 |.row n=>∃gr m rs xs av,σ.h n=some (.row gr m rs xs)/\x=.list rs av/\σ1.h n=some (.row gr m rs av)
 |.nest n k off=>∃gr m rs xs e,σ.h n=some (.row gr m rs xs)/\xs[k]? =some e/\σ1.h n=some (.row gr m rs (xs.set k (e.set off x)))
theorem ase {it:dD} {x:C} {σ1:St} (hx:σ.pk it x=some σ1):σ1.env=σ.env/\σ1.used=σ.used/\(∀n,it.eV≠some n->σ1.h n=σ.h n)/\FO σ σ1 it x:=by
 cases it with
 |nil sz=>simp only[St.pk] at hx;injection hx with hx;subst hx;exact⟨rfl,rfl,fun _ _=>rfl,trivial⟩
 |row n=>
  cases x with
  |int k i=>simp[St.pk] at hx
  |bool b=>simp[St.pk] at hx
  |list sz xs=>
   simp only[St.pk] at hx;split at hx
   ·rename_i gr m rs jv hn;split at hx
    ·rename_i e;injection hx with hx;subst hx;subst e;exact⟨rfl,rfl,fun q hq=>cN _ _ _ _ (fun e=>hq (by rw[e];rfl)),gr,m,rs,jv,xs,hn,rfl,bR _ _ _⟩
    ·cases hx
   ·cases hx
 |nest n k off=>
  simp only[St.pk] at hx;split at hx
  ·rename_i gr m rs xs hn;split at hx
   ·rename_i e he;injection hx with hx;subst hx;exact⟨rfl,rfl,fun q hq=>cN _ _ _ _ (fun e=>hq (by rw[e];rfl)),gr,m,rs,xs,e,hn,he,bR _ _ _⟩
   ·cases hx
  ·cases hx
theorem FO.congr {σ σ1 τ oH:St} {it:dD} {x:C} (hx:FO σ σ1 it x) (h1:∀n,it.eV=some n->τ.h n=σ.h n) (h2:∀n,it.eV=some n->oH.h n=σ1.h n):FO τ oH it x:=by
 cases it with
 |nil sz=>trivial
 |row n=>obtain⟨gr,m,rs,xs,av,e1,e2,e3⟩:=hx;exact⟨gr,m,rs,xs,av,(h1 n rfl).trans e1,e2,(h2 n rfl).trans e3⟩
 |nest n k off=>obtain⟨gr,m,rs,xs,e,e1,e2,e3⟩:=hx;exact⟨gr,m,rs,xs,e,(h1 n rfl).trans e1,e2,(h2 n rfl).trans e3⟩
theorem QP {it:dD×Mode} {its:List (dD×Mode)} (h:it.1.eV=none):(it::its).filterMap (·.1.eV)=its.filterMap (·.1.eV):=List.filterMap_cons_none h
theorem Dt {it:dD×Mode} {its:List (dD×Mode)} {n:Nat} (h:it.1.eV=some n):(it::its).filterMap (·.1.eV)=n::its.filterMap (·.1.eV):=List.filterMap_cons_some h
theorem adG:∀{its:List (dD×Mode)} {d7:List C} {σ σ1:St},σ.oy its d7=some σ1->(its.filterMap (·.1.eV)).Nodup->σ1.env=σ.env/\σ1.used=σ.used/\
  (∀n,n∉its.filterMap (·.1.eV)->σ1.h n=σ.h n)/\∀(i:Nat) (it:dD×Mode) (x:C),its[i]? =some it->d7[i]? =some x->FO σ σ1 it.1 x
 |[],[],σ,σ1,hx,fB=>by
  simp only[St.oy] at hx;injection hx with hx;subst hx;exact⟨rfl,rfl,fun _ _=>rfl,by intro i it x h;simp at h⟩
 |it::its,x::d7,σ,σ2,hx,fB=>by
  simp only[St.oy] at hx;split at hx
  ·rename_i σ1 e1;obtain⟨p1,p2,p3,p4⟩:=ase e1;have u9:(its.filterMap (·.1.eV)).Nodup:=by
    cases hn:it.1.eV with
    |none=>rw[QP hn] at fB;exact fB
    |some n=>rw[Dt hn] at fB;exact(List.nodup_cons.1 fB).2
   have mK:∀n,it.1.eV=some n->n∉its.filterMap (·.1.eV):=by
    intro n hn;rw[Dt hn] at fB;exact(List.nodup_cons.1 fB).1
   obtain⟨q1,q2,q3,q4⟩:=adG hx u9;refine⟨q1.trans p1,q2.trans p2,fun n hn=>?_,fun i Bn x' hi mg=>?_⟩
   ·have h1:it.1.eV≠some n:=by
     intro e;rw[Dt e] at hn;exact hn (by simp)
    have h2:n∉its.filterMap (·.1.eV):=by
     intro hm;apply hn;cases hq:it.1.eV with
     |none=>rw[QP hq];exact hm
     |some q=>rw[Dt hq];exact List.mem_cons_of_mem _ hm
    exact(q3 n h2).trans (p3 n h1)
   ·cases i with
    |zero=>
     simp at hi mg;subst hi;subst mg;exact p4.congr (fun _ _=>rfl) (fun n hn=>q3 n (mK n hn))
    |succ i=>
     have hi':its[i]? =some Bn:=by simpa using hi
     refine(q4 i Bn x' hi' (by simpa using mg)).congr (fun n hn=>?_) (fun _ _=>rfl);refine(p3 n ?_).symm;intro e;refine mK n e ?_;rw[List.mem_filterMap];exact⟨Bn,List.mem_of_getElem? hi',hn⟩
  ·cases hx
 |[],_::_,σ,σ1,hx,_=>by simp[St.oy] at hx
 |_::_,[],σ,σ1,hx,_=>by simp[St.oy] at hx
theorem MB:∀{its:List (dD×Mode)},(its.filterMap (·.1.eV)).Nodup->∀{i j:Nat} {x y:dD×Mode} {n:Nat},its[i]? =some x->its[j]? =some y->x.1.eV=some n->y.1.eV=some n->i=j
 |[],_,i,j,x,y,n,hi,_,_,_=>by simp at hi
 |it::its,fB,i,j,x,y,n,hi,hj,hx,hy=>by
  have u9:(its.filterMap (·.1.eV)).Nodup:=by
   cases hn:it.1.eV with
   |none=>rw[QP hn] at fB;exact fB
   |some n=>rw[Dt hn] at fB;exact(List.nodup_cons.1 fB).2
  have mK:∀n,it.1.eV=some n->∀(k:Nat) (z:dD×Mode),its[k]? =some z->z.1.eV≠some n:=by
   intro n hn k z hk e;rw[Dt hn] at fB;exact(List.nodup_cons.1 fB).1 (List.mem_filterMap.2 ⟨z,List.mem_of_getElem? hk,e⟩)
  cases i with
  |zero=>
   cases j with
   |zero=>rfl
   |succ j=>
    simp at hi hj;subst hi;exact absurd hy (mK n hx j y hj)
  |succ i=>
   cases j with
   |zero=>
    simp at hi hj;subst hj;exact absurd hx (mK n hy i x hi)
   |succ j=>exact congrArg (·+1) (MB u9 (i:=i) (j:=j) (by simpa using hi) (by simpa using hj) hx hy)
end
section
variable {B:Nat} {E:Ex} {w0 w w':World} {G G':Gh} {N:Nat} {h h':Nat->Option aq} {used:Nat->Bool}
variable {P:Program} {o:Oper} {a:Act} {σ σ':St} {Q:Exit->Act->World->Prop}
def zu (p:PB):dD->PC->PB
 |.row _,.list _ _ _ px=>{p with px:=px}
 |.nest _ k off,q=>{p with px:=p.px.set k ((p.px.getD k []).set off q)}
 |_,_=>p
open Classical in
noncomputable def uY (G:Gh) (its:List (dD×Mode)) (qs:List PC):Gh:=
 ⟨G.Im,fun n=>if h:∃p:(dD×Mode)×PC,∃i:Nat,its[i]? =some p.1/\qs[i]? =some p.2/\p.1.1.eV=some n then zu (G.g n) h.choose.1.1 h.choose.2 else G.g n⟩
theorem aae {its:List (dD×Mode)} {qs:List PC} (fB:(its.filterMap (·.1.eV)).Nodup) {i n:Nat} {it:dD×Mode} {q:PC} (hi:its[i]? =some it) (hq:qs[i]? =some q) (hn:it.1.eV=some n):
  (uY G its qs).g n=zu (G.g n) it.1 q:=by
 have si:∃p:(dD×Mode)×PC,∃i:Nat,its[i]? =some p.1/\qs[i]? =some p.2/\p.1.1.eV=some n:=⟨(it,q),i,hi,hq,hn⟩;unfold uY;simp only
 rw[dif_pos si];obtain⟨j,h1,h2,h3⟩:=si.choose_spec;have iq:=MB fB h1 hi h3 hn;subst iq;rw[hi] at h1;rw[hq] at h2;injection h1 with h1;injection h2 with h2;rw[<-h1,<-h2]
theorem aaf {its:List (dD×Mode)} {qs:List PC} {n:Nat} (hn:n∉its.filterMap (·.1.eV)):(uY G its qs).g n=G.g n:=by
 unfold uY;simp only
 rw[dif_neg];rintro⟨p,i,h1,h2,h3⟩;exact hn (List.mem_filterMap.2 ⟨p.1,List.mem_of_getElem? h1,h3⟩)
theorem PC.S7 {pc q:PC} (hv:q.val=pc.val) (hL:pc.ie=true):∃sz a cap xs,q=.list sz a cap xs:=by
 cases pc with
 |int k n=>cases hL
 |bool b=>cases hL
 |list sz a cap xs=>
  cases q with
  |int k n=>cases hv
  |bool b=>cases hv
  |list sz a cap xs=>exact⟨_,_,_,_,rfl⟩
theorem Y1 {px:List (List PC)} (hs:eP (px.map fun e=>e.map PC.er)=true) {k j:Nat} {c:PC} (hk:At px k j c):c.ie=false:=by
 obtain⟨e,he,hj⟩:=hk;have h6:=List.all_eq_true.1 hs (e.map PC.er) (by simp only[List.mem_map];exact⟨e,List.mem_of_getElem? he,rfl⟩);have h7:=List.all_eq_true.1 h6 c.er (by simp only[List.mem_map];exact⟨c,List.mem_of_getElem? hj,rfl⟩);cases hL:c.ie with
 |false=>rfl
 |true=>rw[PC.aa3 hL] at h7;cases h7
theorem Y0 {px:List (List PC)} (hs:eP (px.map fun e=>e.map PC.er)=true) (b:Nat):¬bh b px:=by
 rintro⟨k,j,c,⟨e,he,hj⟩,hc⟩;have h6:=List.all_eq_true.1 hs (e.map PC.er) (by simp only[List.mem_map];exact⟨e,List.mem_of_getElem? he,rfl⟩);have h7:=List.all_eq_true.1 h6 c.er (by simp only[List.mem_map];exact⟨c,List.mem_of_getElem? hj,rfl⟩);exact(Sep.hY h7).2 b hc
theorem XF (H:HR B E w G h used []) {n:Nat} {gr:Bool} {m md:Mode} {sz:Nat} {xs:List (List C)} (hn:h n=some (.row gr m sz xs)) (hm:m≠ .aJ) (wU:md=.live->m=.live) (kv:uR md xs=true) (wP:m=.live->gr=false)
  {q:PC} (A:th w' md (pq sz (G.g n)) q) {k:Nat} {av:List (List C)} (hq:q.er=.list k av):FF w' (G.g n) (zu (G.g n) (.row n) q) gr m sz av:=by
 have hr:=H.row n gr m sz xs hn;have bN:h n≠none:=by rw[hn];simp
 obtain⟨aF,a',ko,px',rfl⟩:=PC.S7 A.val rfl;obtain⟨rfl,ha,rfl,hlen,hl⟩:=A.live _ _ _ _ _ _ _ _ rfl rfl;rw[PC.dV] at hq;injection hq with _ hq;have jY:=A.sep;have eS:(∀k j c,At px' k j c->Sep c)/\(∀b o k j c,a'=some (ad b o)->At px' k j c->¬aZ b c)/\iO px':=by
  cases jY with
  |list _ _ _ _ h1 h2 h3=>exact⟨h1,h2,h1,h3⟩
 have qS:∀b,bh b px'->(G.g n).nl=false->b≠(G.g n).b:=by
  rintro b ⟨k,j,c,hk,hc⟩ aR rfl;refine eS.2.1 (G.g n).b (G.g n).o k j c ?_ hk hc;rw[ha,if_neg (by simp[aR])]
 have iH:md=.aN->eP xs=true:=by rintro rfl;exact kv
 refine⟨hm,?_,rfl,rfl,rfl,rfl,rfl,hq.symm,fun aR=>?_,fun aR=>?_,eS.2.2,fun b hb=>?_,fun dW k j pc hk hL=>?_,fun hg hl=>by rw[wP hl] at hg;cases hg⟩
 ·cases md with
  |aJ=>cases kv
  |live=>exact .inr (wU rfl)
  |aN=>exact .inl (Y0 (by rw[<-hr.er];exact iH rfl))
 ·have:=(hr.nl aR).1;rw[this] at hlen;exact List.eq_nil_of_length_eq_zero hlen
 ·refine⟨?_,?_⟩
  ·have hg:=A.eG;rw[ha,if_neg (by simp[aR])] at hg;by_cases h0:px'=[]
   ·show nG w' _ _ _ px';rw[h0];exact⟨by simp,by rintro k j c ⟨e,he,_⟩;simp at he,by rintro k j c ⟨e,he,_⟩;simp at he⟩
   ·generalize kw:PC.list aF (some (ad (G.g n).b (G.g n).o)) (G.g n).cap px'=q2 at hg;cases hg with
    |int k n=>cases kw
    |bool b=>cases kw
    |nil _ _ _ _=>injection kw with _ _ _ e4;exact absurd e4 h0
    |cons _ _ _ _ _ h1 h2 h3 h4 h5 h6=>
     injection kw with e1 e2 e3 e4;injection e2 with e2;obtain⟨e5,e6⟩:=lz e2;subst e1 e3 e4;rw[e5,e6];exact⟨h4,h5,h6⟩
  ·show px'.length<=_;rw[hlen];exact(hr.eK aR).2.2
 ·have dw:aZ b (pq aF (G.g n)):=A.sub b (by
   obtain⟨k,j,c,hk,hc⟩:=hb;exact .there _ _ _ _ k j c hk hc)
  rcases T5 (fun hq=>(hr.nl hq).1) dw with⟨aR,he⟩|hF
  ·exact absurd he (qS b hb aR)
  ·exact hF
 ·cases md with
  |aJ=>cases kv
  |live=>exact hl rfl k j pc hk hL
  |aN=>
   have:=Y1 (px:=(G.g n).px) (by rw[<-hr.er];exact iH rfl) hk;rw[hL] at this;cases this
theorem oJ {α:Type} {px:List (List α)} {k off k' j':Nat} {e:List α} {q c:α} (he:px[k]? =some e) (h:At (px.set k (e.set off q)) k' j' c):(k'=k/\j'=off/\c=q)\/(At px k' j' c/\(k',j')≠(k,off)):=by
 have hk:=(List.getElem?_eq_some_iff.1 he).1;rcases Kl hk h with⟨rfl,h1⟩|⟨aD,h1⟩
 ·by_cases hj:j'=off
  ·subst hj;have hl:j'<e.length:=by have:=(List.getElem?_eq_some_iff.1 h1).1;simpa using this
   rw[List.getElem?_set_self hl] at h1;injection h1 with h1;exact .inl ⟨rfl,rfl,h1.symm⟩
  ·rw[List.getElem?_set_ne (Ne.symm hj)] at h1;exact .inr ⟨⟨e,he,h1⟩,fun e=>hj (congrArg Prod.snd e)⟩
 ·exact .inr ⟨h1,fun e=>aD (congrArg Prod.fst e)⟩
theorem ahB {α:Type} {px:List (List α)} {k off k' j':Nat} {e:List α} {q c:α} (he:px[k]? =some e) (h:At px k' j' c) (aD:(k',j')≠(k,off)):At (px.set k (e.set off q)) k' j' c:=by
 obtain⟨e',h1,h2⟩:=h;by_cases hk:k'=k
 ·subst hk;rw[he] at h1;injection h1 with h1;subst h1;have hj:j'≠off:=fun e=>aD (by rw[e]);exact⟨_,List.getElem?_set_self (List.getElem?_eq_some_iff.1 he).1,by rw[List.getElem?_set_ne (Ne.symm hj)];exact h2⟩
 ·exact⟨e',by rw[List.getElem?_set_ne (Ne.symm hk)];exact h1,h2⟩
theorem XE (H:HR B E w G h used []) {n k off:Nat} {gr:Bool} {sz:Nat} {xs:List (List C)} (hn:h n=some (.row gr .live sz xs)) (wP:gr=false) {pc:PC} (cG:At (G.g n).px k off pc) (hL:pc.ie=true)
  (qS:(G.g n).nl=false->w'.heap[(G.g n).b]? =w.heap[(G.g n).b]?) (yX:∀k' j' c,At (G.g n).px k' j' c->(k',j')≠(k,off)->∀b,aZ b c->w'.heap[b]? =w.heap[b]?)
  {q:PC} (A:th w' .aN pc q) {ex:List C} (si:xs[k]? =some ex):FF w' (G.g n) (zu (G.g n) (.nest n k off) q) gr .live sz (xs.set k (ex.set off q.er)):=by
 have hr:=H.row n gr .live sz xs hn;obtain⟨e0,lB,RF⟩:=cG;have iV:(G.g n).px.getD k []=e0:=by simp[List.getD_eq_getElem?_getD,lB]
 have fw:(zu (G.g n) (.nest n k off) q).px=(G.g n).px.set k (e0.set off q):=by simp only[zu,iV]
 have ak7:ex=e0.map PC.er:=by
  rw[hr.er,List.getElem?_map,lB] at si;simpa using si.symm
 have cG:At (G.g n).px k off pc:=⟨e0,lB,RF⟩;have hqL:q.ie=true:=by
  obtain⟨sz,a,cap,xs,rfl⟩:=PC.S7 A.val hL;rfl
 have aR:(G.g n).nl=false:=by
  cases hq:(G.g n).nl with
  |false=>rfl
  |true=>rw[(hr.nl hq).1] at lB;simp at lB
 obtain⟨l1,l2,l3⟩:=hr.eK aR;refine⟨by simp,.inr rfl,rfl,rfl,rfl,rfl,rfl,?_,fun h=>?_,fun _=>?_,?_,fun b hb=>?_,fun _ k' j' c bL hc=>?_,fun hg _=>by rw[wP] at hg;cases hg⟩
 ·rw[fw,hr.er,ak7,List.map_set,List.map_set]
 ·rw[aR] at h;cases h
 ·rw[fw];refine⟨⟨fun e he=>?_,fun k' j' c bL=>?_,fun k' j' c bL=>?_⟩,by rw[List.length_set];exact l3⟩
  ·rcases List.mem_or_eq_of_mem_set he with he|rfl
   ·exact l2.1 e he
   ·rw[List.length_set];exact l2.1 e0 (List.mem_of_getElem? lB)
  ·rw[gV (qS aR)];rcases oJ lB bL with⟨rfl,rfl,rfl⟩|⟨h1,_⟩
   ·rw[A.val];exact l2.2.1 _ _ _ cG
   ·exact l2.2.1 _ _ _ h1
  ·rcases oJ lB bL with⟨rfl,rfl,rfl⟩|⟨h1,h2⟩
   ·exact A.eG
   ·exact(l2.2.2 _ _ _ h1).congr fun b hb o=>gV (yX k' j' c h1 h2 b hb) o
 ·rw[fw];refine⟨fun k' j' c bL=>?_,fun k1 j1 c1 k2 j2 c2 b h1 h2 aD hb aL=>?_⟩
  ·rcases oJ lB bL with⟨rfl,rfl,rfl⟩|⟨h1,h2⟩
   ·exact A.sep
   ·exact hr.mode.2.1 _ _ _ h1
  ·rcases oJ lB h1 with⟨rfl,rfl,rfl⟩|⟨g1,n1⟩
   ·rcases oJ lB h2 with⟨rfl,rfl,rfl⟩|⟨g2,n2⟩
    ·exact aD rfl
    ·exact hr.mode.2.2 _ _ _ _ _ _ b cG g2 aD (A.sub b hb) aL
   ·rcases oJ lB h2 with⟨rfl,rfl,rfl⟩|⟨g2,n2⟩
    ·exact hr.mode.2.2 _ _ _ _ _ _ b g1 cG aD hb (A.sub b aL)
    ·exact hr.mode.2.2 _ _ _ _ _ _ b g1 g2 aD hb aL
 ·rw[fw] at hb;obtain⟨k',j',c,bL,hc⟩:=hb;rcases oJ lB bL with⟨rfl,rfl,rfl⟩|⟨h1,h2⟩
  ·exact⟨_,_,_,cG,A.sub b hc⟩
  ·exact⟨_,_,_,h1,hc⟩
 ·rw[fw];by_cases he:(k',j')=(k,off)
  ·have h1:k'=k:=congrArg Prod.fst he;have h2:j'=off:=congrArg Prod.snd he;subst h1 h2;obtain⟨e1,g1,g2⟩:=bL;rw[lB] at g1;injection g1 with g1;subst g1;rw[RF] at g2;injection g2 with g2;subst g2;have hl:j'<e0.length:=(List.getElem?_eq_some_iff.1 RF).1;exact⟨q,⟨_,List.getElem?_set_self (List.getElem?_eq_some_iff.1 lB).1,List.getElem?_set_self hl⟩,A.val,hqL⟩
  ·exact⟨c,ahB lB bL he,rfl,hc⟩
theorem Tg:∀{as:List aj} {dc:List (Bool×List ah)} {vals:List Value},rk as=some dc->vals.length=as.length->(∀(j:Nat) (x:aj) (v:Value),as[j]? =some x->vals[j]? =some v->RA w G h x v)->
  vals.length=dc.length/\∀(j:Nat) (x:Bool×List ah) (v:Value),dc[j]? =some x->vals[j]? =some v->RV w G h x.1 x.2 v
 |[],dc,vals,hx,hl,hc=>by
  simp only[rk] at hx;injection hx with hx;subst hx;exact⟨hl,by simp⟩
 |y::as,dc,vals,hx,hl,hc=>by
  simp only[rk] at hx;split at hx
  ·rename_i x xs e1 e2;injection hx with hx;subst hx;match vals,hl with
   |v::vals,hl=>
    obtain⟨i1,i2⟩:=Tg e2 (vals:=vals) (by simpa using hl) (fun j x v h1 h2=>hc (j+1) x v h1 h2);refine⟨by simp[i1],fun j x' v' hj hv=>?_⟩;cases j with
    |zero=>
     simp at hj hv;subst hj hv;have h0:=hc 0 y v rfl rfl;cases y with
     |one c=>
      cases c<;>simp[aj.cells?] at e1<;>subst e1<;>exact h0.resolve_left (by simp)
     |agg cs=>
      simp[aj.cells?] at e1;subst e1;exact h0
     |bK l=>simp[aj.cells?] at e1
    |succ j=>exact i2 j x' v' (by simpa using hj) (by simpa using hv)
  ·cases hx
theorem uz.ie {it:dD} {md:Mode} {pc:PC} (i:uz B E w G h it md pc):pc.ie=true:=by
 obtain⟨sz,a,cap,xs,rfl,_⟩:=i.ok.eK;rfl
def CQ (P:Program) (T:aQ):Prop:=∀f sig M,aQ.nQ T.vH f=some (sig,M)->rQ P f sig M
def Pz (w:World) (sig:aK) (pas:List PA) (rs:List Dv) (d7:List C) (e:Ending) (w':World):Prop:=
  ∃bt:List (K×List PC),bt.map (fun p=>(p.1,p.2.map PC.er))=rs/\e=.returned (xG bt)/\(∀p∈bt,p.1≠ .ptr/\(p.1=.one->p.2.length=1))/\
   wb w' w.heap.size (bt.flatMap (·.2))/\Fr w.heap.size (AD (eI sig (pas.map (·.ps)))) w w'/\
   ∃qs:List PC,qs.map PC.er=d7/\qs.length=(eI sig (pas.map (·.ps))).length/\
    ∀(i:Nat) (x:Mode×PC) (q:PC),(eI sig (pas.map (·.ps)))[i]? =some x->qs[i]? =some q->th w' x.1 x.2 q
theorem Yv (r:R B E w0 N σ a w G) {m:Mode} {f:FuncId} {vals vals':List Value} {sig:aK} {ns:List Nat} {ds:List Dv} {its:List (dD×Mode)} {pas:List PA} {rs:List Dv} {d7:List C} {σ2 gN:St} {ls:List (Bool×List ah)}
  (hS:∀pas,yi w sig ds vals pas->Calls P f vals'.toArray w (Pz w sig pas rs d7)) (hN:∀n,o.dst=some n->n<N) (bE:(execOp a.eval o).run P w=.ok (.enter f vals'.toArray) w)
  (q1:pas.length=ds.length) (q2:vals.length=ds.length) (q3:∀(i:Nat) (d:Dv) (v:Value) (p:PA),ds[i]? =some d->vals[i]? =some v->pas[i]? =some p->vW w d v p)
  (w4:∀p∈pas,p.k=.ptr->∃n cs,σ.h n=some (.box cs)/\(G.g n).nl=false/\p.b=(G.g n).b)
  (alv:∀(i:Nat) (p:PA) (s:List (Option Mode)),pas[i]? =some p->sig[i]? =some s->p.k=.ptr->zB s p.ps.length)
  (q5:kH B E w G σ.h its (eI sig (pas.map (·.ps)))) (q6:its.filterMap (·.1.eV)=ns) (q7:∀pc∈mz sig (pas.map (·.ps)),FA G σ.h ns pc) (fB:ns.Nodup)
  (nZ:σ.oy its d7=some σ2) (wR:σ2.jG m (jJ o.dst) rs=some (ls,gN)):o.wp P a w (Nx B E w0 N (gN.put o.dst (mr ls))) Q:=by
 have H:=r.hr;have u9:(its.filterMap (·.1.eV)).Nodup:=by rw[q6];exact fB
 generalize u4:eI sig (pas.map (·.ps))=fl at q5;have L0:∀(i:Nat) (x:Mode×PC),fl[i]? =some x->∃it,its[i]? =some it/\it.2=x.1/\uz B E w G σ.h it.1 x.1 x.2:=by
  intro i x hi;have cu:i<its.length:=by rw[q5.len];exact(List.getElem?_eq_some_iff.1 hi).1
  have he:its[i]? =some its[i]:=List.getElem?_eq_getElem cu;exact⟨_,he,q5.at_ i _ x he hi⟩
 have Y3:∀x∈fl,∃it∈its,uz B E w G σ.h it.1 x.1 x.2:=by
  intro x hx;obtain⟨i,hi⟩:=List.getElem?_of_mem hx;obtain⟨it,h1,_,h2⟩:=L0 i x hi;exact⟨it,List.mem_of_getElem? h1,h2⟩
 have lE:∀x∈fl,∀b,aZ b x.2->∃n gr m sz xs,n∈ns/\σ.h n=some (.row gr m sz xs)/\m≠ .aJ/\tD G n b/\((∀b,¬bh b (G.g n).px)\/m=.live):=by
  intro x hx b hb;obtain⟨it,h1,h2⟩:=Y3 x hx;obtain⟨n,gr,m,sz,xs,e1,e2,e3,e4,e5⟩:=h2.oP H hb;exact⟨n,gr,m,sz,xs,by rw[<-q6];exact List.mem_filterMap.2 ⟨it,h1,e1⟩,e2,e3,e4,e5⟩
 have si:∀b,AD fl b->(B<=b\/E b):=by
  rintro b ⟨x,hx,hb⟩;obtain⟨n,gr,m,sz,xs,_,e2,e3,e4,e5⟩:=lE x hx b hb;rcases e4 with⟨aR,rfl⟩|hF
  ·exact(H.own n (by rw[e2];simp) aR).2.1
  ·have gj:=(H.row n gr m sz xs e2).mode;cases m with
   |aJ=>exact absurd rfl e3
   |aN=>exact(gj.1 b hF).2.2
   |live=>exact(gj.1 b hF).2.2
 have Ti:yi w sig ds vals pas:=by
  refine⟨q2,q1,q3,fun x hx=>?_,?_,fun pc bi x hx b hb aL=>?_,fun p hp hk x hx hb=>?_,alv⟩
  ·rw[u4] at hx;obtain⟨it,_,h2⟩:=Y3 x hx;exact h2.ok
  ·rw[u4,List.pairwise_iff_getElem];intro i j hi hj iq b hb aL;obtain⟨it,h1,_,h2⟩:=L0 i _ (List.getElem?_eq_getElem hi);obtain⟨Bn,iU,_,yJ⟩:=L0 j _ (List.getElem?_eq_getElem hj);obtain⟨n,gr,m,sz,xs,e1,e2,e3,e4,e5⟩:=h2.oP H hb;obtain⟨n',bo,m',aF,av,Gr,nM,Qv,wC,Av⟩:=yJ.oP H aL;have aD:n≠n':=by
    rintro rfl;have:=MB u9 h1 iU e1 Gr;omega
   exact H.GH aD e2 nM Av e4 wC
  ·rw[u4] at hx;obtain⟨n',bo,m',aF,av,Gr,nM,Qv,wC,Av⟩:=lE x hx b aL;rcases q7 pc bi b hb with hi|⟨n,gr,m,sz,xs,hn,e2,e4⟩
   ·rcases wC with⟨aR,rfl⟩|hF
    ·exact(H.own n' (by rw[nM];simp) aR).1 hi
    ·rcases Av with Av|rfl
     ·exact Av b hF
     ·exact((H.row n' bo .live aF av nM).mode.1 b hF).1 hi
   ·have aD:n≠n':=fun e=>hn (e▸Gr);exact H.GH aD e2 nM Av e4 wC
  ·rw[u4] at hx;obtain⟨n',bo,m',aF,av,Gr,nM,Qv,wC,Av⟩:=lE x hx p.b hb;obtain⟨n,cs,hn,hl,oU⟩:=w4 p hp hk;rw[oU] at wC;have bN:σ.h n≠none:=by rw[hn];simp
   rcases wC with⟨aR,he⟩|hF
   ·refine H.inj n n' bN (by rw[nM];simp) ?_ hl aR he;rintro rfl;rw[hn] at nM;cases nM
   ·have gj:=(H.row n' bo m' aF av nM).mode;cases m' with
    |aJ=>exact absurd rfl Qv
    |aN=>exact(H.own n bN hl).1 (gj.1 _ hF).1
    |live=>exact H.live n' bo aF av nM _ hF n bN hl rfl
 unfold Oper.wp;rw[bE];refine(hS pas Ti).mono fun e w' ⟨bt,p1,p2,p3,p4,p5,qs,p6,p7,p8⟩=>?_;subst p2;rw[u4] at p5 p7 p8;obtain⟨t1,t2,t3,t4⟩:=adG nZ u9;have hSn:∀n,n∈ns->∃(i:Nat) (it:dD×Mode) (x:Mode×PC) (q:PC),its[i]? =some it/\fl[i]? =some x/\qs[i]? =some q/\d7[i]? =some q.er/\it.1.eV=some n/\uz B E w G σ.h it.1 x.1 x.2/\th w' x.1 x.2 q:=by
  intro n hn;rw[<-q6,List.mem_filterMap] at hn;obtain⟨it,yP,gK⟩:=hn;obtain⟨i,hi⟩:=List.getElem?_of_mem yP;have cu:i<fl.length:=by rw[<-q5.len];exact(List.getElem?_eq_some_iff.1 hi).1
  have hx:fl[i]? =some fl[i]:=List.getElem?_eq_getElem cu;have hq:qs[i]? =some (qs[i]'(by rw[p7];exact cu)):=List.getElem?_eq_getElem _;exact⟨i,it,_,_,hi,hx,hq,by rw[<-p6,List.getElem?_map,hq];rfl,gK,(q5.at_ i it _ hi hx).2,p8 i _ _ hx hq⟩
 have alP:∀b,b<w.heap.size->(∀n,n∈ns->¬tD G n b)->w'.heap[b]? =w.heap[b]? :=by
  intro b hb cm;refine p5.block b hb ?_;rintro⟨x,hx,GQ⟩;obtain⟨n,gr,m,sz,xs,e1,e2,e3,e4,e5⟩:=lE x hx b GQ;exact cm n e1 e4
 have als:∀b,b<w.heap.size->(∀x∈fl,¬aZ b x.2)->w'.heap[b]? =w.heap[b]? :=fun b hb cm=>p5.block b hb (by rintro⟨x,hx,GQ⟩;exact cm x hx GQ);obtain⟨tg,K,fP⟩:=H.HO (G':=uY G its qs) (h':=σ2.h) (w':=w') (S:=fun n=>n∈ns) p5.size alP (fun b hb=>p5.jO b hb) rfl (fun n hn=>by
  obtain⟨i,it,x,q,hi,hxi,n5,iG,gK,fb,GK⟩:=hSn n hn;have cG:=fb.at_;have aaw:=t4 i it q.er hi iG;rw[aae u9 hi n5 gK];obtain⟨SL,md⟩:=it;cases SL with
  |nil sz=>cases gK
  |row n'=>
   injection gK with gK;have gK:n'=n:=gK;subst gK;obtain⟨gr,mo,sz,xs,e1,e2,e3,e4,e5⟩:=cG;obtain⟨bo,jI,mw,jv,av,g1,g2,g3⟩:=aaw;rw[e1] at g1;injection g1 with g1;injection g1 with a1 a2 a3 a4;subst a1 a2 a3 a4;rw[e4] at GK;exact⟨gr,mo,sz,xs,av,e1,g3,XF H e1 e2 e3 e5.1 e5.2 GK g2⟩
  |nest n' k off=>
   injection gK with gK;have gK:n'=n:=gK;subst gK;obtain⟨gr,sz,xs,e1,e2,e3,wP⟩:=cG;obtain⟨bo,jI,mw,jv,ex,g1,g2,g3⟩:=aaw;rw[e1] at g1;injection g1 with g1;injection g1 with a1 a2 a3 a4;subst a1 a2 a3 a4;rw[e2] at GK;have hr:=H.row n' gr .live sz xs e1;have bN:σ.h n'≠none:=by rw[e1];simp
   have LB:∀b,tD G n' b->¬aZ b x.2->w'.heap[b]? =w.heap[b]? :=by
    intro b hb oT;have cu:b<w.heap.size:=by
     rcases hb with⟨aR,rfl⟩|hF
     ·exact(H.own n' bN aR).2.2
     ·exact H.po e1 hF
    refine als b cu fun y hy nU=>?_;obtain⟨j,hj⟩:=List.getElem?_of_mem hy;by_cases iq:j=i
    ·subst iq;rw[hxi] at hj;injection hj with hj;subst hj;exact oT nU
    ·obtain⟨Bn,iU,_,yJ⟩:=L0 j y hj;obtain⟨n2,Dz,m2,jd,gD,f1,f2,f3,f4,f5⟩:=yJ.oP H nU;have aD:n'≠n2:=by
      rintro rfl;exact iq (MB u9 iU hi f1 rfl)
     exact H.GH aD e1 f2 f5 hb f4
   refine⟨gr,.live,sz,xs,_,e1,g3,XE H e1 wP e3 fb.ie (fun aR=>LB _ (.inl ⟨aR,rfl⟩) fun hb=>?_) (fun k' j' c hk aD b hb=>LB b (.inr ⟨k',j',c,hk,hb⟩) fun GQ=>?_) GK g2⟩
   ·exact H.live n' gr sz xs e1 _ ⟨k,off,x.2,e3,hb⟩ n' bN aR rfl
   ·exact hr.mode.2.2 _ _ _ _ _ _ b hk e3 aD hb GQ) (fun n hn=>⟨t3 n (by rw[q6];exact hn),aaf (by rw[q6];exact hn)⟩)
 have HR2:HR B E w' (uY G its qs) σ2.h σ2.used []:=by rw[t2];exact tg
 have dw:v7 B w' (uY G its qs) σ2.h (bt.flatMap (·.2)):=by
  refine⟨p4.eG,fun pc bi b hb=>?_,?_⟩
  ·obtain⟨n1,n2⟩:=p4.new pc bi b hb;refine⟨⟨fun hi=>?_,fun q hq kw he=>?_,fun q gr mo sz xs hq cT=>?_⟩,n2,Nat.le_trans r.fr.size n1⟩
   ·have:=H.gH b hi;omega
   ·obtain⟨k0,k1,k2,_⟩:=K.name q (tg.jh q hq) hq;have:=(H.own q k0 (k1.symm.trans kw)).2.2;rw[<-k2] at this;omega
   ·have aL:=fP q b cT;have yZ:=tg.jh q (by rw[hq];simp);obtain⟨k0,_⟩:=K.name q yZ (by rw[hq];simp);cases hh:σ.h q with
    |none=>exact absurd hh k0
    |some blk=>
     cases blk with
     |box cs=>
      have:q∉ns:=by
       intro hm;obtain⟨i,it,x,q',hi,hxi,n5,iG,gK,fb,GK⟩:=hSn q hm;have cG:=fb.at_;obtain⟨SL,md⟩:=it;cases SL with
       |nil sz=>cases gK
       |row n'=>
        injection gK with gK;have gK:n'=q:=gK;subst gK;obtain⟨gr,mo,sz,xs,e1,_⟩:=cG;rw[hh] at e1;cases e1
       |nest n' k off=>
        injection gK with gK;have gK:n'=q:=gK;subst gK;obtain⟨gr,sz,xs,e1,_⟩:=cG;rw[hh] at e1;cases e1
      have h3:=t3 q (by rw[q6];exact this);rw[h3,hh] at hq;cases hq
     |row bo m' aF av=>have:=H.po hh aL;omega
  ·rw[List.pairwise_iff_getElem];intro i j hi hj iq b hb;exact p4.oN i j _ _ b (by omega) (List.getElem?_eq_getElem hi) (List.getElem?_eq_getElem hj) hb
 rw[<-p1] at wR;obtain⟨G',b1,b2,b3,b4,b5,b6,b7⟩:=HR.jG HR2 wR p3 dw;have wO:Fr B E w0 w':=by
  refine⟨p5.os.trans r.fr.os,p5.tape.trans r.fr.tape,p5.output.trans r.fr.output,Nat.le_trans r.fr.size p5.size,fun b hb he=>?_,fun b hb=>?_⟩
  ·refine(p5.block b (Nat.lt_of_lt_of_le hb r.fr.size) fun hx=>?_).trans (r.fr.block b hb he);rcases si b hx with h1|h1
   ·omega
   ·exact he h1
  ·exact(r.fr.jO b hb).trans (p5.jO b (Nat.lt_of_lt_of_le hb r.fr.size))
 have K2:bm w G σ.h (fun n=>σ.used n=true) w' G' gN.h:=bm.trans (fun n hn=>by rw[t2];exact hn) K b2;have r2:R B E w0 N gN a w' G':=r.step (b6.trans t1) (fun q hq=>b7 q (by rw[t2];exact hq)) K2 b1 wO;refine⟨G',r2.put (RA.mr b3 p3 b4) ?_ hN⟩;intro q hq;match ls,hq with
 |[],hq=>obtain⟨x,hx,_⟩:=hq;simp at hx
 |[(true,cs)],hq=>obtain⟨c,hc,hq⟩:=hq;exact b5 (true,cs) (by simp) c hc q hq
 |[(false,[c])],hq=>exact b5 (false,[c]) (by simp) c (by simp) q hq
 |[(false,[])],hq=>exact absurd hq id
 |[(false,_::_::_)],hq=>exact absurd hq id
 |x::y::ls,hq=>obtain⟨x',mg,c,hc,hq⟩:=hq;exact b5 x' mg c hc q hq
theorem Yx (r:R B E w0 N σ a w G) {T:aQ} {m:Mode} {f:FuncId} {as:List aj} {vals vals':List Value} {σ1:St}
  (hS:∀sig M,aQ.nQ T.vH f=some (sig,M)->∀ds rs d7,M ds=some (rs,d7)->∀pas,yi w sig ds vals pas->Calls P f vals'.toArray w (Pz w sig pas rs d7)) (hN:∀n,o.dst=some n->n<N)
  (bE:(execOp a.eval o).run P w=.ok (.enter f vals'.toArray) w) (hl:vals.length=as.length)
  (nT:∀(j:Nat) (x:aj) (v:Value),as[j]? =some x->vals[j]? =some v->RA w G σ.h x v)
  (hx:rZ T m o.dst f as σ=some σ1):o.wp P a w (Nx B E w0 N σ1) Q:=by
 have H:=r.hr;unfold rZ at hx;split at hx
 ·rename_i sig M dc hM GR;split at hx
  ·rename_i fB;split at hx
   ·rename_i ds its hv;split at hx
    ·rename_i rs d7 sd;split at hx
     ·rename_i σ2 nZ;split at hx
      ·rename_i ls gN wR;injection hx with hx;subst hx;obtain⟨nq,GL⟩:=Tg GR hl nT;obtain⟨pas,q1,q2,q3,q4,q5,q6,q7⟩:=H.mS hv nq GL;exact Yv r (fun TI hm=>hS sig M hM ds rs d7 sd TI hm) hN bE q1 q2 q3 (fun p hp hk=>absurd hk (q4 p hp)) (fun i p s hp _ hk=>absurd hk (q4 p (List.mem_of_getElem? hp))) q5 q6 q7 fB nZ wR
      ·cases hx
     ·cases hx
    ·cases hx
   ·cases hx
  ·cases hx
 ·cases hx
theorem ai9 (r:R B E w0 N σ a w G) {T:aQ} (hT:CQ P T) {m:Mode} {f:FuncId} {as:List aj} {vals:List Value} {σ1:St} (hN:∀n,o.dst=some n->n<N)
  (bE:(execOp a.eval o).run P w=.ok (.enter f vals.toArray) w) (hl:vals.length=as.length)
  (nT:∀(j:Nat) (x:aj) (v:Value),as[j]? =some x->vals[j]? =some v->RA w G σ.h x v)
  (hx:rZ T m o.dst f as σ=some σ1):o.wp P a w (Nx B E w0 N σ1) Q:=
 Yx r (fun sig M hM ds rs d7 h pas hm=>hT f sig M hM ds rs d7 h w vals pas hm) hN bE hl nT hx
theorem aiZ (r:R B E w0 N σ a w G) {T:aQ} (hT:CQ P T) {m:Mode} {f:FuncId} {xs:Array Operand} {ms:List MO} {ts:Array TypeId} {σ1:St} (hN:∀n,o.dst=some n->n<N)
  (ho:o.op=.call {callee:=.value (.func f),args:=xs,argTypes:=ts}) (hf:bS P f=true) (hm:iC xs.toList ms=true)
  (hx:rZ T m o.dst f (ms.map σ.ev) σ=some σ1):o.wp P a w (Nx B E w0 N σ1) Q:=by
 obtain⟨e1,e2⟩:=r.Az hm;refine ai9 r hT (vals:=xs.toList.map a.eval) hN ?_ (by simpa using e1) e2 hx;have he:(xs.toList.map a.eval).toArray=xs.map a.eval:=by apply Array.ext';simp
 rw[he];simp[execOp,ho,resolve,Deferred.ofValue,invoke,Act.eval,BT hf]
theorem ar7 {s:List (Option Mode)} {n:Nat} (h:TR s n=true):zB s n:=by
 rcases of_decide_eq_true h with h|⟨h1,h2⟩
 ·exact .inl h
 ·exact .inr ⟨n - 1,by omega,h2⟩
def I1 (w:World) (G:Gh) (h:Nat->Option aq) (k:K) (cs:List ah) (v:Value):Prop:=
 match k with
 |.one=>RV w G h false cs v
 |.agg=>RV w G h true cs v
 |.ptr=>∃n,h n=some (.box cs)/\(G.g n).nl=false/\v=.pointer (some (ad (G.g n).b (G.g n).o))
theorem aqW {s:List (Option Mode)} {y:aj} {x:K×List ah} {v:Value} (hx:zw h s y=some x) (hc:RA w G h y v):I1 w G h x.1 x.2 v/\(x.1=.ptr->zB s x.2.length):=by
 have gen:∀{y:aj},RA w G h y v->(∀n k z off,y≠ .one (.ptr n k z off))->(match y.cells? with|some (ag,cs)=>some (if ag=true then K.agg else .one,cs)|none=>none)=some x->I1 w G h x.1 x.2 v/\(x.1=.ptr->zB s x.2.length):=by
  intro y hc aD hx;cases hy:y.cells? with
  |none=>rw[hy] at hx;cases hx
  |some z=>
   obtain⟨ag,cs⟩:=z;rw[hy] at hx;injection hx with hx;subst hx;cases y with
   |one c=>
    cases c<;>simp[aj.cells?] at hy<;>obtain⟨rfl,rfl⟩:=hy<;>exact⟨hc.resolve_left (by simp),by intro e;cases e⟩
   |agg cs'=>
    simp[aj.cells?] at hy;obtain⟨rfl,rfl⟩:=hy;exact⟨hc,by intro e;cases e⟩
   |bK l=>simp[aj.cells?] at hy
 by_cases hp:∃n k z off,y=.one (.ptr n k z off)
 ·obtain⟨n,k,z,off,rfl⟩:=hp;simp only[zw] at hx;split at hx
  ·rename_i cs hn;split at hx
   ·rename_i cV;obtain⟨rfl,rfl,hs⟩:=cV;injection hx with hx;subst hx;have h1:RC w G h (.ptr n 0 z 0) v:=((hc.resolve_left (by simp)).2 0 _ v rfl rfl).2;obtain⟨q1,q2⟩:=h1 (by rw[hn];simp);exact⟨⟨n,hn,q1,by simpa using q2⟩,fun _=>ar7 hs⟩
   ·cases hx
  ·cases hx
 ·have aD:∀n k z off,y≠ .one (.ptr n k z off):=fun n k z off e=>hp ⟨n,k,z,off,e⟩;refine gen hc aD ?_;unfold zw at hx;split at hx
  ·rename_i n k z off;exact absurd rfl (aD n k z off)
  ·exact hx
theorem adb:∀{as:List aj} {sig:aK} {dc:List (K×List ah)} {vals:List Value},zx h sig as=some dc->vals.length=as.length->(∀(j:Nat) (x:aj) (v:Value),as[j]? =some x->vals[j]? =some v->RA w G h x v)->
  vals.length=dc.length/\(∀(j:Nat) (x:K×List ah) (v:Value),dc[j]? =some x->vals[j]? =some v->I1 w G h x.1 x.2 v)/\∀(j:Nat) (x:K×List ah) (s:List (Option Mode)),dc[j]? =some x->sig[j]? =some s->x.1=.ptr->zB s x.2.length
 |[],sig,dc,vals,hx,hl,hc=>by
  simp only[zx] at hx;injection hx with hx;subst hx;exact⟨hl,by simp,by simp⟩
 |y::as,sig,dc,vals,hx,hl,hc=>by
  simp only[zx] at hx;split at hx
  ·rename_i x xs e1 e2;injection hx with hx;subst hx;match vals,hl with
   |v::vals,hl=>
    obtain⟨i1,i2,i3⟩:=adb e2 (vals:=vals) (by simpa using hl) (fun j x v h1 h2=>hc (j+1) x v h1 h2);obtain⟨p1,p2⟩:=aqW e1 (hc 0 y v rfl rfl);refine⟨by simp[i1],fun j x' v' hj hv=>?_,fun j x' s hj hs=>?_⟩
    ·cases j with
     |zero=>simp at hj hv;subst hj hv;exact p1
     |succ j=>exact i2 j x' v' (by simpa using hj) (by simpa using hv)
    ·cases sig with
     |nil=>simp at hs
     |cons s0 sig=>
      cases j with
      |zero=>simp at hj hs;subst hj hs;exact p2
      |succ j=>exact i3 j x' s (by simpa using hj) (show sig[j]? =some s by simpa using hs)
  ·cases hx
theorem HR.sR (H:HR B E w G h used []) {ns:List Nat}:∀{as:List (K×List ah)} {sig:aK} {ds:List Dv} {its:List (dD×Mode)} {vals:List Value},Am.sR h (dM h ns) sig as=some (ds,its)->vals.length=as.length->
  (∀(j:Nat) (x:K×List ah) (v:Value),as[j]? =some x->vals[j]? =some v->I1 w G h x.1 x.2 v)->
  ∃pas:List PA,pas.length=ds.length/\vals.length=ds.length/\(∀(i:Nat) (d:Dv) (v:Value) (p:PA),ds[i]? =some d->vals[i]? =some v->pas[i]? =some p->vW w d v p)/\
   (∀p∈pas,p.k=.ptr->∃n cs,h n=some (.box cs)/\(G.g n).nl=false/\p.b=(G.g n).b)/\
   (∀(i:Nat) (p:PA),pas[i]? =some p->∃x,as[i]? =some x/\p.k=x.1/\p.ps.length=x.2.length)/\
   kH B E w G h its (eI sig (pas.map (·.ps)))/\its.filterMap (·.1.eV)=zA sig as/\∀pc∈mz sig (pas.map (·.ps)),FA G h ns pc
 |[],sig,ds,its,vals,hx,hl,hc=>by
  simp only[Am.sR] at hx;injection hx with hx;injection hx with h1 h2;subst h1 h2;refine⟨[],rfl,by simpa using hl,by simp,by simp,by simp,?_,?_,?_⟩
  ·cases sig<;>exact kH.nil
  ·cases sig<;>rfl
  ·cases sig<;>simp[mz]
 |(k,cs)::as,sig,ds,its,vals,hx,hl,hc=>by
  simp only[Am.sR] at hx;split at hx
  ·rename_i xs Hz uP HA e1 e2;injection hx with hx;injection hx with h1 h2;subst h1 h2;match vals,hl with
   |v::vals,hl=>
    have h0:=hc 0 (k,cs) v rfl rfl;obtain⟨q1,q2,q3,q4,q5,q5',q6,q7⟩:=H.sR e2 (as:=as) (vals:=vals) (by simpa using hl) (fun j x v h1 h2=>hc (j+1) x v h1 h2);have cW:∃(vs:List Value) (b o:Nat),dj w G h cs vs/\(∀ps:List PC,ps.map PC.val=vs->(∀pc∈ps,Good w pc)->vW w (k,ps.map PC.er) v ⟨k,ps,b,o⟩)/\
      (k=.ptr->∃n cs,h n=some (.box cs)/\(G.g n).nl=false/\b=(G.g n).b):=by
     cases k with
     |one=>exact⟨[v],0,0,h0,fun ps hp hg=>⟨rfl,hg,hp⟩,by intro e;cases e⟩
     |agg=>
      obtain⟨vs,e,hR⟩:∃vs:List Value,v=.agg vs.toArray/\dj w G h cs vs:=h0;exact⟨vs,0,0,hR,fun ps hp hg=>⟨rfl,hg,show v=.agg (ps.map PC.val).toArray by rw[hp];exact e⟩,by intro e;cases e⟩
     |ptr=>
      obtain⟨n,hn,aR,hv⟩:∃n,h n=some (.box cs)/\(G.g n).nl=false/\v=.pointer (some (ad (G.g n).b (G.g n).o)):=h0;obtain⟨b1,b2,b3⟩:=H.box n cs hn;have kk:∀j,j<cs.length->∃u,w.cell? (ad (G.g n).b ((G.g n).o+j))=some u/\∀c,cs[j]? =some c->u.oneCell'=true/\RC w G h c u:=by
       intro j hj;have dL:cs[j]? =some (cs[j]'hj):=List.getElem?_eq_getElem hj;obtain⟨u,u1,u2,u3⟩:=b3 j _ dL;refine⟨u,u1,fun c fN=>?_⟩;rw[dL] at fN;injection fN with fN;subst fN;exact⟨u2,u3⟩
      obtain⟨vs,l1,l2⟩:=QF _ cs.length kk;refine⟨vs,(G.g n).b,(G.g n).o,⟨l1,fun j c u fN hu=>(l2 j u hu).2 c fN⟩,fun ps hp hg=>⟨rfl,hg,hv,b2.lt,fun j c hj=>?_⟩,fun _=>⟨n,cs,hn,aR,rfl⟩⟩;refine(l2 j c.val ?_).1;rw[<-hp,List.getElem?_map,hj];rfl
    obtain⟨vs,b,o,hR,hA,hB⟩:=cW;obtain⟨ps,p1,p2,p3,p4,p5,p6⟩:=H.j7 e1 hR;have eZ:ps.length=cs.length:=by
     have:(ps.map PC.val).length=cs.length:=by rw[p2];exact hR.1
     simpa using this
    refine⟨⟨k,ps,b,o⟩::q1,by simp[q2],by simp[q3],fun i d v' p hd hv hp=>?_,fun p hp hk=>?_,fun i p hp=>?_,?_,?_,?_⟩
    ·cases i with
     |zero=>
      simp at hd hv hp;subst hd hv hp;have:=hA ps p2 p3;rw[p1] at this;exact this
     |succ i=>exact q4 i d v' p (by simpa using hd) (by simpa using hv) (by simpa using hp)
    ·cases hp with
     |head=>exact hB hk
     |tail _ hp=>exact q5 p hp hk
    ·cases i with
     |zero=>simp at hp;subst hp;exact⟨(k,cs),rfl,rfl,eZ⟩
     |succ i=>exact q5' i p (by simpa using hp)
    ·cases sig with
     |nil=>
      have e3:ft (aK.hd ([]:aK)) ps=[]:=rfl;rw[e3] at p4;have e4:Hz=[]:=List.eq_nil_of_length_eq_zero p4.len;subst e4;have e5:eI (aK.tl ([]:aK)) (q1.map (·.ps))=[]:=rfl;rw[e5] at q6;have e6:HA=[]:=List.eq_nil_of_length_eq_zero q6.len;subst e6;exact kH.nil
     |cons s sig=>exact kH.append p4 q6
    ·cases sig with
     |nil=>
      have e3:ft (aK.hd ([]:aK)) ps=[]:=rfl;rw[e3] at p4;have e4:Hz=[]:=List.eq_nil_of_length_eq_zero p4.len;subst e4;have e5:eI (aK.tl ([]:aK)) (q1.map (·.ps))=[]:=rfl;rw[e5] at q6;have e6:HA=[]:=List.eq_nil_of_length_eq_zero q6.len;subst e6;rfl
     |cons s sig=>
      rw[List.filterMap_append,p5,q7.1];rfl
    ·intro pc bi;cases sig with
     |nil=>
      simp only[List.map_cons,mz,List.flatten_cons,List.mem_append] at bi;rcases bi with bi|bi
      ·exact p6 pc bi
      ·exact q7.2 pc (by simpa[mz,aK.tl] using bi)
     |cons s sig=>
      simp only[List.map_cons,mz,List.mem_append] at bi;rcases bi with bi|bi
      ·exact p6 pc bi
      ·exact q7.2 pc bi
  ·cases hx
theorem ajb (r:R B E w0 N σ a w G) {T:aQ} (hT:CQ P T) {m:Mode} {f:FuncId} {as:List aj} {vals:List Value} {σ1:St} (hN:∀n,o.dst=some n->n<N)
  (bE:(execOp a.eval o).run P w=.ok (.enter f vals.toArray) w) (hl:vals.length=as.length)
  (nT:∀(j:Nat) (x:aj) (v:Value),as[j]? =some x->vals[j]? =some v->RA w G σ.h x v)
  (hx:wA T m o.dst f as σ=some σ1):o.wp P a w (Nx B E w0 N σ1) Q:=by
 have H:=r.hr;unfold wA at hx;split at hx
 ·rename_i sig M hM;split at hx
  ·rename_i dc GR;split at hx
   ·rename_i fB;split at hx
    ·rename_i ds its hv;split at hx
     ·rename_i rs d7 sd;split at hx
      ·rename_i σ2 nZ;split at hx
       ·rename_i ls gN wR;injection hx with hx;subst hx;obtain⟨nq,GL,f8⟩:=adb GR hl nT;obtain⟨pas,q1,q2,q3,q4,q4',q5,q6,q7⟩:=H.sR hv nq GL;refine Yv r (fun TI hm=>hT f sig M hM ds rs d7 sd w vals TI hm) hN bE q1 q2 q3 q4 (fun i p s hp hs hk=>?_) q5 q6 q7 fB nZ wR;obtain⟨x,hx,e1,e2⟩:=q4' i p hp;rw[e2];exact f8 i x s hx hs (e1.symm.trans hk)
       ·cases hx
      ·cases hx
     ·cases hx
    ·cases hx
   ·cases hx
  ·cases hx
 ·cases hx
theorem ai0 (r:R B E w0 N σ a w G) {T:aQ} (hT:CQ P T) {m:Mode} {f:FuncId} {x:Operand} {mx:MO} {cP:List ah} {xs:Array Operand} {ms:List MO} {ts:Array TypeId} {σ1:St} (hN:∀n,o.dst=some n->n<N)
  (ho:o.op=.call {callee:=.value x,args:=xs,argTypes:=ts}) (hf:bS P f=true) (DV:bU x mx=true) (hm:iC xs.toList ms=true) (he:σ.ev mx=.one (.fn f cP))
  (hx:wA T m o.dst f (ms.map σ.ev++cP.map .one) σ=some σ1):o.wp P a w (Nx B E w0 N σ1) Q:=by
 obtain⟨e1,e2⟩:=r.Az hm;obtain⟨x1,x2⟩:=r.ev DV;rw[he] at x1;obtain⟨vs,v1,v2,v3⟩:=(x1.fu (by simp)).1;refine ajb r hT (vals:=xs.toList.map a.eval++vs) hN ?_ (by simp[e1,v2]) (fun j y v hj hv=>?_) hx
 ·have tJ:(xs.toList.map a.eval++vs).toArray=xs.map a.eval++vs.toArray:=by apply Array.ext';simp
  rw[tJ];simp[execOp,ho,resolve,v1,Deferred.ofValue,invoke,BT hf]
 ·have Gr:xs.size=ms.length:=by simpa using e1
  by_cases cu:j<ms.length
  ·rw[List.getElem?_append_left (by simpa using cu)] at hj;rw[List.getElem?_append_left (by simp;omega)] at hv;exact e2 j y v hj hv
  ·rw[List.getElem?_append_right (by simp;omega)] at hj;rw[List.getElem?_append_right (by simp;omega)] at hv;simp only[List.length_map,<-e1] at hj hv;rw[List.getElem?_map] at hj;simp only[e1] at hj hv;cases hc:cP[j - ms.length]? with
   |none=>rw[hc] at hj;cases hj
   |some c=>
    rw[hc] at hj;simp at hj;subst hj;obtain⟨q1,q2⟩:=v3 _ c v hc hv;refine RA.fC q1 ?_;by_cases hcf:c.j4=false
    ·rw[uC _ _ _ _ _ hcf];exact q2
    ·cases c<;>first|exact q2.elim|(simp[ah.j4] at hcf)
end
section
variable {B:Nat} {E:Ex} {w0 w w':World} {G G':Gh} {h h':Nat->Option aq} {used used':Nat->Bool} {tk:List PC} {N:Nat}
variable {P:Program} {o:Oper} {a:Act} {σ σ':St} {Q:Exit->Act->World->Prop}
def xD (tmps:Array Value):ResultVar->Sem Value
 |.tmp t=>pure (tmps.getD t undef)
 |.cell a t=>do loadVar t (<-asAddr (tmps.getD a undef))
def EF:List Value->Value
 |[u]=>u
 |l=>.tuple l.toArray
theorem Ia (fn:Func) (tmps:Array Value) {us:List Value} (h:(fn.results.toList.mapM (xD tmps)).run P w=.ok us w):
  (results fn tmps).run P w=.ok (EF us) w:=by
 unfold results;generalize fn.results=A at h⊢;obtain⟨l,rfl⟩:∃l:List ResultVar,A=l.toArray:=⟨A.toList,by simp⟩;have h2:((l.toArray.mapM (xD tmps)).run P w)=.ok us.toArray w:=by
  rw[List.mapM_toArray];simp at h;simp[h]
 show Sem.run P (l.toArray.mapM (xD tmps)>>=fun vs=>pure (if h:vs.size=1 then vs[0] else Value.tuple vs)) w=_
 generalize l.toArray.mapM (xD tmps)=s at h2⊢;match us with
 |[]=>simp[EF,h2]
 |[u]=>simp[EF,h2]
 |u::v::us=>simp[EF,h2]
end
section
variable {B:Nat} {E:Ex} {w0 w w':World} {G G':Gh} {N:Nat} {h h':Nat->Option aq} {used:Nat->Bool}
variable {P:Program} {o:Oper} {a:Act} {σ σ':St} {Q:Exit->Act->World->Prop}
theorem ag6 {n k aB off sz len:Nat} {x:C} (hx:cO h (.bC n k aB off sz len)=some x):∃gr xs,h n=some (.row gr .live aB xs)/\(xs[k]?).bind (·[off]?)=some x:=by
 simp only[Am.cO] at hx;split at hx
 ·rename_i gr rs xs hn;split at hx
  ·rename_i hc;subst hc;exact⟨gr,xs,hn,hx⟩
  ·cases hx
 ·cases hx
theorem HR.HQ (H:HR B E w G h used []) {n k off aB:Nat} {gr:Bool} {xs:List (List C)} (hn:h n=some (.row gr .live aB xs)) {pc:PC} (cG:At (G.g n).px k off pc):
  (G.g n).nl=false/\Good w pc/\(xs[k]?).bind (·[off]?)=some pc.er:=by
 have hr:=H.row n gr .live aB xs hn;have aR:(G.g n).nl=false:=by
  cases hq:(G.g n).nl with
  |false=>rfl
  |true=>obtain⟨e,he,_⟩:=cG;rw[(hr.nl hq).1] at he;simp at he
 refine⟨aR,(hr.eK aR).2.1.2.2 _ _ _ cG,?_⟩;obtain⟨e,he,hj⟩:=cG;rw[hr.er];simp[he,hj]
theorem ajf (r:R B E w0 N σ a w G) {t e:TypeId} {i:TypeInfo} {x y:Operand} {mx my:MO} {n k aB off sz aF len:Nat} {q:Int} {ys:List (List C)} (ho:o.op=.indexAddr t x y) (hN:∀n,o.dst=some n->n<N) (fU:bU x mx=true) (fK:bU y my=true)
  (ht:P.underlying t=some (.slice e)) (hi:P.info? e=some i) (bV:i.size=sz) (hq:(σ.ev my).dZ=some q) (h0:0<=q) (h1:q<(ys.length:Int))
  (hx:σ.ev mx=.one (.bC n k aB off aF len)) (hv:cO σ.h (.bC n k aB off aF len)=some (.list sz ys)):
  o.wp P a w (Nx B E w0 N (σ.put o.dst (.one (.db n k aB off sz q.toNat)))) Q:=by
 obtain⟨x1,x2⟩:=r.ev fU;obtain⟨kk,ey⟩:=(r.ev fK).1.int hq;rw[hx] at x1 x2;obtain⟨gr,xs,hn,hb⟩:=ag6 hv;obtain⟨pc,p1,p2,p3⟩:=(x1.fu (by simp)).1 gr xs hn;obtain⟨g1,g2,g3⟩:=r.hr.HQ hn p1;rw[hb] at g3;injection g3 with g3;cases pc with
 |int k n=>simp[PC.er] at g3
 |bool b=>simp[PC.er] at g3
 |list s' ya c py=>
  rw[PC.dV] at g3;injection g3 with e1 e2;subst e1;have hl:ys.length=py.length:=by rw[e2];simp
  have fc:q<(py.length:Int):=by omega
  have w9:PC.val (.list sz ya c py)=.slice ya py.length c:=rfl;generalize gw:PC.list sz ya c py=p at g2;cases g2 with
  |int k n=>cases gw
  |bool b=>cases gw
  |nil _ _ _ _=>injection gw with _ _ _ e4;subst e4;simp at fc;omega
  |cons _ b oo _ _ q1 q2 q3 q4 q5 q6=>
   injection gw with f1 f2 f3 f4;subst f1 f2 f3 f4;refine ji r (v:=.pointer (some (ad b (oo+q.toNat*sz)))) ?_ ?_ (fun m hm=>x2 m hm) hN
   ·simp only[execOp,ho,<-p2,PC.val,ey];simp[EV ht hi bV h0 fc]
   ·refine RA.fC rfl fun bo av bu=>?_;exact⟨_,b,oo,py.length,c,p1,rfl,rfl,rfl⟩
theorem X6:∀{vs:List ah} {cs:List C} {us:List Value},mH vs=some cs->dj w G h vs us->∃pe:List PC,pe.map PC.er=cs/\pe.map PC.val=us/\pe.length=vs.length/\∀c∈pe,c.er.fk=true
 |[],cs,us,hx,hr=>by
  simp only[mH] at hx;injection hx with hx;subst hx;have:us=[]:=List.eq_nil_of_length_eq_zero hr.1;subst this;exact⟨[],rfl,rfl,rfl,by simp⟩
 |c::vs,cs,us,hx,hr=>by
  match us,hr with
  |[],hr=>exact absurd hr.1 (by simp)
  |u::us,hr=>
  cases c with
  |c x=>
   simp only[mH] at hx;split at hx
   ·rename_i hs;cases hd:mH vs with
    |none=>rw[hd] at hx;cases hx
    |some l=>
     rw[hd] at hx;injection hx with hx;subst hx;obtain⟨pe,e1,e2,e3,e4⟩:=X6 (us:=us) hd ⟨by have:=hr.1;simpa using this,fun j c u hj hu=>hr.2 (j+1) c u (by simpa using hj) (by simpa using hu)⟩;obtain⟨_,pc,q1,q2,_⟩:=hr.2 0 _ u rfl rfl;refine⟨pc::pe,by simp[e1,q1],by simp[e2,q2],by simp[e3],fun c hc=>?_⟩;rcases List.mem_cons.1 hc with rfl|hc
     ·rw[q1];exact hs
     ·exact e4 c hc
   ·cases hx
  |nil _=>simp[mH] at hx
  |ptr _ _ _ _=>simp[mH] at hx
  |dg _ _=>simp[mH] at hx
  |cH _ _ _ _ _ _=>simp[mH] at hx
  |sl _ _ _ _=>simp[mH] at hx
  |bC _ _ _ _ _ _=>simp[mH] at hx
  |db _ _ _ _ _ _=>simp[mH] at hx
  |fn _ _=>simp[mH] at hx
  |bq=>simp[mH] at hx
theorem Good.hY {c:PC} (hs:c.er.fk=true):Good w c:=by
 cases c with
 |int k n=>exact .int k n
 |bool b=>exact .bool b
 |list s a cap xs=>rw[PC.dV] at hs;cases hs
theorem ajs (r:R B E w0 N σ a w G) {t:TypeId} {i:TypeInfo} {x y:Operand} {mx my:MO} {sz n k rs off s j:Nat} {ag gr:Bool} {xs av:List (List C)} {vs:List ah} (ho:o.op=.store t x y) (hd:o.dst=none) (fU:bU x mx=true) (fK:bU y my=true)
  (hi:P.info? t=some i) (bV:i.size=sz) (fV:0<sz) (hp:σ.ev mx=.one (.db n k rs off s j)) (hv:(σ.ev my).cells?=some (ag,vs)) (hl:vs.length=sz) (hn:σ.h n=some (.row gr .live rs xs)) (wP:gr=false)
  (hx:xO xs k off s j vs=some av):o.wp P a w (Nx B E w0 N (σ.eE n (.row gr .live rs av))) Q:=by
 have H:=r.hr;obtain⟨x1,_⟩:=r.ev fU;obtain⟨y1,y2⟩:=r.ev fK;rw[hp] at x1;obtain⟨pc,b,oo,len,cap,p1,p2,p3,p4⟩:=(x1.fu (by simp)).1 gr xs hn;obtain⟨aR,g2,g3⟩:=H.HQ hn p1;have hr:=H.row n gr .live rs xs hn;unfold xO at hx;rw[g3] at hx;have cC:=y1.cells hv;have Hk:(a.eval y).cells.toList.length=sz:=by rw[cC.1,hl]
 cases pc with
 |int kk nn=>simp[PC.er] at hx
 |bool bb=>simp[PC.er] at hx
 |list s' ya c py=>
 rw[PC.dV] at hx;simp only at hx;split at hx
 ·rename_i cV;obtain⟨rfl,ja,hj,iZ⟩:=cV;cases AU:mH vs with
  |none=>rw[AU] at hx;cases hx
  |some cs=>
  rw[AU] at hx;injection hx with hx;obtain⟨pe,e1,e2,e3,e4⟩:=X6 AU cC;have hj:j<py.length:=by simpa using hj
  have wY:pe.length=s':=by omega
  have Be:PC.val (.list s' ya c py)=.slice ya py.length c:=rfl;rw[Be] at p2;injection p2 with f1 f2 f3;subst f1 f2 f3;generalize gw:PC.list s' (some (ad b oo)) c py=p at g2;cases g2 with
  |int k n=>cases gw
  |bool b=>cases gw
  |nil _ _ _ _=>injection gw with _ _ _ e4;subst e4;simp at hj
  |cons _ b' Tx _ _ q1 q2 q3 q4 q5 q6=>
  injection gw with f1 f2 f3 f4;injection f2 with f2;obtain⟨rfl,rfl⟩:=lz f2;subst f1 f3 f4;have dw:aZ b (PC.list s' (some (ad b oo)) c py):=.here _ _ _ _ q1;have hF:bh b (G.g n).px:=⟨k,off,_,p1,dw⟩;obtain⟨auG,⟨cur,et,hg⟩,hBE⟩:=hr.mode.1 b hF;have f0:oo+j*s'+(a.eval y).cells.toList.length<=cur.size:=by
   have h2:(py[j]'hj).length=s':=q4 _ (List.getElem_mem hj);have hc:=q5 j (s' - 1) ((py[j]'hj)[s' - 1]'(by omega)) ⟨_,List.getElem?_eq_getElem hj,List.getElem?_eq_getElem _⟩;have:=Ah hg hc;omega
  have iH:∀k' j' c',At (py.set j pe) k' j' c'->c'.er.fk=true:=by
   intro k' j' c' h;rcases Kl hj h with⟨rfl,h1⟩|⟨_,h1⟩
   ·exact e4 c' (List.mem_of_getElem? h1)
   ·obtain⟨e,he,nj⟩:=h1;have h6:=List.all_eq_true.1 iZ (e.map PC.er) (by simp only[List.mem_map];exact⟨e,List.mem_of_getElem? he,rfl⟩);exact List.all_eq_true.1 h6 c'.er (by simp only[List.mem_map];exact⟨c',List.mem_of_getElem? nj,rfl⟩)
  have aD:py.set j pe≠[]:=by
   intro h;have:=congrArg List.length h;simp at this;rw[this] at hj;simp at hj
  have lD:∀e∈py.set j pe,e.length=s':=by
   intro e he;rcases List.mem_or_eq_of_mem_set he with he|rfl
   ·exact q4 e he
   ·exact wY
  generalize n7:gb w b (oo+j*s') (a.eval y).cells.toList cur=w';have A:th w' .aN (PC.list s' (some (ad b oo)) c py) (PC.list s' (some (ad b oo)) c (py.set j pe)):=by
   refine⟨by simp[PC.val],.cons _ _ _ _ _ aD (by simpa using q2) q3 lD (fun k' j' c' h=>?_) (fun k' j' c' h=>Good.hY (iH k' j' c' h)),.list _ _ _ _ (fun k' j' c' h=>(Sep.hY (iH k' j' c' h)).1) (fun b' o' k' j' c' _ h=>(Sep.hY (iH k' j' c' h)).2 b')
    (fun k1 j1 c1 k2 j2 c2 b' h _ _ hb=>absurd hb ((Sep.hY (iH k1 j1 c1 h)).2 b')),fun b' aL=>?_,?_,fun rG a0 yu jv ug a1 C8 td h1 h2=>?_⟩
   ·have kN:j'<s':=by
     obtain⟨e,he,nj⟩:=h;have:=lD e (List.mem_of_getElem? he);have:=(List.getElem?_eq_some_iff.1 nj).1;omega
    rw[<-n7,zU hg f0];rcases Kl hj h with⟨rfl,h1⟩|⟨yT,h1⟩
    ·rw[if_pos (by omega),show oo+k'*s'+j' - (oo+k'*s')=j' by omega,<-e2,List.getElem?_map,h1];rfl
    ·rw[if_neg]
     ·exact q5 _ _ _ h1
     ·rintro⟨u1,u2⟩;rcases Nat.lt_or_gt_of_ne yT with cu|AY
      ·have:(k'+1)*s'<=j*s':=Nat.mul_le_mul_right _ cu;rw[Nat.add_mul] at this;omega
      ·have:(j+1)*s'<=k'*s':=Nat.mul_le_mul_right _ AY;rw[Nat.add_mul] at this;omega
   ·rw[aZ.kZ] at aL⊢;rcases aL with⟨_,h2⟩|⟨k',j',c',h1,h2⟩
    ·exact .inl ⟨q1,h2⟩
    ·exact absurd h2 ((Sep.hY (iH k' j' c' h1)).2 b')
   ·rw[PC.dV];show eP _=true;rw[eP,List.all_eq_true];intro e he;obtain⟨e0,lB,rfl⟩:=List.mem_map.1 he;rw[fG,List.all_eq_true];intro c0 dL;obtain⟨c1,nf,rfl⟩:=List.mem_map.1 dL;obtain⟨k',bL⟩:=List.getElem?_of_mem lB;obtain⟨j',nj⟩:=List.getElem?_of_mem nf;exact iH k' j' c1 ⟨e0,bL,nj⟩
   ·injection h1 with a1 a2 a3 a4;injection h2 with b1 b2 b3 b4;subst a1 a2 a3 a4 b1 b2 b3 b4;exact⟨rfl,rfl,rfl,by simp,fun h=>by cases h⟩
  have dM:∀b',b'≠b->w'.heap[b']? =w.heap[b']? :=fun b' aL=>by rw[<-n7];exact zV b' aL
  have jE:∀b',Cz w w' b':=fun b'=>by
   by_cases hb:b'=b
   ·subst hb;rw[<-n7];exact Cf hg f0
   ·exact Cz.of_eq (dM b' hb)
  have mM:w.heap.size<=w'.heap.size:=by rw[<-n7,rJ];exact Nat.le_refl _
  have bN:σ.h n≠none:=by rw[hn];simp
  have Rk:(G.g n).b≠b:=fun h=>H.live n gr rs xs hn b hF n bN aR h.symm;obtain⟨ex,si⟩:∃ex,xs[k]? =some ex:=by
   cases h:xs[k]? with
   |none=>rw[h] at g3;cases g3
   |some ex=>exact⟨ex,rfl⟩
  have alQ:av=xs.set k (ex.set off (PC.list s' (some (ad b oo)) c (py.set j pe)).er):=by
   rw[<-hx,PC.dV,List.map_set,e1,List.getD_eq_getElem?_getD,si];rfl
  have GS:=XE H hn wP p1 rfl (fun _=>dM _ Rk) (fun k' j' c' h1 h2 b' aL=>dM b' (by rintro rfl;exact hr.mode.2.2 _ _ _ _ _ _ b' h1 p1 h2 aL dw)) A si;obtain⟨tg,K,_⟩:=H.HO (G':=⟨G.Im,az G.g n (zu (G.g n) (.nest n k off) (PC.list s' (some (ad b oo)) c (py.set j pe)))⟩) (h':=az σ.h n (some (.row gr .live rs av))) (w':=w') (S:=fun m=>m=n) mM
   (fun b' aL cm=>dM b' (by rintro rfl;exact cm n rfl (.inr hF))) (fun b' _=>jE b') rfl
   (fun m hm=>by subst hm;exact⟨gr,.live,rs,xs,av,hn,bR _ _ _,by simp only[bR];rw[alQ];exact GS⟩)
   (fun m hm=>⟨cN _ _ _ _ hm,cN _ _ _ _ hm⟩)
  have r':=r.step (σ':=σ.eE n (.row gr .live rs av)) rfl (fun _ h=>h) K tg (r.fr.one hBE (fun b' _ aD=>dM b' aD) mM (jE b) (by rw[<-n7];rfl) (by rw[<-n7];rfl) (by rw[<-n7];rfl));have bE:=Nd (P:=P) (w:=w) (t:=t) (i:=i) (b:=b) (off:=oo+j*s') (v:=a.eval y) (cur:=cur) (e:=et) hi (by rw[bV,<-Hk];simp) hg (by simpa using f0) (fun u hu=>by
   obtain⟨j,hj,G6⟩:=List.getElem_of_mem hu;have A5:j<vs.length:=by omega
   exact(cC.2 j _ u (List.getElem?_eq_getElem A5) (by rw[List.getElem?_eq_getElem hj,G6])).1)
  refine Og (w':=w') ?_ ⟨_,by rw[hd];exact r'⟩;rw[<-n7];simp only[execOp,ho,p4];simp[Instr.storeAt,Instr.sureAddr,bE]
 ·cases hx
end
section
variable {B:Nat} {E:Ex} {w0 w w':World} {G G':Gh} {N:Nat} {h h':Nat->Option aq} {used:Nat->Bool}
variable {P:Program} {o:Oper} {a:Act} {σ σ':St} {Q:Exit->Act->World->Prop}
theorem R.YN (r:R B E w0 N σ a w G) {n:Nat} {gr:Bool} {m:Mode} {xs:List (List C)} (hn:σ.h n=some (.row gr m 1 xs)) (hm:m≠ .aJ) (hs:eP xs=true) (aR:(G.g n).nl=false) {lo:Nat} {pe:List PC}
  (ni:∀c∈pe,c.er.fk=true) (f0:lo+pe.length<=xs.length) {cur:Array Value} {et:TypeId} (hg:w.heap[(G.g n).b]? =some (.cells cur et (0,0))) (nh:(G.g n).o+lo+pe.length<=cur.size):
  ∃G',R B E w0 N (σ.eE n (.row gr m 1 (dq xs lo (pe.map fun c=>[c.er])))) a (gb w (G.g n).b ((G.g n).o+lo) (pe.map PC.val) cur) G':=by
 have H:=r.hr;have hr:=H.row n gr m 1 xs hn;have bN:σ.h n≠none:=by rw[hn];simp
 obtain⟨su,qQ,tN⟩:=H.own n bN aR;obtain⟨l1,l2,l3⟩:=hr.eK aR;have n8:xs.length=(G.g n).px.length:=by rw[hr.er,List.length_map]
 have jm:=hs;rw[hr.er] at jm;have gJ:=hr.er;generalize fw:(G.g n).px=px at*
 have Rw:lo+(pe.map fun c=>[c]).length<=px.length:=by rw[List.length_map];omega
 have kP:(pe.map PC.val).length=pe.length:=List.length_map _;have aam:(G.g n).o+lo+(pe.map PC.val).length<=cur.size:=by rw[kP];exact nh
 have cW:∀k j c,At (dq px lo (pe.map fun c=>[c])) k j c->j=0/\((lo<=k/\k<lo+pe.length/\pe[k - lo]? =some c)\/(¬(lo<=k/\k<lo+pe.length)/\At px k j c)):=by
  rintro k j c ⟨e,he,hj⟩;rw[zM Rw,List.length_map] at he;by_cases dw:lo<=k/\k<lo+pe.length
  ·rw[if_pos dw,List.getElem?_map] at he;cases hp:pe[k - lo]? with
   |none=>rw[hp] at he;cases he
   |some c0=>
    rw[hp] at he;injection he with he;subst he;cases j with
    |zero=>simp at hj;subst hj;exact⟨rfl,.inl ⟨dw.1,dw.2,rfl⟩⟩
    |succ j=>simp at hj
  ·rw[if_neg dw] at he;have lD:=l2.1 e (List.mem_of_getElem? he);have:=(List.getElem?_eq_some_iff.1 hj).1;exact⟨by omega,.inr ⟨dw,e,he,hj⟩⟩
 have iH:∀k j c,At (dq px lo (pe.map fun c=>[c])) k j c->c.er.fk=true:=by
  intro k j c hk;rcases(cW k j c hk).2 with⟨_,_,h1⟩|⟨_,e,he,hj⟩
  ·exact ni c (List.mem_of_getElem? h1)
  ·have h6:=List.all_eq_true.1 jm (e.map PC.er) (by simp only[List.mem_map];exact⟨e,List.mem_of_getElem? he,rfl⟩);exact List.all_eq_true.1 h6 c.er (by simp only[List.mem_map];exact⟨c,List.mem_of_getElem? hj,rfl⟩)
 generalize n7:gb w (G.g n).b ((G.g n).o+lo) (pe.map PC.val) cur=w';have dM:∀b',b'≠(G.g n).b->w'.heap[b']? =w.heap[b']? :=fun b' aL=>by rw[<-n7];exact zV b' aL
 have jE:∀b',Cz w w' b':=fun b'=>by
  by_cases hb:b'=(G.g n).b
  ·subst hb;rw[<-n7];exact Cf hg aam
  ·exact Cz.of_eq (dM b' hb)
 have mM:w.heap.size<=w'.heap.size:=by rw[<-n7,rJ];exact Nat.le_refl _
 have GS:FF w' (G.g n) {G.g n with px:=dq px lo (pe.map fun c=>[c])} gr m 1 (dq xs lo (pe.map fun c=>[c.er])):=by
  refine⟨hm,.inl (by rw[fw];exact Y0 jm),rfl,rfl,rfl,rfl,rfl,?_,(fun h=>by rw[aR] at h;cases h),fun _=>⟨⟨fun e he=>?_,fun k j c hk=>?_,fun k j c hk=>Good.hY (iH k j c hk)⟩,by show(dq px lo _).length<=_;rw[ND Rw];exact l3⟩,
   ⟨fun k j c hk=>(Sep.hY (iH k j c hk)).1,fun k j c k' j' c' b hk _ _ hb=>absurd hb ((Sep.hY (iH k j c hk)).2 b)⟩,fun b ⟨k,j,c,hk,hb⟩=>absurd hb ((Sep.hY (iH k j c hk)).2 b),fun _ k j pc hk hL=>?_,fun _ _ k c hk=>pI.hY (iH k _ c hk)⟩
  ·show dq xs lo _=(dq px lo _).map _;rw[Fb,<-gJ,List.map_map];rfl
  ·obtain⟨k,hk⟩:=List.getElem?_of_mem he;have bL:(dq px lo (pe.map fun c=>[c]))[k]? =some e:=hk;rw[zM Rw] at bL;split at bL
   ·rw[List.getElem?_map] at bL;cases hp:pe[k - lo]? with
    |none=>rw[hp] at bL;cases bL
    |some c0=>rw[hp] at bL;injection bL with bL;rw[<-bL];rfl
   ·exact l2.1 e (List.mem_of_getElem? bL)
  ·obtain⟨rfl,h1⟩:=cW k j c hk;rw[<-n7,zU hg aam];rcases h1 with⟨h1,h2,h3⟩|⟨h1,h2⟩
   ·rw[if_pos (by rw[kP];omega),show(G.g n).o+k*1+0 - ((G.g n).o+lo)=k - lo by omega,List.getElem?_map,h3];rfl
   ·rw[if_neg (by rw[kP];omega)];exact l2.2.1 _ _ _ h2
  ·rw[fw] at hk;have:=Y1 jm hk;rw[hL] at this;cases this
 obtain⟨tg,K,_⟩:=H.HO (G':=⟨G.Im,az G.g n {G.g n with px:=dq px lo (pe.map fun c=>[c])}⟩) (h':=az σ.h n (some (.row gr m 1 (dq xs lo (pe.map fun c=>[c.er]))))) (w':=w') (S:=fun q=>q=n) mM
  (fun b' aL cm=>dM b' (by rintro rfl;exact cm n rfl (.inl ⟨aR,rfl⟩))) (fun b' _=>jE b') rfl
  (fun q hq=>by subst hq;exact⟨gr,m,1,xs,_,hn,bR _ _ _,by simp only[bR];exact GS⟩)
  (fun q hq=>⟨cN _ _ _ _ hq,cN _ _ _ _ hq⟩)
 exact⟨_,r.step (σ':=σ.eE n (.row gr m 1 (dq xs lo (pe.map fun c=>[c.er])))) rfl (fun _ h=>h) K tg (r.fr.one qQ (fun b' _ aD=>dM b' aD) mM (jE _) (by rw[<-n7];rfl) (by rw[<-n7];rfl) (by rw[<-n7];rfl))⟩
end
section
variable {B:Nat} {E:Ex} {w0 w w':World} {G G':Gh} {N:Nat} {h h':Nat->Option aq} {used:Nat->Bool}
variable {P:Program} {o:Oper} {a:Act} {σ σ':St} {Q:Exit->Act->World->Prop}
theorem ac9 {α:Type}:∀{py:List (List α)},(∀e∈py,e.length=1)->py=py.flatten.map fun c=>[c]
 |[],_=>rfl
 |e::py,h=>by
  have h1:=h e (by simp);match e,h1 with
  |[c],_=>
   rw[List.flatten_cons,List.map_append,<-ac9 (py:=py) fun e he=>h e (by simp[he])];rfl
theorem afF {n:Nat} {b:aq} (hn:σ.h n=some b):σ.eE n b=σ:=by
 unfold St.eE;rw[<-hn,IM]
theorem af7 {α:Type} (xs:List α) (lo:Nat) (h:lo<=xs.length):dq xs lo []=xs:=by simp[dq]
theorem asS {t t' ty e e':TypeId} {i:TypeInfo} (ht:P.underlying t=some (.slice e)) (hi:P.info? e=some i) (bV:i.size=1) (g og As Qs:Nat) (cur:Array Value) (hg:w.heap[g]? =some (.cells cur e' (0,0)))
  (a:Addr) (m c:Nat) (gS:List Value) (hl:gS.length=Nat.min m As) (vb:∀j u,gS[j]? =some u->w.cell? (a.add j)=some u) (h1:∀u∈gS,u.oneCell'=true) (f0:og+gS.length<=cur.size):
  (Builtin.copy_ #[t,t'] ty #[.slice (some (ad g og)) As Qs,.slice (some a) m c]).run P w=.ok (.int .i64 (Nat.min m As:Nat)) (gb w g og gS cur):=by
 have hf:=run_firstCells_some (P:=P) w i.size (Nat.min m As) a m c gS (by rw[hl,bV,Nat.mul_one]) vb;have jn:=run_storeCells_at P g og e' gS 0 cur w hg (by simpa using f0) h1;simp only[Nat.add_zero] at jn;simp[Builtin.copy_,run_underlying ht,sizeOf,typeInfo,hi,Builtin.lenOf,hf,ad,jn,gb,goInt]
theorem asT {t t' ty e:TypeId} {i:TypeInfo} (ht:P.underlying t=some (.slice e)) (hi:P.info? e=some i) (ya a':Option Addr) (As Qs m c:Nat) (h0:Nat.min m As=0):
  (Builtin.copy_ #[t,t'] ty #[.slice ya As Qs,.slice a' m c]).run P w=.ok (.int .i64 0) w:=by
 cases ya<;>cases a'<;>simp[Builtin.copy_,run_underlying ht,sizeOf,typeInfo,hi,Builtin.lenOf,h0,Builtin.firstCells,loadCells,loadCellsFrom,storeCells,goInt]
theorem ai6 (r:R B E w0 N σ a w G) {t t' e:TypeId} {i:TypeInfo} {x y:Operand} {mx my:MO} {n lo len:Nat} {c:ah} {ys xs:List (List C)} {gr:Bool} {m:Mode} (ho:o.op=.call {callee:=.builtin .copy,args:=#[x,y],argTypes:=#[t,t']}) (hN:∀n,o.dst=some n->n<N)
  (fU:bU x mx=true) (fK:bU y my=true) (ht:P.underlying t=some (.slice e)) (hi:P.info? e=some i) (bV:i.size=1) (hx:σ.ev mx=.one (.sl n 1 lo len)) (hy:σ.ev my=.one c) (hn:σ.h n=some (.row gr m 1 xs))
  (hv:cO σ.h c=some (.list 1 ys)) (hm:m≠ .aJ) (hs:eP xs=true) (jm:eP ys=true) (f0:lo+len<=xs.length):
  o.wp P a w (Nx B E w0 N ((σ.eE n (.row gr m 1 (dq xs lo (ys.take len)))).put o.dst (.one (.c (.int .i64 (Nat.min ys.length len:Nat)))))) Q:=by
 have H:=r.hr;obtain⟨x1,_⟩:=r.ev fU;obtain⟨y1,_⟩:=r.ev fK;rw[hx] at x1;rw[hy] at y1;have fN:c≠ .bq:=by rintro rfl;simp[Am.cO] at hv
 have gY:gE (G.g n) 1 lo len (a.eval x):=(x1.fu (by simp)).1 (by rw[hn];simp);obtain⟨pc,p1,p2,p3⟩:=H.cO hv (y1.fu fN).1;have hr:=H.row n gr m 1 xs hn;cases pc with
 |int kk nn=>simp[PC.er] at p1
 |bool bb=>simp[PC.er] at p1
 |list s' ya cc py=>
 rw[PC.dV] at p1;injection p1 with e1 e2;subst e1;have vi:ys.length=py.length:=by rw[<-e2];simp
 have p2':a.eval y=.slice ya py.length cc:=p2.symm;by_cases h0:Nat.min py.length len=0
 ·have LB:σ.eE n (.row gr m 1 (dq xs lo (ys.take len)))=σ:=by
   have:ys.take len=[]:=by
    apply List.eq_nil_of_length_eq_zero;rw[List.length_take,vi];have:min len py.length=Nat.min py.length len:=Nat.min_comm _ _;omega
   rw[this,af7 _ _ (by omega)];exact afF hn
  have AV:∃Fz,a.eval x=.slice Fz len (match(G.g n).nl with|true=>(G.g n).cap|false=>(G.g n).cap - lo):=by
   rcases gY with⟨aR,hv,_,rfl⟩|⟨aR,a',hv,_,_⟩
   ·exact⟨_,by rw[hv,aR]⟩
   ·exact⟨_,by rw[hv,aR]⟩
  obtain⟨Fz,AV⟩:=AV;rw[LB,vi,h0];refine ji r (v:=.int .i64 0) ?_ (RA.of_int _ _) (fun q hq=>absurd hq qj) hN;simp only[execOp,ho];simp[resolve,invoke,builtin,AV,p2',asT ht hi _ _ _ _ _ _ h0]
 ·have hlen:0<len:=by
   rcases Nat.eq_zero_or_pos len with h|h
   ·subst h;exact absurd (Nat.min_zero _) h0
   ·exact h
  have eZ:0<py.length:=by
   rcases Nat.eq_zero_or_pos py.length with h|h
   ·rw[h] at h0;exact absurd (Nat.zero_min _) h0
   ·exact h
  rcases gY with⟨_,_,_,rfl⟩|⟨aR,a',jZ,io,ha⟩
  ·omega
  have pP:=ha (.inl (by omega));subst pP;obtain⟨⟨cur,et,hg⟩,l2,l3⟩:=hr.eK aR;generalize gw:PC.list 1 ya cc py=p at p3;cases p3 with
  |int k n=>cases gw
  |bool b=>cases gw
  |nil _ _ _ _=>injection gw with _ _ _ e4;subst e4;simp at eZ
  |cons _ b oo _ _ q1 q2 q3 q4 q5 q6=>
  injection gw with f1 f2 f3 f4;subst f1 f2 f3 f4;have hpf:=ac9 q4;generalize kv:py.flatten=pl at hpf;subst hpf;have nu:ys=pl.map fun c=>[c.er]:=by rw[<-e2,List.map_map];rfl
  have iY:∀c∈pl.take len,c.er.fk=true:=by
   intro c hc;have h6:=List.all_eq_true.1 jm [c.er] (by rw[nu];exact List.mem_map_of_mem (f:=fun c:PC=>[c.er]) (List.mem_of_mem_take hc));exact List.all_eq_true.1 h6 c.er (by simp)
  have n8:xs.length=(G.g n).px.length:=by rw[hr.er,List.length_map]
  have RZ:(pl.take len).length=Nat.min (pl.map fun c=>[c]).length len:=by rw[List.length_take,List.length_map];exact Nat.min_comm _ _
  have gG:(pl.take len).length<=len:=by rw[List.length_take];exact Nat.min_le_left _ _
  have nh:(G.g n).o+lo+(pl.take len).length<=cur.size:=by
   have h1:lo+len - 1<(G.g n).px.length:=by omega
   have h2:((G.g n).px[lo+len - 1]'h1).length=1:=l2.1 _ (List.getElem_mem h1);have hc:=l2.2.1 (lo+len - 1) 0 (((G.g n).px[lo+len - 1]'h1)[0]'(by omega)) ⟨_,List.getElem?_eq_getElem h1,List.getElem?_eq_getElem _⟩;have:=Ah hg hc;omega
  obtain⟨G',r'⟩:=r.YN hn hm hs aR (lo:=lo) (pe:=pl.take len) iY (by omega) hg nh;have hws:ys.take len=(pl.take len).map fun c=>[c.er]:=by rw[nu,List.map_take]
  rw[hws,show Nat.min ys.length len=Nat.min (pl.map fun c=>[c]).length len by rw[vi]];have bE:=asS (P:=P) (w:=w) (t':=t') (ty:=o.type) ht hi bV (G.g n).b ((G.g n).o+lo) len ((G.g n).cap - lo) cur hg (ad b oo) (pl.map fun c=>[c]).length cc ((pl.take len).map PC.val) (by rw[List.length_map,RZ]) (fun j u hj=>by
   rw[List.getElem?_map] at hj;cases hp:(pl.take len)[j]? with
   |none=>rw[hp] at hj;cases hj
   |some c0=>
    rw[hp] at hj;injection hj with hj;subst hj;have bB:pl[j]? =some c0:=by
     rw[List.getElem?_take] at hp;split at hp
     ·exact hp
     ·cases hp
    have:=q5 j 0 c0 ⟨[c0],by rw[List.getElem?_map,bB];rfl,rfl⟩;rw[qz];rw[show oo+j=oo+j*1+0 by omega];exact this) (fun u hu=>by obtain⟨c0,_,rfl⟩:=List.mem_map.1 hu;exact PC.jP c0) (by rw[List.length_map];exact nh)
  refine oG (w':=gb w (G.g n).b ((G.g n).o+lo) ((pl.take len).map PC.val) cur) (v:=.int .i64 (Nat.min (pl.map fun c=>[c]).length len:Nat)) ?_ ⟨G',r'.put (RA.of_int _ _) (fun q hq=>absurd hq qj) hN⟩;rw[Nat.mul_one] at jZ;simp only[execOp,ho];simp only[List.length_map] at bE⊢;simp[resolve,invoke,builtin,jZ,p2',List.length_map,bE]
theorem auz (z0:Value) (n:Nat):(Builtin.zeroCells #[z0] n).toList=List.replicate n z0:=by
 unfold Builtin.zeroCells;simp;rw[List.eq_replicate_iff];refine⟨by simp,fun b hb=>?_⟩;obtain⟨i,_,rfl⟩:=List.mem_map.1 hb;simp[Nat.mod_one]
theorem asR {t ty e:TypeId} (ht:P.underlying t=some (.slice e)) (ya:Option Addr) (c:Nat):
  (Builtin.clear_ #[t] ty #[.slice ya 0 c]).run P w=.ok (.tuple #[]) w:=by
 cases ya<;>simp[Builtin.clear_,run_underlying ht]
theorem asQ {t ty e e':TypeId} {i:TypeInfo} {z z0:Value} (ht:P.underlying t=some (.slice e)) (hi:P.info? e=some i) (hz:i.zero=some z) (xc:z.cells=#[z0]) (h1:z0.oneCell'=true) (g og n c:Nat) (hn:0<n) (cur:Array Value) (hg:w.heap[g]? =some (.cells cur e' (0,0)))
  (f0:og+n<=cur.size):(Builtin.clear_ #[t] ty #[.slice (some (ad g og)) n c]).run P w=.ok (.tuple #[]) (gb w g og (List.replicate n z0) cur):=by
 have jn:=run_storeCells_at P g og e' (List.replicate n z0) 0 cur w hg (by simpa using f0) (fun v hv=>by rw[(List.mem_replicate.1 hv).2];exact h1);simp only[Nat.add_zero] at jn;obtain⟨n,rfl⟩:∃k,n=k+1:=⟨n - 1,by omega⟩;simp[Builtin.clear_,run_underlying ht,typeInfo,zeroValue,hi,hz,xc,auz,ad,jn,gb]
theorem ai3 (r:R B E w0 N σ a w G) {t e:TypeId} {i:TypeInfo} {z:Value} {x:Operand} {mx:MO} {n lo len:Nat} {zc:C} {xs:List (List C)} {gr:Bool} {m:Mode} (ho:o.op=.call {callee:=.builtin .clear,args:=#[x],argTypes:=#[t]}) (hN:∀n,o.dst=some n->n<N)
  (fU:bU x mx=true) (ht:P.underlying t=some (.slice e)) (hi:P.info? e=some i) (hz:i.zero=some z) (hc:wu z.cells.toList [zc]=true) (xd:zc.fk=true) (hx:σ.ev mx=.one (.sl n 1 lo len)) (hn:σ.h n=some (.row gr m 1 xs))
  (hm:m≠ .aJ) (hs:eP xs=true) (f0:lo+len<=xs.length):
  o.wp P a w (Nx B E w0 N ((σ.eE n (.row gr m 1 (dq xs lo (List.replicate len [zc])))).put o.dst (.bK []))) Q:=by
 have H:=r.hr;obtain⟨x1,_⟩:=r.ev fU;rw[hx] at x1;have gY:gE (G.g n) 1 lo len (a.eval x):=(x1.fu (by simp)).1 (by rw[hn];simp);have hr:=H.row n gr m 1 xs hn;obtain⟨b1,b2,b3⟩:=Qj (w:=w) hc;have AO:∀w G' h',RA w G' h' (.bK []) (.tuple #[]):=fun w G' h'=>⟨[],rfl,rfl,by simp⟩;have xc:z.cells=#[(mX zc).val]:=by
  apply Array.ext';rw[<-b2];rfl
 rcases Nat.eq_zero_or_pos len with rfl|hlen
 ·have AV:∃Fz c,a.eval x=.slice Fz 0 c:=by
   rcases gY with⟨aR,hv,_,_⟩|⟨aR,a',hv,_,_⟩
   ·exact⟨_,_,hv⟩
   ·exact⟨_,_,hv⟩
  obtain⟨Fz,c,AV⟩:=AV;rw[show dq xs lo (List.replicate 0 [zc])=xs from af7 _ _ (by omega),afF hn]
  refine ji r (v:=.tuple #[]) ?_ (AO _ _ _) (fun q hq=>?_) hN
  ·simp only[execOp,ho];simp[resolve,invoke,builtin,AV,asR ht]
  ·obtain⟨x,hx,_⟩:=hq;simp at hx
 ·rcases gY with⟨_,_,_,rfl⟩|⟨aR,a',jZ,io,ha⟩
  ·omega
  have pP:=ha (.inl (by omega));subst pP;obtain⟨⟨cur,et,hg⟩,l2,l3⟩:=hr.eK aR;have n8:xs.length=(G.g n).px.length:=by rw[hr.er,List.length_map]
  have nh:(G.g n).o+lo+len<=cur.size:=by
   have h1:lo+len - 1<(G.g n).px.length:=by omega
   have h2:((G.g n).px[lo+len - 1]'h1).length=1:=l2.1 _ (List.getElem_mem h1);have hc:=l2.2.1 (lo+len - 1) 0 (((G.g n).px[lo+len - 1]'h1)[0]'(by omega)) ⟨_,List.getElem?_eq_getElem h1,List.getElem?_eq_getElem _⟩;have:=Ah hg hc;omega
  have gJ:(mX zc).er=zc:=by simpa using b1
  obtain⟨G',r'⟩:=r.YN hn hm hs aR (lo:=lo) (pe:=List.replicate len (mX zc)) (fun c hc=>by rw[(List.mem_replicate.1 hc).2,gJ];exact xd) (by rw[List.length_replicate];exact f0) hg (by rw[List.length_replicate];exact nh);rw[List.map_replicate,List.map_replicate,gJ] at r';have bE:=asQ (P:=P) (w:=w) (ty:=o.type) ht hi hz xc (PC.jP _) (G.g n).b ((G.g n).o+lo) len ((G.g n).cap - lo) hlen cur hg nh;refine oG (w':=gb w (G.g n).b ((G.g n).o+lo) (List.replicate len (mX zc).val) cur) (v:=.tuple #[]) ?_ ⟨G',r'.put (AO _ _ _) (fun q hq=>by obtain⟨x,hx,_⟩:=hq;simp at hx) hN⟩;rw[Nat.mul_one] at jZ;simp only[execOp,ho];simp[resolve,invoke,builtin,jZ,bE]
end
structure PH (w:World) (ds:List Dv) (vals:List Value) (pas:List PA):Prop where
 l1:vals.length=ds.length
 l2:pas.length=ds.length
 at_:∀(i:Nat) (d:Dv) (v:Value) (p:PA),ds[i]? =some d->vals[i]? =some v->pas[i]? =some p->vW w d v p
 jO:∀p∈pas,p.k=.ptr->d9 w p.b/\∀q∈pas,∀pc∈q.ps,¬aZ p.b pc
 one:∀(i j:Nat) (p q:PA),pas[i]? =some p->pas[j]? =some q->p.k=.ptr->q.k=.ptr->i=j
def CT (w:World) (pas:List PA) (b:Nat):Prop:=w.heap.size<=b\/∃q∈pas,∃pc∈q.ps,aZ b pc
def Yu (pas:List PA):Ex:=⟨fun b=>∃p∈pas,p.k=.ptr/\b=p.b,fun _=>none,fun _ _ h=>(by cases h),fun _=>True⟩
def BO (p:PA):Value:=
 match p.k with
 |.one=>match p.ps with
  |[pc]=>pc.val
  |_=>.agg (p.ps.map PC.val).toArray
 |.agg=>.agg (p.ps.map PC.val).toArray
 |.ptr=>.pointer (some (ad p.b p.o))
def BP:List PA->Value
 |[p]=>BO p
 |l=>.tuple (l.map BO).toArray
def IZ (w:World) (b o:Nat) (ps:List PC):Prop:=∀(j:Nat) (c:PC),ps[j]? =some c->w.cell? (ad b (o+j))=some c.val
structure PG (w w':World) (pas bt:List PA) (qs:List PC):Prop where
 one:∀p∈bt,p.k=.one->p.ps.length=1
 ptr:∀p∈bt,p.k=.ptr->bt.length=1/\w.heap.size<=p.b/\d9 w' p.b/\IZ w' p.b p.o p.ps/\(∀pc∈p.ps,¬aZ p.b pc)/\∀pc∈qs,¬aZ p.b pc
 eG:∀p∈bt,∀pc∈p.ps,Good w' pc/\∀b,aZ b pc->CT w pas b
 fr:Fr w.heap.size (Yu pas) w w'
 out:∀pc∈qs,Good w' pc/\∀b,aZ b pc->CT w pas b
 at_:∀p∈pas,p.k=.ptr->IZ w' p.b p.o qs
def Ad (P:Program) (f:FuncId) (M:List Dv->Option (List Dv×List C)):Prop:=
 ∀ds rs out,M ds=some (rs,out)->∀(w:World) (vals:List Value) (pas:List PA),PH w ds vals pas->Calls P f vals.toArray w fun e w'=>
  ∃(bt:List PA) (qs:List PC),bt.map (fun p=>(p.k,p.ps.map PC.er))=rs/\e=.returned (BP bt)/\qs.map PC.er=out/\PG w w' pas bt qs
def CR (P:Program) (T:aQ):Prop:=∀f M,aQ.lZ T.vs f=some M->Ad P f M
section
variable {B:Nat} {E:Ex} {w0 w w':World} {G G':Gh} {N:Nat} {h h':Nat->Option aq} {used used':Nat->Bool} {tk:List PC}
variable {P:Program} {o:Oper} {a:Act} {σ σ':St} {Q:Exit->Act->World->Prop}
theorem HR.pV {c:ah} {x:C} {v:Value} (hx:Am.pV c=some x) (hc:RC w G h c v):∃pc:PC,pc.er=x/\pc.val=v/\Good w pc/\∀b,aZ b pc->G.Im b:=by
 cases c with
 |c y=>
  simp only[Am.pV] at hx;injection hx with hx;subst hx;exact hc
 |nil sz=>
  simp only[Am.pV] at hx;split at hx
  ·rename_i eS;injection hx with hx;subst hx;have dt:v=.slice none 0 0:=hc;subst dt;refine⟨.list sz none 0 [],by simp[PC.dV],rfl,.nil _ _ _ eS,fun b hb=>?_⟩;rw[aZ.kZ] at hb;rcases hb with⟨hb,_⟩|⟨k,j,c,⟨e,he,_⟩,_⟩
   ·exact absurd rfl hb
   ·simp at he
  ·cases hx
 |_=>simp[Am.pV] at hx
theorem HR.kR:∀{cs:List ah} {xs:List C} {vs:List Value},Am.kR cs=some xs->dj w G h cs vs->∃ps:List PC,ps.map PC.er=xs/\ps.map PC.val=vs/\∀pc∈ps,Good w pc/\∀b,aZ b pc->G.Im b
 |[],xs,vs,hx,hc=>by
  simp only[Am.kR] at hx;injection hx with hx;subst hx;have:vs=[]:=List.eq_nil_of_length_eq_zero (by simpa using hc.1);subst this;exact⟨[],rfl,rfl,by simp⟩
 |c::cs,xs,vs,hx,hc=>by
  simp only[Am.kR] at hx;split at hx
  ·rename_i x av e1 e2;injection hx with hx;subst hx;match vs,hc.1 with
   |v::vs,hl=>
    obtain⟨pc,a1,a2,a3,a4⟩:=HR.pV e1 (hc.2 0 c v rfl rfl).2;obtain⟨ps,b1,b2,b3⟩:=HR.kR (vs:=vs) e2 ⟨by simpa using hl,fun j c u h1 h2=>hc.2 (j+1) c u h1 h2⟩;refine⟨pc::ps,by simp[a1,b1],by simp[a2,b2],fun q hq=>?_⟩;cases hq with
    |head=>exact⟨a3,a4⟩
    |tail _ hq=>exact b3 q hq
  ·cases hx
theorem HR.Kq (H:HR B E w G h used tk) {n:Nat} {cs:List ah} (hn:h n=some (.box cs)):∃vs:List Value,dj w G h cs vs/\∀(j:Nat) (v:Value),vs[j]? =some v->w.cell? (ad (G.g n).b ((G.g n).o+j))=some v:=by
 obtain⟨_,_,a3⟩:=H.box n cs hn;have hj:∀j:Fin cs.length,∃v,w.cell? (ad (G.g n).b ((G.g n).o+j.1))=some v/\v.oneCell'=true/\RC w G h cs[j.1] v:=fun j=>a3 j.1 _ (List.getElem?_eq_getElem j.2);refine⟨List.ofFn fun j=>Classical.choose (hj j),⟨by simp,fun j c u hc hu=>?_⟩,fun j v hv=>?_⟩
 ·obtain⟨hl,e⟩:=List.getElem?_eq_some_iff.1 hc;rw[List.getElem?_ofFn,dif_pos hl] at hu;injection hu with hu;subst hu e;exact(Classical.choose_spec (hj ⟨j,hl⟩)).2
 ·by_cases hl:j<cs.length
  ·rw[List.getElem?_ofFn,dif_pos hl] at hv;injection hv with hv;subst hv;exact(Classical.choose_spec (hj ⟨j,hl⟩)).1
  ·rw[List.getElem?_eq_none (by simp;omega)] at hv;cases hv
theorem atY {σ1:St} {c:ah} {x:C} {o:Bool} (hx:σ.fY c=some (x,o,σ1)) {n:Nat} {cs:List ah} (hn:σ.h n=some (.box cs)):σ1.h n=some (.box cs):=by
 cases c with
 |c y=>simp only[St.fY] at hx;injection hx with hx;injection hx with _ hx;injection hx with _ hx;subst hx;exact hn
 |nil sz=>
  simp only[St.fY] at hx;split at hx
  ·injection hx with hx;injection hx with _ hx;injection hx with _ hx;subst hx;exact hn
  ·cases hx
 |sl q sz lo len=>
  simp only[St.fY] at hx;split at hx
  ·rename_i gr m rs xs hq;split at hx
   ·injection hx with hx;injection hx with _ hx;injection hx with _ hx;subst hx;have aD:n≠q:=by rintro rfl;rw[hq] at hn;cases hn
    show az σ.h q none n=_;rw[cN _ _ _ _ aD];exact hn
   ·cases hx
  ·cases hx
 |_=>simp[St.fY] at hx
theorem Wo:∀{l:List ah} {σ σ1:St} {xs:List C} {o:Bool},σ.gC l=some (xs,o,σ1)->∀{n:Nat} {cs:List ah},σ.h n=some (.box cs)->σ1.h n=some (.box cs)
 |[],σ,σ1,xs,o,hx,n,cs,hn=>by simp only[St.gC] at hx;injection hx with hx;injection hx with _ hx;injection hx with _ hx;subst hx;exact hn
 |c::l,σ,σ2,xs,o,hx,n,cs,hn=>by
  simp only[St.gC] at hx;split at hx
  ·rename_i x o1 σ1 e1;split at hx
   ·rename_i av o2 WG e2;injection hx with hx;injection hx with _ hx;injection hx with _ hx;subst hx;exact Wo e2 (atY e1 hn)
   ·cases hx
  ·cases hx
theorem PW:∀{as:List aj} {σ σ1:St} {ds:List Dv} {ns:List Nat},σ.iQ as=some (ds,ns,σ1)->∀{n:Nat} {cs:List ah},σ.h n=some (.box cs)->σ1.h n=some (.box cs)
 |[],σ,σ1,ds,ns,hx,n,cs,hn=>by simp only[St.iQ] at hx;injection hx with hx;injection hx with _ hx;injection hx with _ hx;subst hx;exact hn
 |v::as,σ,σ2,ds,ns,hx,n,cs,hn=>by
  simp only[St.iQ] at hx;split at hx
  ·split at hx
   ·rename_i e;injection hx with hx;injection hx with _ hx;injection hx with _ hx;subst hx;exact PW e hn
   ·cases hx
  ·split at hx
   ·split at hx
    ·rename_i e1;split at hx
     ·rename_i e2;injection hx with hx;injection hx with _ hx;injection hx with _ hx;subst hx;exact PW e2 (Wo e1 hn)
     ·cases hx
    ·cases hx
   ·cases hx
def m8 (pas:List PA):List PA:=pas.filter fun p=>decide (p.k=.ptr)
def WK (G:Gh) (h:Nat->Option aq) (p:PA) (n:Nat):Prop:=∃cs,h n=some (.box cs)/\p.b=(G.g n).b/\p.o=(G.g n).o/\p.ps.length=cs.length
theorem PZ {v:aj} {n:Nat} {xs:List C} (hx:m4 h v=some (n,xs)):∃sz cs,v=.one (.ptr n 0 sz 0)/\h n=some (.box cs)/\kR cs=some xs:=by
 unfold m4 at hx;split at hx
 ·rename_i q k sz off;split at hx
  ·rename_i hc;obtain⟨rfl,rfl⟩:=hc;split at hx
   ·rename_i cs hq;split at hx
    ·rename_i ys e;injection hx with hx;injection hx with h1 h2;subst h1 h2;exact⟨sz,cs,rfl,hq,e⟩
    ·cases hx
   ·cases hx
  ·cases hx
 ·cases hx
theorem HR.iQ:∀{as:List aj} {vals:List Value} {σ σ1:St} {G:Gh} {ds:List Dv} {ns:List Nat},HR B E w G σ.h σ.used []->σ.iQ as=some (ds,ns,σ1)->vals.length=as.length->
  (∀(j:Nat) (x:aj) (v:Value),as[j]? =some x->vals[j]? =some v->RA w G σ.h x v)->(∀x∈as,∀m,x.ref m->σ.used m=true)->
  ∃(Im':Nat->Prop) (pas:List PA),pas.length=ds.length/\vals.length=ds.length/\(∀(i:Nat) (d:Dv) (v:Value) (p:PA),ds[i]? =some d->vals[i]? =some v->pas[i]? =some p->vW w d v p)/\
   (∀p∈pas,∀pc∈p.ps,∀b,aZ b pc->Im' b)/\(m8 pas).length=ns.length/\(∀(i:Nat) (p:PA) (n:Nat),(m8 pas)[i]? =some p->ns[i]? =some n->WK G σ1.h p n)/\
   HR B E w ⟨Im',G.g⟩ σ1.h σ1.used []/\bm w G σ.h (fun n=>σ.used n=true) w ⟨Im',G.g⟩ σ1.h/\σ1.env=σ.env/\σ1.used=σ.used
 |[],vals,σ,σ1,G,ds,ns,H,hx,hl,hc,hr=>by
  simp only[St.iQ] at hx;injection hx with hx;injection hx with h1 h2;injection h2 with h2 h3;subst h1 h2 h3;exact⟨G.Im,[],rfl,by simpa using hl,by simp,by simp,rfl,by simp[m8],H,bm.refl _ _ _ _,rfl,rfl⟩
 |x::as,vals,σ,σ2,G,ds,ns,H,hx,hl,hc,hr=>by
  match vals,hl with
  |v::vals,hl=>
   simp only[St.iQ] at hx;split at hx
   ·rename_i n xs hp;split at hx
    ·rename_i uP lK σ1 e;injection hx with hx;injection hx with h1 h2;injection h2 with h2 h3;subst h1 h2 h3;obtain⟨sz,cs,rfl,hn,pQ⟩:=PZ hp;obtain⟨nl,un,_⟩:=H.box n cs hn;obtain⟨vs,v1,v2⟩:=H.Kq hn;obtain⟨ps,p1,p2,p3⟩:=HR.kR pQ v1;have hv:v=.pointer (some (ad (G.g n).b (G.g n).o)):=by
      have h0:=hc 0 _ v rfl rfl;rcases h0 with h0|h0
      ·cases h0
      ·have h1:RC w G σ.h (.ptr n 0 sz 0) v:=(h0.2 0 _ v rfl rfl).2;simpa using(h1 (by rw[hn];simp)).2
     obtain⟨Im',pas,b1,b2,b3,b4,b5,b6,b7,b8,b9,lT⟩:=HR.iQ (as:=as) (vals:=vals) H e (by simpa using hl) (fun j x v h1 h2=>hc (j+1) x v h1 h2) (fun x hx=>hr x (by simp[hx]));have hk:(Am.K.ptr=Am.K.ptr)=True:=by simp
     refine⟨Im',⟨.ptr,ps,(G.g n).b,(G.g n).o⟩::pas,by simp[b1],by simp[b2],fun i d u p hd hu f6=>?_,fun p f6 pc bi b hb=>?_,by simp[m8];exact b5,fun i p m hi hm=>?_,b7,b8,b9,lT⟩
     ·cases i with
      |zero=>
       simp at hd hu f6;subst hd hu f6;refine⟨by rw[p1],fun pc bi=>(p3 pc bi).1,hv,un.lt,fun j c hj=>v2 j _ ?_⟩;rw[<-p2,List.getElem?_map,hj];rfl
      |succ i=>exact b3 i d u p (by simpa using hd) (by simpa using hu) (by simpa using f6)
     ·cases f6 with
      |head=>exact b8.im b ((p3 pc bi).2 b hb)
      |tail _ f6=>exact b4 p f6 pc bi b hb
     ·cases i with
      |zero=>
       simp[m8] at hi hm;subst hi hm;refine⟨cs,PW e hn,rfl,rfl,?_⟩;have h1:ps.length=vs.length:=by rw[<-p2];simp
       exact h1.trans v1.1
      |succ i=>exact b6 i p m (by simpa[m8] using hi) (by simpa using hm)
    ·cases hx
   ·split at hx
    ·rename_i ag cs fi;split at hx
     ·rename_i xs o σ1 e1;split at hx
      ·rename_i uP lK WG e2;injection hx with hx;injection hx with h1 h2;injection h2 with h2 h3;subst h1 h2 h3;have h0:=hc 0 x v rfl rfl;have pR:∃vs:List Value,(if ag=true then v=.agg vs.toArray else vs=[v])/\dj w G σ.h cs vs:=by
        cases x with
        |one c=>
         have Rp:ag=false/\cs=[c]:=by cases c<;>simp[aj.cells?] at fi<;>exact⟨fi.1,fi.2.symm⟩
         obtain⟨rfl,rfl⟩:=Rp;rcases h0 with h0|h0
         ·subst h0;simp[aj.cells?] at fi
         ·exact⟨[v],rfl,h0⟩
        |agg cs'=>
         simp[aj.cells?] at fi;obtain⟨rfl,rfl⟩:=fi;obtain⟨vs,e,h1⟩:∃vs:List Value,v=.agg vs.toArray/\dj w G σ.h cs' vs:=h0;exact⟨vs,e,h1⟩
        |bK xs=>simp[aj.cells?] at fi
       obtain⟨vs,ja,cC⟩:=pR;obtain⟨z9,bD,a1,a2,a3,a5,a6,a7,a8,a9⟩:=H.gC e1 cC (fun c' dt m hm=>hr x (by simp) m (aj.yx fi dt hm));have uF:HR B E w ⟨z9,G.g⟩ σ1.h σ.used []:=by
        cases o with
        |true=>exact HR.xT (tk:=[]) (l:=bD) (by simpa using a5)
        |false=>simpa using a5
       rw[<-a8] at uF;obtain⟨FK,pas,b1,b2,b3,b4,b5,b6,b7,b8,b9,lT⟩:=HR.iQ (as:=as) (vals:=vals) (G:=⟨z9,G.g⟩) uF e2 (by simpa using hl)
        (fun j x v h1 h2=>(hc (j+1) x v h1 h2).fW a6 (fun m hm=>hr x (by simp[List.mem_of_getElem? h1]) m hm)) (fun x' mg m hm=>by rw[a8];exact hr x' (by simp[mg]) m hm)
       refine⟨FK,⟨if ag=true then .agg else .one,bD,0,0⟩::pas,by simp[b1],by simp[b2],fun i d u p hd hu f6=>?_,fun p f6 pc bi b hb=>?_,?_,fun i p m hi hm=>?_,b7,
        bm.trans (fun n hn=>by rw[a8];exact hn) a6 b8,b9.trans a7,lT.trans a8⟩
       ·cases i with
        |zero=>
         simp at hd hu f6;subst hd hu f6;cases ag with
         |true=>exact⟨by simp[a1],fun pc bi=>(a3 pc bi).1,by simp only[if_true] at ja⊢;rw[a2];exact ja⟩
         |false=>exact⟨by simp[a1],fun pc bi=>(a3 pc bi).1,by simp only[Bool.false_eq_true,if_false] at ja⊢;rw[a2];exact ja⟩
        |succ i=>exact b3 i d u p (by simpa using hd) (by simpa using hu) (by simpa using f6)
       ·cases f6 with
        |head=>exact b8.im b ((a3 pc bi).2 b hb)
        |tail _ f6=>exact b4 p f6 pc bi b hb
       ·cases ag<;>simp[m8]<;>exact b5
       ·refine b6 i p m ?_ hm;cases ag<;>simpa[m8] using hi
      ·cases hx
     ·cases hx
    ·cases hx
theorem HR.Xu (H:HR B E w G h used []) {n:Nat} {cs cs':List ah} (hn:h n=some (.box cs)) (bV:w.heap.size<=w'.heap.size) (hw:∀b,b<w.heap.size->b≠(G.g n).b->w'.heap[b]? =w.heap[b]?)
  (jE:∀b,b<w.heap.size->Cz w w' b) {S:Nat->Prop} (hS:∀b,S b->w.heap.size<=b/\b<w'.heap.size/\B<=b) {ps:List PC} (f8:cs'=ps.map fun pc=>ah.c pc.er)
  (cG:∀(j:Nat) (c:PC),ps[j]? =some c->w'.cell? (ad (G.g n).b ((G.g n).o+j))=some c.val) (fO:∀pc∈ps,Good w' pc/\∀b,aZ b pc->G.Im b\/S b):
  HR B E w' ⟨fun b=>G.Im b\/S b,G.g⟩ (az h n (some (.box cs'))) used []/\bm w G h (fun n=>used n=true) w' ⟨fun b=>G.Im b\/S b,G.g⟩ (az h n (some (.box cs'))):=by
 subst f8;have bN:h n≠none:=by rw[hn];simp
 obtain⟨aR,vf,gW⟩:=H.box n cs hn;obtain⟨su,qQ,tN⟩:=H.own n bN aR;have y3:=H.jh n bN;have kp:∀Dj:List ah,bm w G h (fun n=>used n=true) w' G (az h n (some (.box Dj))):=by
  intro Dj;refine⟨fun _ h=>h,fun b hb x=>gV (hw b (H.gH b hb) (fun he=>su (he▸hb))) x,fun m hm h0=>?_,fun m gr sz xs hm h0=>?_⟩
  ·by_cases bJ:m=n
   ·subst bJ;exact⟨bN,rfl,rfl,rfl,rfl,rfl⟩
   ·rw[cN _ _ _ _ bJ] at h0;exact⟨h0,rfl,rfl,rfl,rfl,rfl⟩
  ·by_cases bJ:m=n
   ·subst bJ;rw[bR] at h0;cases h0
   ·rw[cN _ _ _ _ bJ] at h0;exact⟨⟨gr,xs,h0⟩,fun k j pc h1 h2=>⟨pc,h1,rfl,h2⟩⟩
 have hG:(⟨G.Im,az G.g n (G.g n)⟩:Gh)=G:=by rw[IM]
 have H1:HR B E w' ⟨G.Im,az G.g n (G.g n)⟩ (az h n (some (.box []))) used []:=by
  refine H.put (fun b hb aD=>hw b hb (aD aR)) bV (fun b hb hU=>(jE b hb).jO hU) (fun _ h=>h) y3 (fun _=>⟨su,qQ,Nat.lt_of_lt_of_le tN bV⟩)
   (fun _ m hm h0 gX=>(H.inj m n h0 bN hm gX aR)) (fun _ m gr sz xs hm h0 b hb=>H.live m gr sz xs h0 b hb n bN aR) ?_ (by rw[hG];exact kp []) ?_
   (fun gr m sz xs hb=>by cases hb) (fun gr sz xs hb=>by cases hb) (fun gr m sz xs hb=>by cases hb) ?_
  ·intro Dj c m hb hc hm;injection hb with hb;subst hb;cases hc
  ·exact⟨aR,(jE _ tN).jO vf,fun j c hj=>by simp at hj⟩
  ·intro _ _ b hb;obtain⟨m,gr,mo,sz,xs,hm,h0,cT⟩:=hb;exact H.qI bN aR h0 cT
 rw[hG] at H1;have yX:∀m,az h n (some (aq.box [])) m≠none->h m≠none:=fun m hm=>by
  by_cases bJ:m=n
  ·subst bJ;exact bN
  ·rwa[cN _ _ _ _ bJ] at hm
 have H2:HR B E w' ⟨fun b=>G.Im b\/S b,G.g⟩ (az h n (some (.box []))) used []:=H1.vn S (fun b hb=>(hS b hb).2.1) (fun b hb q hq hl he=>by have:=(hS b hb).1;have:=(H.own q (yX q hq) hl).2.2;omega)
  (fun b hb q gr sz xs hq hF=>by
   by_cases gM:q=n
   ·subst gM;rw[bR] at hq;cases hq
   ·rw[cN _ _ _ _ gM] at hq;have:=(hS b hb).1;have:=H.po hq hF;omega) (fun b hb=>.inl (hS b hb).2.2)
 have hn2:az h n (some (aq.box [])) n=some (.box []):=bR _ _ _;have Ha:az h n (some (aq.box [])) n≠none:=by rw[hn2];simp
 have huu:az (az h n (some (aq.box []))) n (some (.box (ps.map fun pc=>ah.c pc.er)))=az h n (some (.box (ps.map fun pc=>ah.c pc.er))):=by
  funext m;simp only[kg];split<;>rfl
 have hG2:(⟨fun b=>G.Im b\/S b,az G.g n (G.g n)⟩:Gh)=⟨fun b=>G.Im b\/S b,G.g⟩:=by rw[IM]
 have K2:bm w' ⟨fun b=>G.Im b\/S b,G.g⟩ (az h n (some (aq.box []))) (fun n=>used n=true) w' ⟨fun b=>G.Im b\/S b,G.g⟩ (az h n (some (.box (ps.map fun pc=>ah.c pc.er)))):=by
  refine⟨fun _ h=>h,fun _ _ _=>rfl,fun m hm h0=>?_,fun m gr sz xs hm h0=>?_⟩
  ·refine⟨?_,rfl,rfl,rfl,rfl,rfl⟩;by_cases bJ:m=n
   ·subst bJ;exact Ha
   ·rw[cN _ _ _ _ bJ] at h0⊢;exact h0
  ·by_cases bJ:m=n
   ·subst bJ;rw[bR] at h0;cases h0
   ·rw[cN _ _ _ _ bJ] at h0;exact⟨⟨gr,xs,by rw[cN _ _ _ _ bJ];exact h0⟩,fun k j pc h1 h2=>⟨pc,h1,rfl,h2⟩⟩
 have H3:HR B E w' ⟨fun b=>G.Im b\/S b,az G.g n (G.g n)⟩ (az (az h n (some (aq.box []))) n (some (.box (ps.map fun pc=>ah.c pc.er)))) used []:=by
  refine H2.put (w':=w') (fun _ _ _=>rfl) (Nat.le_refl _) (fun _ _ hU=>hU) (fun _ h=>h) y3 (fun _=>⟨fun hi=>(H2.own n Ha aR).1 hi,qQ,Nat.lt_of_lt_of_le tN bV⟩)
   (fun _ m hm h0 gX=>H2.inj m n h0 Ha hm gX aR) (fun _ m gr sz xs hm h0 b hb=>H2.live m gr sz xs h0 b hb n Ha aR) ?_ (by rw[hG2,huu];exact K2) ?_
   (fun gr m sz xs hb=>by cases hb) (fun gr sz xs hb=>by cases hb) (fun gr m sz xs hb=>by cases hb) ?_
  ·intro Dj c m hb hc hm;injection hb with hb;subst hb;obtain⟨pc,_,rfl⟩:=List.mem_map.1 hc;exact absurd hm id
  ·refine⟨aR,(jE _ tN).jO vf,fun j c hj=>?_⟩;rw[List.getElem?_map] at hj;cases hp:ps[j]? with
   |none=>rw[hp] at hj;cases hj
   |some pc=>
    rw[hp] at hj;simp at hj;subst hj;obtain⟨g1,g2⟩:=fO pc (List.mem_of_getElem? hp);exact⟨pc.val,cG j pc hp,PC.jP pc,pc,rfl,rfl,g1,g2⟩
  ·intro _ _ b hb;obtain⟨m,gr,mo,sz,xs,hm,h0,cT⟩:=hb;exact H2.qI Ha aR h0 cT
 rw[hG2,huu] at H3;have K1:bm w G h (fun n=>used n=true) w' ⟨fun b=>G.Im b\/S b,G.g⟩ (az h n (some (aq.box []))):=bm.trans (fun _ h=>h) (kp []) (bm.vn S _);exact⟨H3,bm.trans (fun _ h=>h) K1 K2⟩
theorem TS {σ1:St} {ns:List Nat} {out:List C} (hx:σ.sP ns out=some σ1):(ns=[]/\out=[]/\σ1=σ)\/∃n cs,ns=[n]/\σ.h n=some (.box cs)/\cs.length=out.length/\σ1=σ.eE n (.box (out.map .c)):=by
 unfold St.sP at hx;split at hx
 ·injection hx with hx;exact .inl ⟨rfl,rfl,hx.symm⟩
 ·rename_i n;split at hx
  ·rename_i cs hn;split at hx
   ·rename_i hl;injection hx with hx;exact .inr ⟨n,cs,rfl,hn,hl,hx.symm⟩
   ·cases hx
  ·cases hx
 ·cases hx
theorem XZ {pas:List PA} {p:PA} (hp:p∈pas) (hk:p.k=.ptr):p∈m8 pas:=List.mem_filter.2 ⟨hp,by simp[hk]⟩
theorem X0:∀{pas:List PA},(m8 pas).length<=1->∀{i j:Nat} {p q:PA},pas[i]? =some p->pas[j]? =some q->p.k=.ptr->q.k=.ptr->i=j
 |[],_,i,_,_,_,hi,_,_,_=>by simp at hi
 |x::pas,hl,i,j,p,q,hi,hj,hp,hq=>by
  by_cases hx:x.k=.ptr
  ·have hz:(m8 pas).length=0:=by
    simp[m8,hx] at hl⊢;exact hl
   have cm:∀y∈pas,y.k≠ .ptr:=fun y hy hk=>by
    have:=XZ hy hk;rw[List.length_eq_zero_iff.1 hz] at this;cases this
   cases i with
   |zero=>
    cases j with
    |zero=>rfl
    |succ j=>exact absurd hq (cm q (List.mem_of_getElem? (by simpa using hj)))
   |succ i=>exact absurd hp (cm p (List.mem_of_getElem? (by simpa using hi)))
  ·have eQ:(m8 pas).length<=1:=by simpa[m8,hx] using hl
   cases i with
   |zero=>simp at hi;subst hi;exact absurd hp hx
   |succ i=>
    cases j with
    |zero=>simp at hj;subst hj;exact absurd hq hx
    |succ j=>exact congrArg (·+1) (X0 eQ (by simpa using hi) (by simpa using hj) hp hq)
theorem Qt:∀{bt:List PA} {ls:List (Bool×List ah)},kt (bt.map fun p=>(p.k,p.ps.map PC.er))=some ls->ls=bt.map (fun p=>(decide (p.k=.agg),p.ps.map fun pc=>ah.c pc.er))/\∀p∈bt,p.k≠ .ptr
 |[],ls,h=>by simp only[List.map_nil,kt] at h;injection h with h;exact⟨h.symm,by simp⟩
 |⟨k,ps,b,o⟩::bt,ls,h=>by
  cases k with
  |ptr=>simp[kt] at h
  |one=>
   simp only[List.map_cons,kt] at h;split at h
   ·rename_i HL e;injection h with h;obtain⟨e1,e2⟩:=Qt e;refine⟨by rw[<-h,e1,List.map_map];rfl,fun p hp=>?_⟩;cases hp with
    |head=>simp
    |tail _ hp=>exact e2 p hp
   ·cases h
  |agg=>
   simp only[List.map_cons,kt] at h;split at h
   ·rename_i HL e;injection h with h;obtain⟨e1,e2⟩:=Qt e;refine⟨by rw[<-h,e1,List.map_map];rfl,fun p hp=>?_⟩;cases hp with
    |head=>simp
    |tail _ hp=>exact e2 p hp
   ·cases h
theorem ash {ls:List (Bool×List ah)} {bt:List PA} (hlen:ls.length=bt.length)
  (hv:∀(j:Nat) (x:Bool×List ah) (p:PA),ls[j]? =some x->bt[j]? =some p->RV w G h x.1 x.2 (BO p)):RA w G h (mr ls) (BP bt):=by
 match ls,bt,hlen with
 |[],[],_=>exact⟨[],rfl,rfl,by simp⟩
 |[(ag,cs)],[p],_=>
  have h0:=hv 0 (ag,cs) p rfl rfl;cases ag with
  |true=>exact h0
  |false=>
   have cC:dj w G h cs [BO p]:=h0;match cs,cC.1 with
   |[c],_=>exact .inr h0
 |x::y::ls,p::q::bt,hl=>
  refine⟨(p::q::bt).map BO,rfl,by simpa using hl.symm,fun j x' u hj hu=>?_⟩;rw[List.getElem?_map] at hu;cases hp:(p::q::bt)[j]? with
  |none=>rw[hp] at hu;cases hu
  |some p'=>rw[hp] at hu;simp at hu;subst hu;exact hv j x' p' hj hp
theorem ai8 (r:R B E w0 N σ a w G) {T:aQ} (hT:CR P T) {f:FuncId} {as:List aj} {vals:List Value} {σ1:St} (hN:∀n,o.dst=some n->n<N)
  (bE:(execOp a.eval o).run P w=.ok (.enter f vals.toArray) w) (hl:vals.length=as.length)
  (nT:∀(j:Nat) (x:aj) (v:Value),as[j]? =some x->vals[j]? =some v->RA w G σ.h x v) (R7:∀x∈as,∀m,x.ref m->σ.used m=true)
  (hx:rY T o.dst f as σ=some σ1):o.wp P a w (Nx B E w0 N σ1) Q:=by
 unfold rY at hx;split at hx
 ·rename_i ds ns oH M hba hM;split at hx
  ·rename_i rs out sd;split at hx
   ·rename_i ki nZ;obtain⟨Im',pas,b1,b2,b3,b4,b5,b6,b7,b8,b9,lT⟩:=r.hr.iQ hba hl nT R7;have hns:ns.length<=1:=by
     rcases TS nZ with⟨h1,_⟩|⟨n,cs,h1,_⟩<;>rw[h1]<;>simp
    have nh:∀p∈pas,p.k=.ptr->∃n,ns=[n]/\WK G oH.h p n:=by
     intro p hp hk;obtain⟨i,hi⟩:=List.getElem?_of_mem (XZ hp hk);have cu:i<ns.length:=by rw[<-b5];exact(List.getElem?_eq_some_iff.1 hi).1
     have hn:ns[i]? =some ns[i]:=List.getElem?_eq_getElem cu;have h0:i=0:=by omega
     subst h0;refine⟨_,?_,b6 0 p _ hi hn⟩;match ns,cu,hns with
     |[n],_,_=>rfl
    have va:PH w ds vals pas:=by
     refine⟨b2,b1,b3,fun p hp hk=>?_,fun i j p q hi hj hp hq=>X0 (by omega) hi hj hp hq⟩;obtain⟨n,_,cs,hn,e1,e2,e3⟩:=nh p hp hk;obtain⟨nl,un,_⟩:=b7.box n cs hn;have ho:=b7.own n (by rw[hn];simp) nl;rw[e1];exact⟨un,fun q hq pc bi hb=>ho.1 (b4 q hq pc bi _ hb)⟩
    unfold Oper.wp;rw[bE];refine(hT f M hM ds rs out sd w vals pas va).mono fun e w' ⟨bt,qs,p1,p2,p3,p4⟩=>?_;subst p2;have aaG:∀b,CT w pas b->Im' b\/w.heap.size<=b:=fun b hb=>by
     rcases hb with hb|⟨q,hq,pc,bi,hb⟩
     ·exact .inr hb
     ·exact .inl (b4 q hq pc bi b hb)
    let S:Nat->Prop:=fun b=>w.heap.size<=b/\((∃p∈bt,∃pc∈p.ps,aZ b pc)\/∃pc∈qs,aZ b pc);have hB:=r.fr.size;have hS:∀b,S b->w.heap.size<=b/\b<w'.heap.size/\B<=b:=fun b ⟨h1,h2⟩=>by
     refine⟨h1,?_,Nat.le_trans hB h1⟩;rcases h2 with⟨p,hp,pc,bi,hb⟩|⟨pc,bi,hb⟩
     ·exact(p4.eG p hp pc bi).1.lt hb
     ·exact(p4.out pc bi).1.lt hb
    have aag:∀p∈bt,∀pc∈p.ps,Good w' pc/\∀b,aZ b pc->Im' b\/S b:=fun p hp pc bi=>by
     obtain⟨g1,g2⟩:=p4.eG p hp pc bi;exact⟨g1,fun b hb=>(aaG b (g2 b hb)).imp id fun h1=>⟨h1,.inl ⟨p,hp,pc,bi,hb⟩⟩⟩
    have akP:∀pc∈qs,Good w' pc/\∀b,aZ b pc->Im' b\/S b:=fun pc bi=>by
     obtain⟨g1,g2⟩:=p4.out pc bi;exact⟨g1,fun b hb=>(aaG b (g2 b hb)).imp id fun h1=>⟨h1,.inr ⟨pc,bi,hb⟩⟩⟩
    have atG:HR B E w' ⟨fun b=>Im' b\/S b,G.g⟩ ki.h ki.used []/\bm w ⟨Im',G.g⟩ oH.h (fun n=>oH.used n=true) w' ⟨fun b=>Im' b\/S b,G.g⟩ ki.h/\ki.env=oH.env/\ki.used=oH.used/\Fr B E w0 w':=by
     rcases TS nZ with⟨h1,h2,h3⟩|⟨n,cs,h1,h2,h3,h4⟩
     ·subst h3;have cm:∀p∈pas,p.k≠ .ptr:=fun p hp hk=>by
       obtain⟨n,e,_⟩:=nh p hp hk;rw[h1] at e;cases e
      have jC:∀b,b<w.heap.size->w'.heap[b]? =w.heap[b]? :=fun b hb=>p4.fr.block b hb (fun⟨p,hp,hk,_⟩=>cm p hp hk);have Hg:=b7.grow jC p4.fr.size;refine⟨Hg.vn S (fun b hb=>(hS b hb).2.1) (fun b hb q hq hl he=>by have:=(hS b hb).1;have:=(b7.own q hq hl).2.2;omega)
       (fun b hb q gr sz xs hq hF=>by have:=(hS b hb).1;have:=b7.po hq hF;omega) (fun b hb=>.inl (hS b hb).2.2),
       bm.trans (fun _ h=>h) (bm.world (fun b hb=>jC b (b7.gH b hb)) _) (bm.vn S _),rfl,rfl,r.fr.grow jC p4.fr.size p4.fr.os p4.fr.tape p4.fr.output⟩
     ·subst h4;obtain⟨p,hp,hk⟩:∃p∈pas,p.k=.ptr:=by
       have hlen:(m8 pas).length=1:=by rw[b5,h1];rfl
       match hc:m8 pas,hlen with
       |[p],_=>
        have hm:p∈m8 pas:=by rw[hc];simp
        have:=List.mem_filter.1 hm;exact⟨p,this.1,by simpa using this.2⟩
      obtain⟨n',e0,cs',bu,e1,e2,e3⟩:=nh p hp hk;rw[h1] at e0;injection e0 with e0;subst e0;have LF:∀q∈pas,q.k=.ptr->q=p:=fun q hq RJ=>by
       obtain⟨i,hi⟩:=List.getElem?_of_mem hq;obtain⟨j,hj⟩:=List.getElem?_of_mem hp;have:=va.one i j q p hi hj RJ hk;subst this;rw[hi] at hj;injection hj
      have ho:=b7.own n (by rw[h2];simp) (b7.box n cs h2).1;have jC:∀b,b<w.heap.size->b≠(G.g n).b->w'.heap[b]? =w.heap[b]? :=fun b hb aD=>p4.fr.block b hb (fun⟨q,hq,RJ,hbq⟩=>by
       rw[LF q hq RJ,e1] at hbq;exact aD hbq)
      have jE:∀b,b<w.heap.size->Cz w w' b:=fun b hb=>p4.fr.jO b hb;obtain⟨Hb,Kb⟩:=b7.Xu (cs':=out.map .c) h2 p4.fr.size jC jE hS (ps:=qs) (by rw[<-p3,List.map_map];rfl) (fun j c hj=>by
       have:=p4.at_ p hp hk j c hj;rw[e1,e2] at this;exact this) akP
      exact⟨Hb,Kb,rfl,rfl,r.fr.one ho.2.1 jC p4.fr.size (jE _ ho.2.2) p4.fr.os p4.fr.tape p4.fr.output⟩
    obtain⟨H2,K2,v1,v2,wO⟩:=atG;have K0:bm w G σ.h (fun n=>σ.used n=true) w' ⟨fun b=>Im' b\/S b,G.g⟩ ki.h:=bm.trans (fun n hn=>by rw[lT];exact hn) b8 K2;have r2:R B E w0 N ki a w' ⟨fun b=>Im' b\/S b,G.g⟩:=r.step (v1.trans b9) (fun m hm=>by rw[v2,lT];exact hm) K0 H2 wO;have KH:∀{ls:List (Bool×List ah)},kt rs=some ls->σ1=ki.put o.dst (mr ls)->(match(Ending.returned (BP bt)) with|.returned v=>Nx B E w0 N σ1 (a.put o.dst v) w'|_=>True):=by
     intro ls qP hs;subst hs;rw[<-p1] at qP;obtain⟨rfl,Hd⟩:=Qt qP;refine⟨_,r2.put (ash (by simp) (fun j x p hj hp=>?_)) (fun q hq=>?_) hN⟩
     ·rw[List.getElem?_map,hp] at hj;simp at hj;subst hj;have hm:=List.mem_of_getElem? hp;have cC:dj w' ⟨fun b=>Im' b\/S b,G.g⟩ ki.h (p.ps.map fun pc=>ah.c pc.er) (p.ps.map PC.val):=by
       refine⟨by simp,fun j c u hj hu=>?_⟩;rw[List.getElem?_map] at hj hu;cases kO:p.ps[j]? with
       |none=>rw[kO] at hj;cases hj
       |some pc=>
        rw[kO] at hj hu;simp at hj hu;subst hj hu;obtain⟨g1,g2⟩:=aag p hm pc (List.mem_of_getElem? kO);exact⟨PC.jP pc,pc,rfl,rfl,g1,g2⟩
      have wT:=p4.one p hm;have A6:=Hd p hm;obtain⟨k,ps,b,o'⟩:=p;cases k with
      |ptr=>exact absurd rfl A6
      |agg=>exact⟨ps.map PC.val,rfl,cC⟩
      |one=>
       have h2:=wT rfl;match ps,h2 with
       |[p],_=>exact cC
     ·exfalso;refine asv (fun x hx c hc hq=>?_) hq;obtain⟨p,_,rfl⟩:=List.mem_map.1 hx;obtain⟨pc,_,rfl⟩:=List.mem_map.1 hc;exact hq
    unfold rT at hx;split at hx
    ·rename_i cs;split at hx
     ·rename_i q hq;split at hx
      ·rename_i τ3 Ln;injection hx with hx;subst hx;obtain⟨u1,rfl⟩:=kx Ln;obtain⟨p,rfl⟩:∃p,bt=[p]:=by
        have h1:bt.length=1:=by have:=congrArg List.length p1;simpa using this
        exact List.length_eq_one_iff.1 h1
       simp at p1;obtain⟨hk,fi⟩:=p1;obtain⟨_,q1,q2,q3,q4,q5⟩:=p4.ptr p (by simp) hk;subst fi;have aau:oI ⟨fun b=>Im' b\/S b,G.g⟩ ki.h p.b:=by
        refine⟨fun hi=>?_,fun m hm hl he=>?_,fun m gr mo sz xs hm hF=>?_⟩
        ·rcases hi with hi|⟨_,hi⟩
         ·have:=b7.gH _ hi;omega
         ·rcases hi with⟨p',bB,pc,bi,hb⟩|⟨pc,bi,hb⟩
          ·simp at bB;subst bB;exact q4 pc bi hb
          ·exact q5 pc bi hb
        ·have hd:=H2.jh m hm;obtain⟨k0,k1,k2,_⟩:=K2.name m (by rw[<-v2];exact hd) hm;have eQ:(G.g m).nl=false:=hl;have:=(b7.own m k0 eQ).2.2;have DM:(G.g m).b=p.b:=he;have h7:(⟨Im',G.g⟩:Gh).g m=G.g m:=rfl;rw[h7] at this;omega
        ·have hd:=H2.jh m (by rw[hm];simp);have eH:∃bo jI aF av,oH.h m=some (.row bo jI aF av):=by
          rcases TS nZ with⟨h1,h2,h3⟩|⟨n,cs,h1,h2,h3,h4⟩
          ·subst h3;exact⟨_,_,_,_,hm⟩
          ·subst h4;by_cases bJ:m=n
           ·subst bJ;have:az oH.h m (some (aq.box (out.map ah.c))) m=_:=hm;rw[bR] at this;cases this
           ·have:az oH.h n (some (aq.box (out.map ah.c))) m=_:=hm;rw[cN _ _ _ _ bJ] at this;exact⟨_,_,_,_,this⟩
         obtain⟨bo,jI,aF,av,bP⟩:=eH;have hF':bh p.b (G.g m).px:=hF;have:=b7.po bP hF';omega
       have Hn:HR B E w' ⟨fun b=>Im' b\/S b,az G.g q ⟨false,p.b,p.o,0,[],none⟩⟩ (az ki.h q (some (.box ((p.ps.map PC.er).map .c)))) (az ki.used q true) []:=by
        refine H2.insert (w':=w') u1 (fun _ _=>rfl) (Nat.le_refl _) (fun _=>⟨aau,.inl (Nat.le_trans hB q1),q2.lt⟩) (fun cs' c m hb dt hm=>?_) ⟨rfl,q2,fun j c hj=>?_⟩ (fun gr m sz xs hb=>by cases hb) (fun gr sz xs hb=>by cases hb) (fun gr m sz xs hb=>by cases hb)
        ·injection hb with hb;subst hb;obtain⟨x,_,rfl⟩:=List.mem_map.1 dt;exact absurd hm id
        ·rw[List.getElem?_map,List.getElem?_map] at hj;cases hp:p.ps[j]? with
         |none=>rw[hp] at hj;cases hj
         |some pc=>
          rw[hp] at hj;simp at hj;subst hj;obtain⟨g1,g2⟩:=aag p (by simp) pc (List.mem_of_getElem? hp);exact⟨pc.val,q3 j pc hp,PC.jP pc,pc,rfl,rfl,g1,g2⟩
       have r3:=r2.step (σ':={ki with h:=az ki.h q (some (.box ((p.ps.map PC.er).map .c))),used:=az ki.used q true}) rfl (fun m hm=>oF q m hm) (bm.insert H2 u1 (fun _ _=>rfl)) Hn wO
       have hv:BP [p]=.pointer (some (ad p.b p.o)):=by
        obtain⟨k,ps,b,o'⟩:=p;simp only at hk;subst hk;rfl
       rw[hv];exact⟨_,r3.put (RA.fC (c:=.ptr q 0 0 0) rfl (show az ki.h q _ q≠none->(az G.g q _ q).nl=false/\_=_ from fun _=>by simp[bR])) (fun m hm=>by have bP:m=q:=hm;subst bP;exact bR _ _ _) hN⟩
      ·cases hx
     ·cases hx
    ·split at hx
     ·rename_i ls qP;injection hx with hx;exact KH qP hx.symm
     ·cases hx
   ·cases hx
  ·cases hx
 ·cases hx
theorem Yw (r:R B E w0 N σ a w G) {T:aQ} (hT:CR P T) {f:FuncId} {xs:Array Operand} {ms:List MO} {ts:Array TypeId} {σ1:St} (hN:∀n,o.dst=some n->n<N)
  (ho:o.op=.call {callee:=.value (.func f),args:=xs,argTypes:=ts}) (hf:bS P f=true) (hm:iC xs.toList ms=true)
  (hx:rY T o.dst f (ms.map σ.ev) σ=some σ1):o.wp P a w (Nx B E w0 N σ1) Q:=by
 obtain⟨e1,e2⟩:=r.Az hm;have R7:∀x∈ms.map σ.ev,∀m,x.ref m->σ.used m=true:=by
  have cW:∀{xs:List Operand} {ms:List MO},iC xs ms=true->∀x∈ms.map σ.ev,∀m,x.ref m->σ.used m=true:=by
   intro xs ms;induction ms generalizing xs with
   |nil=>intro _ x hx;simp at hx
   |cons m0 ms ih=>
    intro hc x hx m hm;cases xs with
    |nil=>simp[iC] at hc
    |cons y ys=>
     simp only[iC,Bool.and_eq_true] at hc;simp only[List.map_cons,List.mem_cons] at hx;rcases hx with rfl|hx
     ·exact(r.ev hc.1).2 m hm
     ·exact ih hc.2 x hx m hm
  exact cW hm
 refine ai8 r hT (vals:=xs.toList.map a.eval) hN ?_ (by simpa using e1) e2 R7 hx;have he:(xs.toList.map a.eval).toArray=xs.map a.eval:=by apply Array.ext';simp
 rw[he];simp[execOp,ho,resolve,Deferred.ofValue,invoke,Act.eval,BT hf]
theorem R.uT (r:R B E w0 N σ a w G) {p:ah} (hx:σ.uT p=some σ'):∃G',R B E w0 N σ' a w G'/\σ'.env=σ.env:=by
 unfold St.uT at hx;split at hx
 ·rename_i n k sz off;split at hx
  ·rename_i cs hn;split at hx
   ·rename_i xs ow σ1 ht;injection hx with hx;subst hx;obtain⟨vs,v1,v2⟩:=r.hr.Kq hn;obtain⟨z9,bD,a1,a2,a3,a5,a6,a7,a8,a9⟩:=r.hr.gC ht v1 (fun c hc m hm=>r.hr.ik n cs c m hn hc hm);have uF:HR B E w ⟨z9,G.g⟩ σ1.h σ.used []:=by
     cases ow with
     |true=>exact HR.xT (tk:=[]) (l:=bD) (by simpa using a5)
     |false=>simpa using a5
    have lG:=Wo ht hn;obtain⟨b1,b2⟩:=uF.Xu (w':=w) (cs':=xs.map .c) lG (Nat.le_refl _) (fun _ _ _=>rfl) (fun b _=>Cz.refl w b) (S:=fun _=>False) (fun b hb=>hb.elim) (ps:=bD)
     (by rw[<-a1,List.map_map];rfl) (fun j c hj=>by
      have:=v2 j c.val (by rw[<-a2,List.getElem?_map,hj];rfl);exact this) (fun pc bi=>⟨(a3 pc bi).1,fun b hb=>.inl ((a3 pc bi).2 b hb)⟩)
    have hk:=bm.trans (fun _ h=>h) a6 b2;refine⟨_,r.step a7 (fun q hq=>by rw[show(σ1.eE n (.box (xs.map .c))).used=σ1.used from rfl,a8];exact hq) hk ?_ r.fr,a7⟩
    show HR B E w _ _ σ1.used [];rw[a8];exact b1
   ·cases hx
  ·cases hx
 ·cases hx
end
def CU (P:Program) (f:FuncId) (sig:aK) (M:List Dv->Option (Nat×Nat)):Prop:=
 ∀ds lo len,M ds=some (lo,len)->∀(w:World) (vals:List Value) (pas:List PA),yi w sig ds vals pas->Calls P f vals.toArray w fun e w'=>
  ∃(m:Mode) (sz cap:Nat) (a:Option Addr) (xs:List (List PC)) (v:Value),eI sig (pas.map (·.ps))=[(m,.list sz a cap xs)]/\e=.returned v/\xs≠[]/\
   (∃(b o:Nat) (a':Option Addr),a=some (ad b o)/\v=.slice a' len (cap - lo)/\lo+len<=cap/\((lo<cap\/lo=0)->a'=some (ad b (o+lo*sz))))/\
   Fr w.heap.size (AD [(m,.list sz a cap xs)]) w w'/\∃q:PC,q.er=(PC.list sz a cap xs).er/\th w' m (.list sz a cap xs) q
def W3 (P:Program) (f:FuncId) (i:Nat) (M:List Dv->Option (List Dv×List C)):Prop:=
 ∀(lo len:Nat) (ds rs:List Dv) (d7:List C) (ys:List (List C)),M (dI lo::dI (lo+len)::ds)=some (rs,d7)->ds[i]? =some (.one,[.list 1 ys])->∀(w:World) (vals:List Value) (pas:List PA),yi w (zY i) ds vals pas->
  ∀(b o cap n:Nat) (a':Option Addr),vals[i]? =some (.slice (some (ad b o)) n cap)->0<n->lo+len<=n->((lo<cap\/lo=0)->a'=some (ad b (o+lo*1)))->
  Calls P f (vals.set i (.slice a' len (cap - lo))).toArray w (Pz w (zY i) pas rs d7)
def yj (P:Program) (T:aQ):Prop:=(∀f sig M,aQ.tB T.ws f=some (sig,M)->CU P f sig M)/\∀f i M,aQ.tC T.xs f=some (i,M)->W3 P f i M
section
variable {B:Nat} {E:Ex} {w0 w w':World} {G G':Gh} {N:Nat} {h h':Nat->Option aq} {used used':Nat->Bool} {tk:List PC}
variable {P:Program} {o:Oper} {a:Act} {σ σ':St} {Q:Exit->Act->World->Prop}
theorem ajc (r:R B E w0 N σ a w G) {T:aQ} (hT:yj P T) {f:FuncId} {as:List aj} {vals:List Value} {v0:aj} (hN:∀n,o.dst=some n->n<N)
  (bE:(execOp a.eval o).run P w=.ok (.enter f vals.toArray) w) (hl:vals.length=as.length)
  (nT:∀(j:Nat) (x:aj) (v:Value),as[j]? =some x->vals[j]? =some v->RA w G σ.h x v)
  (hx:qE T f as σ.h=some v0):o.wp P a w (Nx B E w0 N (σ.put o.dst v0)) Q:=by
 have H:=r.hr;unfold qE at hx;split at hx
 ·rename_i sig M dc hM GR;split at hx
  ·rename_i n0 auH;split at hx
   ·rename_i ds n md hv;split at hx
    ·rename_i he;subst he;split at hx
     ·rename_i gr mo sz xs lo len eH sd;injection hx with hx;subst hx;obtain⟨nq,GL⟩:=Tg GR hl nT;obtain⟨pas,q1,q2,q3,q4,q5,q6,q7⟩:=H.mS hv nq GL;have u9:([((dD.row n:dD),md)].filterMap (·.1.eV)).Nodup:=by simp[dD.eV]
      generalize u4:eI sig (pas.map (·.ps))=fl at q5;obtain⟨x,rfl⟩:∃x,fl=[x]:=by
       match fl,q5.len with
       |[x],_=>exact⟨x,rfl⟩
      obtain⟨Lw,yP⟩:=q5.at_ 0 _ x rfl rfl;have cG:=yP.at_;obtain⟨bo,jI,aF,av,e1,e2,e3,e4,e5⟩:=cG;rw[eH] at e1;injection e1 with e1;injection e1 with a1 a2 a3 a4;subst a1 a2 a3 a4;have bN:σ.h n≠none:=by rw[eH];simp
      have hr:=H.row n gr mo sz xs eH;have lE:∀b,aZ b x.2->tD G n b/\((∀b,¬bh b (G.g n).px)\/mo=.live):=by
       intro b hb;obtain⟨n',bo,m',aF,av,f1,f2,f3,f4,f5⟩:=yP.oP H hb;have:n'=n:=by injection f1 with f1;exact f1.symm
       subst this;rw[eH] at f2;injection f2 with f2;injection f2 with _ f2 _ _;subst f2;exact⟨f4,f5⟩
      have Ti:yi w sig ds vals pas:=by
       refine⟨q2,q1,q3,fun y hy=>?_,?_,fun pc bi y hy b hb aL=>?_,fun p hp hk=>absurd hk (q4 p hp),fun i p s hp _ hk=>absurd hk (q4 p (List.mem_of_getElem? hp))⟩
       ·rw[u4,List.mem_singleton] at hy;subst hy;exact yP.ok
       ·rw[u4];simp
       ·rw[u4,List.mem_singleton] at hy;subst hy;obtain⟨f4,f5⟩:=lE b aL;rcases q7 pc bi b hb with hi|⟨n',bo,m',aF,av,bu,nM,wC⟩
        ·rcases f4 with⟨aR,rfl⟩|hF
         ·exact(H.own n bN aR).1 hi
         ·rcases f5 with f5|rfl
          ·exact f5 b hF
          ·exact(hr.mode.1 b hF).1 hi
        ·have aD:n'≠n:=fun e=>bu (by rw[e];simp);exact H.GH aD nM eH f5 wC f4
      unfold Oper.wp;rw[bE];refine(hT.1 f sig M hM ds lo len sd w vals pas Ti).mono fun e w' ⟨m1,ug,C8,PJ,td,v,p1,p2,p3,⟨lb,lo1,la,l1,l2,l3,l4⟩,p4,q,p5,p6⟩=>?_;subst p2;rw[u4] at p1;injection p1 with p1 _;subst p1;dsimp only at e4;have si:∀b,AD [(m1,PC.list ug PJ C8 td)] b->(B<=b\/E b):=by
       rintro b ⟨y,hy,hb⟩;rw[List.mem_singleton] at hy;subst hy;rcases(lE b hb).1 with⟨aR,rfl⟩|hF
       ·exact(H.own n bN aR).2.1
       ·have gj:=hr.mode;cases mo with
        |aJ=>exact absurd rfl e2
        |aN=>exact(gj.1 b hF).2.2
        |live=>exact(gj.1 b hF).2.2
      have aar:(uY G [((dD.row n:dD),md)] [q]).g n=zu (G.g n) (.row n) q:=aae u9 (i:=0) (it:=(.row n,md)) rfl rfl rfl;have hqe:q.er=.list sz xs:=by rw[p5,e4];exact ad5 hr
      have p6':=p6;rw[e4] at p6;obtain⟨tg,K,_⟩:=H.HO (G':=uY G [((dD.row n:dD),md)] [q]) (h':=σ.h) (w':=w') (S:=fun k=>k=n) p4.size (fun b hb cm=>p4.block b hb (by
        rintro⟨y,hy,nU⟩;rw[List.mem_singleton] at hy;subst hy;exact cm n rfl (lE b nU).1)) (fun b hb=>p4.jO b hb) rfl (fun k hk=>by
        subst hk;exact⟨gr,mo,sz,xs,xs,eH,eH,by rw[aar];exact XF H eH e2 e3 e5.1 e5.2 p6 hqe⟩)
       (fun k hk=>⟨rfl,aaf (by simp[dD.eV];exact hk)⟩)
      have wO:Fr B E w0 w':=by
       refine⟨p4.os.trans r.fr.os,p4.tape.trans r.fr.tape,p4.output.trans r.fr.output,Nat.le_trans r.fr.size p4.size,fun b hb he=>?_,fun b hb=>?_⟩
       ·refine(p4.block b (Nat.lt_of_lt_of_le hb r.fr.size) fun hx=>?_).trans (r.fr.block b hb he);rcases si b hx with h1|h1
        ·omega
        ·exact he h1
       ·exact(r.fr.jO b hb).trans (p4.jO b (Nat.lt_of_lt_of_le hb r.fr.size))
      have r2:R B E w0 N σ a w' (uY G [((dD.row n:dD),md)] [q]):=r.step rfl (fun _ h=>h) K tg wO;refine⟨_,r2.put (RA.fC ?_ ?_) (fun k hk=>?_) hN⟩
      ·rw[l2];rfl
      ·show σ.h n≠none->gE _ sz lo len v;intro _;have hq:PC.list ug PJ C8 td=pq sz (G.g n):=e4;unfold pq at hq;injection hq with g1 g2 g3 g4;subst g1 g3 g4;have aR:(G.g n).nl=false:=by
        cases h0:(G.g n).nl with
        |false=>rfl
        |true=>exact absurd (hr.nl h0).1 p3
       rw[aR] at g2;have g2:PJ=some (ad (G.g n).b (G.g n).o):=g2;rw[l1] at g2;injection g2 with g2;obtain⟨rfl,rfl⟩:=lz g2;obtain⟨jd,ad2,uI,px2,rfl⟩:=PC.S7 p6.val rfl;rw[aar];exact .inr ⟨aR,la,l2,l3,l4⟩
      ·have bL:k=n:=hk;subst bL;exact r.hr.jh k bN
     ·cases hx
    ·cases hx
   ·cases hx
  ·cases hx
 ·cases hx
theorem ai1 (r:R B E w0 N σ a w G) {T:aQ} (hT:yj P T) {f:FuncId} {xs:Array Operand} {ms:List MO} {ts:Array TypeId} {v0:aj} (hN:∀n,o.dst=some n->n<N)
  (ho:o.op=.call {callee:=.value (.func f),args:=xs,argTypes:=ts}) (hf:bS P f=true) (hm:iC xs.toList ms=true)
  (hx:qE T f (ms.map σ.ev) σ.h=some v0):o.wp P a w (Nx B E w0 N (σ.put o.dst v0)) Q:=by
 obtain⟨e1,e2⟩:=r.Az hm;refine ajc r hT (vals:=xs.toList.map a.eval) hN ?_ (by simpa using e1) e2 hx;have he:(xs.toList.map a.eval).toArray=xs.map a.eval:=by apply Array.ext';simp
 rw[he];simp[execOp,ho,resolve,Deferred.ofValue,invoke,Act.eval,BT hf]
theorem auv {h:Nat->Option aq} {x:aj} {n lo len N:Nat} (hx:Fy h x=some (n,lo,len,N)):x=.one (.sl n 1 lo len)/\∃gr m xs,h n=some (.row gr m 1 xs)/\N=xs.length/\lo<N/\lo+len<=N:=by
 unfold Fy at hx;split at hx
 ·rename_i n' s sJ qd;split at hx
  ·rename_i gr m rs xs hn;split at hx
   ·rename_i hc;obtain⟨rfl,rfl,h1,h2⟩:=hc;injection hx with hx;injection hx with e1 e2;injection e2 with e2 e3;injection e3 with e3 e4;subst e1 e2 e3 e4;exact⟨rfl,gr,m,xs,hn,rfl,h1,h2⟩
   ·cases hx
  ·cases hx
 ·cases hx
theorem ajd (r:R B E w0 N σ a w G) {T:aQ} (hT:yj P T) {m:Mode} {f:FuncId} {as:List aj} {vals:List Value} {σ1:St} (hN:∀n,o.dst=some n->n<N)
  (bE:(execOp a.eval o).run P w=.ok (.enter f vals.toArray) w) (hl:vals.length=as.length)
  (nT:∀(j:Nat) (x:aj) (v:Value),as[j]? =some x->vals[j]? =some v->RA w G σ.h x v)
  (hx:wB T m o.dst f as σ=some σ1):o.wp P a w (Nx B E w0 N σ1) Q:=by
 have H:=r.hr;unfold wB at hx;split at hx
 ·rename_i i M hM;split at hx
  ·rename_i x hi;split at hx
   ·rename_i n lo len L eH;obtain⟨rfl,gr,md,xs,hn,rfl,qO,gG⟩:=auv eH;have nW:i<as.length:=(List.getElem?_eq_some_iff.1 hi).1;have Lo:i<vals.length:=by omega
    have hv:vals[i]? =some vals[i]:=List.getElem?_eq_getElem Lo;have hra:=nT i _ _ hi hv;have gY:gE (G.g n) 1 lo len vals[i]:=(hra.fu (by simp)).1 (by rw[hn];simp);have hr:=H.row n gr md 1 xs hn;have fw:(G.g n).px.length=xs.length:=by rw[hr.er];simp
    have aR:(G.g n).nl=false:=by
     cases h0:(G.g n).nl with
     |false=>rfl
     |true=>
      have:=(hr.nl h0).1;rw[this] at fw;simp at fw;omega
    obtain⟨l1,l2,l3⟩:=hr.eK aR;rcases gY with⟨h0,_⟩|⟨_,ya,hva,io,akR⟩
    ·rw[aR] at h0;cases h0
    refine Yx r (as:=as.set i (.one (.sl n 1 0 xs.length))) (vals:=vals.set i (.slice (some (ad (G.g n).b (G.g n).o)) xs.length (G.g n).cap)) (vals':=vals)
     (fun sig M' sd ds rs d7 h pas hm=>?_) hN bE (by simp[hl]) (fun j x v hj yR=>?_) hx
    ·have DA:(zY i,xM i lo (lo+len) M)=(sig,M'):=by
      simp only[aQ.nQ,if_true] at sd;injection sd
     injection DA with q1 q2;subst q1 q2;unfold xM at h;split at h
     ·rename_i ys jl;have:=hT.2 f i M hM lo len ds rs d7 ys h jl w _ pas hm (G.g n).b (G.g n).o (G.g n).cap xs.length ya (by rw[List.getElem?_set_self Lo]) (by omega) gG akR;have e:(vals.set i (.slice (some (ad (G.g n).b (G.g n).o)) xs.length (G.g n).cap)).set i (.slice ya len ((G.g n).cap - lo))=vals:=by
       rw[List.set_set,<-hva];exact List.set_getElem_self Lo
      rw[e] at this;exact this
     ·cases h
    ·by_cases kM:j=i
     ·subst kM;rw[List.getElem?_set_self nW] at hj;rw[List.getElem?_set_self Lo] at yR;injection hj with hj;injection yR with yR;subst hj yR;refine RA.fC rfl (fun _=>.inr ⟨aR,_,rfl,by omega,fun _=>by simp⟩)
     ·rw[List.getElem?_set_ne (fun h=>kM h.symm)] at hj yR;exact nT j x v hj yR
   ·cases hx
  ·cases hx
 ·cases hx
theorem ai2 (r:R B E w0 N σ a w G) {T:aQ} (hT:yj P T) {m:Mode} {f:FuncId} {xs:Array Operand} {ms:List MO} {ts:Array TypeId} {σ1:St} (hN:∀n,o.dst=some n->n<N)
  (ho:o.op=.call {callee:=.value (.func f),args:=xs,argTypes:=ts}) (hf:bS P f=true) (hm:iC xs.toList ms=true)
  (hx:wB T m o.dst f (ms.map σ.ev) σ=some σ1):o.wp P a w (Nx B E w0 N σ1) Q:=by
 obtain⟨e1,e2⟩:=r.Az hm;refine ajd r hT (vals:=xs.toList.map a.eval) hN ?_ (by simpa using e1) e2 hx;have he:(xs.toList.map a.eval).toArray=xs.map a.eval:=by apply Array.ext';simp
 rw[he];simp[execOp,ho,resolve,Deferred.ofValue,invoke,Act.eval,BT hf]
end
def Dd:Option Operand->Option MO->Bool
 |none,none=>true
 |some x,some m=>bU x m
 |_,_=>false
def rU (P:Program) (t:TypeId) (sz:Nat) (k:TypeInfo->Value->Bool):Bool:=
 match P.underlying t with
 |some (.slice e)=>match P.info? e with
  |some i=>match i.zero with
   |some z=>i.size==sz&&decide (0<sz)&&k i z
   |none=>false
  |none=>false
 |_=>false
theorem tx {P:Program} {t:TypeId} {sz:Nat} {k:TypeInfo->Value->Bool} (h:rU P t sz k=true):
  ∃e i z,P.underlying t=some (.slice e)/\P.info? e=some i/\i.zero=some z/\i.size=sz/\0<sz/\k i z=true:=by
 unfold rU at h;split at h
 ·rename_i e he;split at h
  ·rename_i i hi;split at h
   ·rename_i z hz;simp only[Bool.and_eq_true,beq_iff_eq,decide_eq_true_eq] at h;exact⟨e,i,z,he,hi,hz,h.1.1,h.1.2,h.2⟩
   ·cases h
  ·cases h
 ·cases h
def KA (P:Program) (t:TypeId) (zs:List ah):Bool:=
 match P.info? t with
 |some i=>match i.zero with
  |some z=>uK z.cells.toList zs
  |none=>false
 |none=>false
theorem XN {P:Program} {t:TypeId} {zs:List ah} (h:KA P t zs=true):∃i z,P.info? t=some i/\i.zero=some z/\uK z.cells.toList zs=true:=by
 unfold KA at h;split at h
 ·rename_i i hi;split at h
  ·rename_i z hz;exact⟨i,z,hi,hz,h⟩
  ·cases h
 ·cases h
def XG (P:Program) (t:TypeId) (parts:List (Nat×Operand)) (zs:List ah) (ms:List (Nat×Nat×MO)):Bool:=
 match P.underlying t with
 |some (.struct yE)=>match yE.toList.mapM (fun f=>(P.info? f.type).map fun i=>(f.offset,i.size)) with
  |some places=>KA P t zs&&Ai places parts ms
  |none=>false
 |_=>false
def Kz (P:Program) (t:TypeId) (sz:Nat):Bool:=
 match P.info? t with
 |some i=>i.size==sz&&decide (0<sz)
 |none=>false
def XJ (P:Program) (t u:TypeId) (k:IntKind):Bool:=
 match P.underlying t,P.underlying u with
 |some _,some (.int k')=>k==k'
 |_,_=>false
def aaY (P:Program) (t:TypeId):Bool:=
 match P.underlying t with
 |some .bool=>true
 |_=>false
def e9 (P:Program) (o:Oper) (mo:aT):Bool:=
 match mo,o.op with
 |.mv m,.move x=>bU x m
 |.mv m,.assign x=>bU x m
 |.pick c x y,.pick c' x' y'=>bU c' c&&bU x' x&&bU y' y
 |.alloc zs,.alloc e=>KA P e zs
 |.box sz m,.box e x=>bU x m
 |.build zs ms,.build t parts=>XG P t parts.toList zs ms
 |.fI sz ms,.buildSlice t len parts=>rU P t sz (fun _ _=>true)&&(ms.length==len)&&decide (parts.toList.map (·.1)=List.range len)&&decide (len*sz<=16777216)&&iC (parts.toList.map (·.2)) ms
 |.load ag sz m,.load t x=>bU x m&&Dc P t ag sz
 |.store sz mx my,.store t x y=>o.dst.isNone&&bU x mx&&bU y my&&Kz P t sz
 |.qi m,.nilCheck x=>bU x m
 |.bin op mx my,.binOp zv t x y t'=>decide (op=zv)&&bU x mx&&bU y my
 |.nI op mx my,.binOp zv t x y t'=>decide (op=zv)&&bU x mx&&bU y my&&aaY P t
 |.un op mx,.unOp zv t x=>decide (op=zv)&&bU x mx
 |.conv k mx,.convert t u x=>bU x mx&&XJ P t u k
 |.iK m sz by_ zs ml mc,.makeSlice t l c=>bU l ml&&bU c mc&&rU P t sz (fun i z=>(i.bytes==by_)&&decide (0<by_)&&wu z.cells.toList zs)
 |.slice sz mx Ms Mp,.slice t x lo hi none=>bU x mx&&Dd lo Ms&&Dd hi Mp&&rU P t sz (fun _ _=>true)
 |.nP off mx,.fieldAddr s x f=>bU x mx&&Ga P s f off
 |.nw sz mx mi,.indexAddr t x i=>bU x mx&&bU i mi&&rU P t sz (fun _ _=>true)
 |.ext i mx,.extract x j=>(i==j)&&bU x mx
 |.len mx,.call c=>match c.callee,c.args.toList,c.argTypes.toList with
  |.builtin .len,[x],[t]=>bU x mx&&(match P.underlying t with|some (.slice _)=>true|_=>false)
  |_,_,_=>false
 |.append fl sz by_ mx my,.call c=>match c.callee,c.args.toList,c.argTypes.toList with
  |.builtin .append,[x,y],[t,t']=>(t==t')&&bU x mx&&bU y my&&rU P t sz (fun i z=>(i.bytes==by_)&&decide (0<by_)&&(z.cells.size==sz))
  |_,_,_=>false
 |.copy sz mx my,.call c=>match c.callee,c.args.toList,c.argTypes.toList with
  |.builtin .copy,[x,y],[t,t']=>(sz==1)&&bU x mx&&bU y my&&rU P t 1 (fun _ _=>true)
  |_,_,_=>false
 |.mG zc mx,.call c=>match c.callee,c.args.toList,c.argTypes.toList with
  |.builtin .clear,[x],[t]=>bU x mx&&rU P t 1 (fun _ z=>wu z.cells.toList [zc])
  |_,_,_=>false
 |.mm b mx my,.call c=>match c.callee,c.args.toList with
  |.builtin .max,[x,y]=>b&&bU x mx&&bU y my
  |.builtin .min,[x,y]=> !b&&bU x mx&&bU y my
  |_,_=>false
 |.call m f ms,.call c=>match c.callee with
  |.value (.func g)=>(f==g)&&bS P f&&iC c.args.toList ms
  |_=>false
 |.gU m f ms,.call c=>match c.callee with
  |.value (.func g)=>(f==g)&&bS P f&&iC c.args.toList ms
  |_=>false
 |.km f ms,.call c=>match c.callee with
  |.value (.func g)=>(f==g)&&bS P f&&iC c.args.toList ms
  |_=>false
 |.m6 f ms,.call c=>match c.callee with
  |.value (.func g)=>(f==g)&&bS P f&&iC c.args.toList ms
  |_=>false
 |.m5 f ms,.call c=>match c.callee with
  |.value (.func g)=>(f==g)&&bS P f&&iC c.args.toList ms
  |_=>false
 |.nJ m f ms,.call c=>match c.callee with
  |.value (.func g)=>(f==g)&&bS P f&&iC c.args.toList ms
  |_=>false
 |.pM m f mx ms,.call c=>match c.callee with
  |.value (.tmp t)=>bS P f&&bU (.tmp t) mx&&iC c.args.toList ms
  |_=>false
 |_,_=>false
theorem Qc:∀{xs:List Operand} {ms:List MO},iC xs ms=true->xs.length=ms.length/\∀(j:Nat) (x:Operand) (m:MO),xs[j]? =some x->ms[j]? =some m->bU x m=true
 |[],[],_=>⟨rfl,by simp⟩
 |x::xs,m::ms,hc=>by
  simp only[iC,Bool.and_eq_true] at hc;obtain⟨i1,i2⟩:=Qc hc.2;refine⟨by simp[i1],fun j x' m' hj hm=>?_⟩;cases j with
  |zero=>simp at hj hm;subst hj;subst hm;exact hc.1
  |succ j=>exact i2 j x' m' (by simpa using hj) (by simpa using hm)
 |[],_::_,hc=>by simp[iC] at hc
 |_::_,[],hc=>by simp[iC] at hc
section
variable {B:Nat} {E:Ex} {w0 w w':World} {G G':Gh} {h h':Nat->Option aq} {used used':Nat->Bool} {tk:List PC} {N:Nat}
variable {P:Program} {o:Oper} {a:Act} {σ σ':St} {Q:Exit->Act->World->Prop}
theorem ajm (r:R B E w0 N σ a w G) {T:aQ} (DC:CR P T) {f:FuncId} {ms:List MO} (hN:∀n,o.dst=some n->n<N) (hc:e9 P o (.m5 f ms)=true) (hx:exec T o.dst (.m5 f ms) σ=some σ'):o.wp P a w (Nx B E w0 N σ') Q:=by
 obtain⟨dst,op,ty,pos,after,guard⟩:=o;cases op<;>simp only[e9] at hc<;>first|cases hc|skip
 rename_i c;obtain⟨callee,args,argTypes⟩:=c;split at hc
 ·rename_i g cC;simp only at cC;subst cC;simp only[Bool.and_eq_true,beq_iff_eq] at hc;obtain⟨⟨rfl,c1⟩,c2⟩:=hc;simp only[exec] at hx;split at hx
  ·rename_i v0 w9;injection hx with hx;subst hx;exact Yw r DC hN rfl c1 c2 (aiy w9 σ)
  ·cases hx
 ·cases hc
theorem ajn (r:R B E w0 N σ a w G) {T:aQ} (DD:yj P T) {f:FuncId} {ms:List MO} (hN:∀n,o.dst=some n->n<N) (hc:e9 P o (.m6 f ms)=true) (hx:exec T o.dst (.m6 f ms) σ=some σ'):o.wp P a w (Nx B E w0 N σ') Q:=by
 obtain⟨dst,op,ty,pos,after,guard⟩:=o;cases op<;>simp only[e9] at hc<;>first|cases hc|skip
 rename_i c;obtain⟨callee,args,argTypes⟩:=c;split at hc
 ·rename_i g cC;simp only at cC;subst cC;simp only[Bool.and_eq_true,beq_iff_eq] at hc;obtain⟨⟨rfl,c1⟩,c2⟩:=hc;simp only[exec] at hx;split at hx
  ·rename_i v0 w9;injection hx with hx;subst hx;exact ai1 r DD hN rfl c1 c2 w9
  ·cases hx
 ·cases hc
theorem ajo (r:R B E w0 N σ a w G) {T:aQ} (DD:yj P T) {m:Mode} {f:FuncId} {ms:List MO} (hN:∀n,o.dst=some n->n<N) (hc:e9 P o (.nJ m f ms)=true) (hx:exec T o.dst (.nJ m f ms) σ=some σ'):o.wp P a w (Nx B E w0 N σ') Q:=by
 obtain⟨dst,op,ty,pos,after,guard⟩:=o;cases op<;>simp only[e9] at hc<;>first|cases hc|skip
 rename_i c;obtain⟨callee,args,argTypes⟩:=c;split at hc
 ·rename_i g cC;simp only at cC;subst cC;simp only[Bool.and_eq_true,beq_iff_eq] at hc;obtain⟨⟨rfl,c1⟩,c2⟩:=hc;simp only[exec] at hx;exact ai2 r DD hN rfl c1 c2 hx
 ·cases hc
theorem ajl (r:R B E w0 N σ a w G) {T:aQ} (DC:CR P T) {f:FuncId} {ms:List MO} (hN:∀n,o.dst=some n->n<N) (hc:e9 P o (.km f ms)=true) (hx:exec T o.dst (.km f ms) σ=some σ'):o.wp P a w (Nx B E w0 N σ') Q:=by
 obtain⟨dst,op,ty,pos,after,guard⟩:=o;cases op<;>simp only[e9] at hc<;>first|cases hc|skip
 rename_i c;obtain⟨callee,args,argTypes⟩:=c;split at hc
 ·rename_i g cC;simp only at cC;subst cC;simp only[Bool.and_eq_true,beq_iff_eq] at hc;obtain⟨⟨rfl,c1⟩,c2⟩:=hc;simp only[exec] at hx;exact Yw r DC hN rfl c1 c2 hx
 ·cases hc
set_option maxHeartbeats 1000000 in
theorem YC (r:R B E w0 N σ a w G) {T:aQ} (hT:I3 P T) (hTM:CQ P T) (DC:CR P T) (DD:yj P T) (hF:∀f M,aQ.find T.pure f=some M->bS P f=true) {mo:aT} (hN:∀n,o.dst=some n->n<N) (hc:e9 P o mo=true) (hx:exec T o.dst mo σ=some σ'):
  o.wp P a w (Nx B E w0 N σ') Q:=by
 obtain⟨dst,op,ty,pos,after,guard⟩:=o;cases mo with
 |mv m=>
  simp only[exec] at hx;injection hx with hx;subst hx;cases op<;>simp only[e9] at hc<;>first|cases hc|skip
  ·exact YA r (.inl rfl) hN hc
  ·exact YA r (.inr rfl) hN hc
 |pick c x y=>
  cases op<;>simp only[e9] at hc<;>first|cases hc|skip
  rename_i c' x' y';simp only[Bool.and_eq_true] at hc;simp only[exec] at hx;split at hx
  ·rename_i b hb;have:=ajp (P:=P) (Q:=Q) r (o:=⟨dst,.pick c' x' y',ty,pos,after,guard⟩) rfl hN hc.1.1 hc.1.2 hc.2 hb;cases b<;>simp at hx<;>subst hx<;>exact this
  ·cases hx
 |alloc zs=>
  cases op<;>simp only[e9] at hc<;>first|cases hc|skip
  obtain⟨i,z,h1,h2,h3⟩:=XN hc;simp only[exec] at hx;split at hx
  ·rename_i n;split at hx
   ·rename_i σ1 hi;injection hx with hx;subst hx;exact aiO r rfl rfl (hN n rfl) h1 h2 h3 hi
   ·cases hx
  ·cases hx
 |box sz m=>
  cases op<;>simp only[e9] at hc<;>first|cases hc|skip
  simp only[exec] at hx;split at hx
  ·rename_i n ag cs fi;split at hx
   ·split at hx
    ·rename_i σ1 hi;injection hx with hx;subst hx;exact aiT r rfl rfl (hN _ rfl) hc fi hi
    ·cases hx
   ·cases hx
  ·cases hx
 |build zs ms=>
  cases op<;>simp only[e9] at hc<;>first|cases hc|skip
  simp only[exec] at hx;split at hx
  ·rename_i cs fi;injection hx with hx;subst hx;unfold XG at hc;split at hc
   ·rename_i yE hu;split at hc
    ·rename_i places eZ;simp only[Bool.and_eq_true] at hc;obtain⟨i,z,h1,h2,h3⟩:=XN hc.1;exact aiX r rfl hN h1 h2 hu eZ h3 hc.2 fi
    ·cases hc
   ·cases hc
  ·cases hx
 |fI sz ms=>
  cases op<;>simp only[e9] at hc<;>first|cases hc|skip
  simp only[Bool.and_eq_true,beq_iff_eq,decide_eq_true_eq] at hc;obtain⟨⟨⟨⟨c1,c2⟩,c3⟩,c4⟩,c5⟩:=hc;obtain⟨e,i,z,h1,h2,h3,h4,h5,_⟩:=tx c1;simp only[exec] at hx;split at hx
  ·rename_i n es ow σ1 mN;split at hx
   ·rename_i σ2 hi;injection hx with hx;subst hx;refine aiU r rfl rfl (hN _ rfl) h1 h2 h3 h4 h5 c2 c3 c4 (fun j p m hp hm=>?_) mN hi;exact(Qc c5).2 j p.2 m (by simp[hp]) hm
   ·cases hx
  ·cases hx
 |load ag sz m=>
  cases op<;>simp only[e9] at hc<;>first|cases hc|skip
  simp only[Bool.and_eq_true] at hc;simp only[exec] at hx;split at hx
  ·rename_i p hp;split at hx
   ·rename_i cs fi;injection hx with hx;subst hx;exact ajh r rfl hN hc.1 hc.2 hp fi
   ·cases hx
  ·cases hx
 |rj ag sz m=>
  cases op<;>simp[e9] at hc
 |store sz mx my=>
  cases op<;>simp only[e9] at hc<;>first|cases hc|skip
  simp only[Bool.and_eq_true] at hc;obtain⟨⟨⟨c0,c1⟩,c2⟩,c3⟩:=hc;have hd:dst=none:=by simpa using c0
  unfold Kz at c3;split at c3
  ·rename_i i hi;simp only[Bool.and_eq_true,beq_iff_eq,decide_eq_true_eq] at c3;simp only[exec] at hx;split at hx
   ·rename_i n k aB off ag vs hp hv;split at hx
    ·rename_i hl;split at hx
     ·rename_i cs hn;split at hx
      ·rename_i hk;injection hx with hx;subst hx;exact ajr r rfl hd c1 c2 hi c3.1 c3.2 hp hv hl hn hk.1 hk.2
      ·cases hx
     ·rename_i gr m rs xs hn;split at hx
      ·rename_i oV;subst oV;split at hx
       ·rename_i el lD;exact ajt r rfl hd c1 c2 hi c3.1 c3.2 hp hv hl hn lD hx
       ·cases hx
      ·cases hx
     ·cases hx
    ·cases hx
   ·rename_i n k aB off s i ag vs hp hv;split at hx
    ·rename_i hl;split at hx
     ·rename_i gr rs xs hn;split at hx
      ·rename_i oV;subst oV;split at hx
       ·rename_i av jn;injection hx with hx;subst hx;exact ajs r rfl hd c1 c2 hi c3.1 c3.2 hp hv hl hn rfl jn
       ·cases hx
      ·cases hx
     ·cases hx
    ·cases hx
   ·cases hx
  ·cases c3
 |qi m=>
  cases op<;>simp only[e9] at hc<;>first|cases hc|skip
  simp only[exec] at hx;split at hx
  ·rename_i n k sz off hp;split at hx
   ·rename_i hn;injection hx with hx;subst hx;rw[<-hp];exact QB r rfl hN hc (.inl ⟨_,_,_,_,hp,hn⟩)
   ·cases hx
  ·rename_i xs off hp;injection hx with hx;subst hx;rw[<-hp];exact QB r rfl hN hc (.inr (.inl ⟨_,_,hp⟩))
  ·rename_i xs off j n s len hp;injection hx with hx;subst hx;rw[<-hp];exact QB r rfl hN hc (.inr (.inr ⟨_,_,_,_,_,_,hp⟩))
  ·cases hx
 |bin zv mx my=>
  cases op<;>simp only[e9] at hc<;>first|cases hc|skip
  simp only[Bool.and_eq_true,decide_eq_true_eq] at hc;obtain⟨⟨rfl,c1⟩,c2⟩:=hc;simp only[exec] at hx;split at hx
  ·rename_i c hb;injection hx with hx;subst hx;exact aiR r rfl hN c1 c2 hb
  ·cases hx
 |nI zv mx my=>
  cases op<;>simp only[e9] at hc<;>first|cases hc|skip
  simp only[Bool.and_eq_true,decide_eq_true_eq] at hc;obtain⟨⟨⟨rfl,c1⟩,c2⟩,c3⟩:=hc;unfold aaY at c3;split at c3
  ·rename_i ht;simp only[exec] at hx;split at hx
   ·rename_i c hb;injection hx with hx;subst hx;exact aiS r rfl hN c1 c2 ht hb
   ·cases hx
  ·cases c3
 |un zv mx=>
  cases op<;>simp only[e9] at hc<;>first|cases hc|skip
  simp only[Bool.and_eq_true,decide_eq_true_eq] at hc;obtain⟨rfl,c1⟩:=hc;simp only[exec] at hx;split at hx
  ·rename_i c hb;injection hx with hx;subst hx;exact ajv r rfl hN c1 hb
  ·cases hx
 |conv k mx=>
  cases op<;>simp only[e9] at hc<;>first|cases hc|skip
  simp only[Bool.and_eq_true] at hc;obtain⟨c1,c2⟩:=hc;unfold XJ at c2;split at c2
  ·rename_i d k' ht hu;have hk:k=k':=by simpa using c2
   subst hk;simp only[exec] at hx;split at hx
   ·rename_i k2 n hb;injection hx with hx;subst hx;exact ai4 r rfl hN c1 ht hu hb
   ·cases hx
  ·cases c2
 |iK m sz by_ zs ml mc=>
  cases op<;>simp only[e9] at hc<;>first|cases hc|skip
  simp only[Bool.and_eq_true] at hc;obtain⟨⟨c1,c2⟩,c3⟩:=hc;obtain⟨e,i,z,h1,h2,h3,h4,h5,h6⟩:=tx c3;simp only[Bool.and_eq_true,beq_iff_eq,decide_eq_true_eq] at h6;simp only[exec] at hx;split at hx
  ·rename_i n q q' hq fc;split at hx
   ·rename_i cV;obtain⟨k1,k2,k3,k4⟩:=cV;split at hx
    ·rename_i σ1 hi;injection hx with hx;subst hx;exact aji r rfl rfl (hN _ rfl) c1 c2 h1 h2 h3 h4 h6.1.1 h6.1.2 h5 h6.2 hq fc k1 k2 k3 k4 hi
    ·cases hx
   ·cases hx
  ·cases hx
 |slice sz mx Ms Mp=>
  cases op<;>simp only[e9] at hc<;>first|cases hc|skip
  rename_i t x lo hi mm;cases mm<;>simp only[e9] at hc<;>first|cases hc|skip
  simp only[Bool.and_eq_true] at hc;obtain⟨⟨⟨c1,c2⟩,c3⟩,c4⟩:=hc;obtain⟨e,i,z,h1,h2,h3,h4,h5,_⟩:=tx c4;have qO:∀l,(match Ms with|none=>some 0|some l=>(σ.ev l).dZ)=some l->(lo=none/\l=0)\/∃y my,lo=some y/\bU y my=true/\(σ.ev my).dZ=some l:=by
   intro l hl;cases Ms with
   |none=>cases lo<;>simp[Dd] at c2;simp at hl;exact .inl ⟨rfl,hl.symm⟩
   |some my=>cases lo<;>simp[Dd] at c2;exact .inr ⟨_,my,rfl,c2,hl⟩
  have wQ:∀(len:Nat) hh,(match Mp with|none=>some (len:Int)|some h=>(σ.ev h).dZ)=some hh->(hi=none/\hh=len)\/∃y my,hi=some y/\bU y my=true/\(σ.ev my).dZ=some hh:=by
   intro len l hl;cases Mp with
   |none=>cases hi<;>simp[Dd] at c3;simp at hl;exact .inl ⟨rfl,hl.symm⟩
   |some my=>cases hi<;>simp[Dd] at c3;exact .inr ⟨_,my,rfl,c3,hl⟩
  simp only[exec] at hx;split at hx
  ·rename_i n s l0 len l hp hl;split at hx
   ·rename_i hh Rz;split at hx
    ·rename_i cV;obtain⟨rfl,k1,k2,k3,k4⟩:=cV;injection hx with hx;subst hx;exact YD r rfl hN c1 h1 h2 h4 h5 (qO l hl) (wQ len hh Rz) k1 k2 k3 (.inl ⟨n,l0,hp,k4,rfl⟩)
    ·cases hx
   ·cases hx
  ·rename_i s xs l hp hl;split at hx
   ·rename_i hh Rz;split at hx
    ·rename_i cV;obtain⟨rfl,k1,k2,k3⟩:=cV;injection hx with hx;subst hx;exact YD r rfl hN c1 h1 h2 h4 h5 (qO l hl) (wQ xs.length hh Rz) k1 k2 k3 (.inr ⟨xs,hp,rfl,rfl⟩)
    ·cases hx
   ·cases hx
  ·cases hx
 |tail sz mx ml=>
  cases op<;>simp[e9] at hc
 |nP off mx=>
  cases op<;>simp only[e9] at hc<;>first|cases hc|skip
  simp only[Bool.and_eq_true] at hc;simp only[exec] at hx;split at hx
  ·rename_i n k sz q hp;split at hx
   ·rename_i hn;injection hx with hx;subst hx;exact Qz r rfl hN hc.1 hc.2 (.inl ⟨_,_,_,_,hp,hn,rfl⟩)
   ·cases hx
  ·rename_i xs q hp;injection hx with hx;subst hx;exact Qz r rfl hN hc.1 hc.2 (.inr (.inl ⟨_,_,hp,rfl⟩))
  ·rename_i xs q j n s len hp;injection hx with hx;subst hx;exact Qz r rfl hN hc.1 hc.2 (.inr (.inr ⟨_,_,_,_,_,_,hp,rfl⟩))
  ·cases hx
 |nw sz mx mi=>
  cases op<;>simp only[e9] at hc<;>first|cases hc|skip
  simp only[Bool.and_eq_true] at hc;obtain⟨⟨c1,c2⟩,c3⟩:=hc;obtain⟨e,i,z,h1,h2,h3,h4,h5,_⟩:=tx c3;simp only[exec] at hx;split at hx
  ·rename_i n s lo len k hp hk;split at hx
   ·rename_i cV;obtain⟨rfl,k1,k2,k3⟩:=cV;injection hx with hx;subst hx;exact Yy r rfl hN c1 c2 h1 h2 h4 hk k1 (.inl ⟨_,_,_,hp,k2,k3,rfl⟩)
   ·cases hx
  ·rename_i s xs k hp hk;split at hx
   ·rename_i cV;obtain⟨rfl,k1⟩:=cV;split at hx
    ·rename_i el lD;injection hx with hx;subst hx;exact Yy r rfl hN c1 c2 h1 h2 h4 hk k1 (.inr ⟨_,_,hp,lD,rfl⟩)
    ·cases hx
   ·cases hx
  ·rename_i n kk aB off s len k hp hk;split at hx
   ·rename_i s' ys Hl;split at hx
    ·rename_i cV;obtain⟨rfl,k1,k2⟩:=cV;injection hx with hx;subst hx;exact ajf r rfl hN c1 c2 h1 h2 h4 hk k1 k2 hp Hl
    ·cases hx
   ·cases hx
  ·cases hx
 |ext i mx=>
  cases op<;>simp only[e9] at hc<;>first|cases hc|skip
  simp only[Bool.and_eq_true,beq_iff_eq] at hc;obtain⟨rfl,c1⟩:=hc;simp only[exec] at hx;split at hx
  ·rename_i xs hp;split at hx
   ·rename_i ag cs fi;injection hx with hx;subst hx;refine aje r rfl hN c1 hp fi fun cf=>?_;subst cf;obtain⟨y1,_⟩:=r.ev c1;rw[hp] at y1;obtain⟨vs,_,hl,hv⟩:=y1;have hi:i<vs.length:=by rw[hl];exact(List.getElem?_eq_some_iff.1 fi).1
    have:dj w G σ.h cs [vs[i]]:=hv i (false,cs) vs[i] fi (List.getElem?_eq_getElem hi);exact List.length_eq_one_iff.1 this.1.symm
   ·cases hx
  ·cases hx
 |sb ag off sz mx=>
  cases op<;>simp[e9] at hc
 |rC f gu mx=>
  cases op<;>simp[e9] at hc
 |len mx=>
  cases op<;>simp only[e9] at hc<;>first|cases hc|skip
  rename_i c;obtain⟨callee,args,argTypes⟩:=c;split at hc
  ·rename_i x t cC ha ht;simp only at cC ha ht;subst cC;have tH:args=#[x]:=by apply Array.ext';exact ha
   have Bc:argTypes=#[t]:=by apply Array.ext';exact ht
   subst tH Bc;simp only[Bool.and_eq_true] at hc;obtain⟨c1,c2⟩:=hc;split at c2
   ·rename_i e hu;simp only[exec] at hx;split at hx
    ·rename_i n sz lo len hp;split at hx
     ·rename_i hn;injection hx with hx;subst hx;exact KV r rfl hN c1 hu (.inl ⟨_,_,_,hp,hn⟩)
     ·cases hx
    ·rename_i sz xs hp;injection hx with hx;subst hx;exact KV r rfl hN c1 hu (.inr (.inl ⟨_,_,hp,rfl⟩))
    ·rename_i sz hp;injection hx with hx;subst hx;exact KV r rfl hN c1 hu (.inr (.inr (.inl ⟨_,hp,rfl⟩)))
    ·rename_i n k aB off sz len hp;split at hx
     ·rename_i s ys nu;injection hx with hx;subst hx;exact KV r rfl hN c1 hu (.inr (.inr (.inr ⟨_,_,_,_,_,_,_,_,hp,nu,rfl⟩)))
     ·cases hx
    ·cases hx
   ·cases c2
  ·cases hc
 |append fl sz by_ mx my=>
  cases op<;>simp only[e9] at hc<;>first|cases hc|skip
  rename_i c;obtain⟨callee,args,argTypes⟩:=c;split at hc
  ·rename_i x y t t' cC ha ht;simp only at cC ha ht;subst cC;have tH:args=#[x,y]:=by apply Array.ext';exact ha
   have Bc:argTypes=#[t,t']:=by apply Array.ext';exact ht
   subst tH Bc;simp only[Bool.and_eq_true,beq_iff_eq] at hc;obtain⟨⟨⟨rfl,c1⟩,c2⟩,c3⟩:=hc;obtain⟨e,i,z,h1,h2,h3,h4,h5,h6⟩:=tx c3;simp only[Bool.and_eq_true,beq_iff_eq,decide_eq_true_eq] at h6;simp only[exec] at hx;split at hx
   ·cases hx
   ·rename_i n;split at hx
    ·cases hx
    ·rename_i xs m σ1 hl;split at hx
     ·cases hx
     ·rename_i ys m2 σ2 hr;split at hx
      ·rename_i hb;split at hx
       ·rename_i gN hi;injection hx with hx;subst hx;exact aiQ r rfl rfl (hN _ rfl) c1 c2 h1 h2 h3 h4 h5 h6.1.1 h6.1.2 h6.2 hl hr hb hi
       ·cases hx
      ·cases hx
  ·cases hc
 |copy sz mx my=>
  cases op<;>simp only[e9] at hc<;>first|cases hc|skip
  rename_i c;obtain⟨callee,args,argTypes⟩:=c;split at hc
  ·rename_i x y t t' cC ha ht;simp only at cC ha ht;subst cC;have tH:args=#[x,y]:=by apply Array.ext';exact ha
   have Bc:argTypes=#[t,t']:=by apply Array.ext';exact ht
   subst tH Bc;simp only[Bool.and_eq_true,beq_iff_eq] at hc;obtain⟨⟨⟨c0,c1⟩,c2⟩,c3⟩:=hc;obtain⟨e,i,z,h1,h2,h3,h4,h5,_⟩:=tx c3;simp only[exec] at hx;split at hx
   ·rename_i n s lo len cc hp hq;split at hx
    ·rename_i gr m rs xs s' ys hn hv;split at hx
     ·rename_i cV;obtain⟨rfl,rfl,rfl,rfl,k1,k2,k3,k4⟩:=cV;injection hx with hx;subst hx;exact ai6 r rfl hN c1 c2 h1 h2 h4 hp hq hn hv k1 k2 k3 k4
     ·cases hx
    ·cases hx
   ·cases hx
  ·cases hc
 |mG zc mx=>
  cases op<;>simp only[e9] at hc<;>first|cases hc|skip
  rename_i c;obtain⟨callee,args,argTypes⟩:=c;split at hc
  ·rename_i x t cC ha ht;simp only at cC ha ht;subst cC;have tH:args=#[x]:=by apply Array.ext';exact ha
   have Bc:argTypes=#[t]:=by apply Array.ext';exact ht
   subst tH Bc;simp only[Bool.and_eq_true] at hc;obtain⟨c1,c3⟩:=hc;obtain⟨e,i,z,h1,h2,h3,h4,h5,h6⟩:=tx c3;simp only[exec] at hx;split at hx
   ·rename_i n s lo len hp;split at hx
    ·rename_i gr m rs xs hn;split at hx
     ·rename_i cV;obtain⟨rfl,rfl,k0,k1,k2,k3⟩:=cV;injection hx with hx;subst hx;exact ai3 r rfl hN c1 h1 h2 h3 h6 k0 hp hn k1 k2 k3
     ·cases hx
    ·cases hx
   ·cases hx
  ·cases hc
 |mm b mx my=>
  cases op<;>simp only[e9] at hc<;>first|cases hc|skip
  rename_i c;obtain⟨callee,args,argTypes⟩:=c;have cW:∀x y,callee=.builtin (if b=true then .max else .min)->args=#[x,y]->bU x mx=true->bU y my=true->
    Oper.wp P ⟨dst,.call ⟨callee,args,argTypes⟩,ty,pos,after,guard⟩ a w (Nx B E w0 N σ') Q:=by
   intro x y cC ha c1 c2;subst cC ha;simp only[exec] at hx;split at hx
   ·rename_i k n k' m h1 h2;have:=ajj (P:=P) (Q:=Q) (mx':=b) r (o:=⟨dst,.call ⟨.builtin (if b=true then .max else .min),#[x,y],argTypes⟩,ty,pos,after,guard⟩) rfl hN c1 c2 h1 h2
    cases b
    ·simp at hx this;split at hx<;>(rename_i cu;injection hx with hx;subst hx;simpa[cu] using this)
    ·simp at hx this;split at hx<;>(rename_i cu;injection hx with hx;subst hx;simpa[cu] using this)
   ·cases hx
  split at hc
  ·rename_i x y cC ha;simp only[Bool.and_eq_true] at hc;obtain⟨⟨rfl,c1⟩,c2⟩:=hc;exact cW x y cC (by apply Array.ext';exact ha) c1 c2
  ·rename_i x y cC ha;simp only[Bool.and_eq_true,Bool.not_eq_true'] at hc;obtain⟨⟨rfl,c1⟩,c2⟩:=hc;exact cW x y cC (by apply Array.ext';exact ha) c1 c2
  ·cases hc
 |call m f ms=>
  cases op<;>simp only[e9] at hc<;>first|cases hc|skip
  rename_i c;obtain⟨callee,args,argTypes⟩:=c;split at hc
  ·rename_i g cC;simp only at cC;subst cC;simp only[Bool.and_eq_true,beq_iff_eq] at hc;obtain⟨⟨rfl,c1⟩,c2⟩:=hc;exact aiY r hT hN rfl c1 c2 hx
  ·cases hc
 |oK f ms=>
  cases op<;>simp[e9] at hc
 |gU m f ms=>
  cases op<;>simp only[e9] at hc<;>first|cases hc|skip
  rename_i c;obtain⟨callee,args,argTypes⟩:=c;split at hc
  ·rename_i g cC;simp only at cC;subst cC;simp only[Bool.and_eq_true,beq_iff_eq] at hc;obtain⟨⟨rfl,c1⟩,c2⟩:=hc;simp only[exec] at hx;exact aiZ r hTM hN rfl c1 c2 hx
  ·cases hc
 |km f ms=>exact ajl r DC hN hc hx
 |m6 f ms=>exact ajn r DD hN hc hx
 |m5 f ms=>exact ajm r DC hN hc hx
 |nJ m f ms=>exact ajo r DD hN hc hx
 |pM m f mx ms=>
  cases op<;>simp only[e9] at hc<;>first|cases hc|skip
  rename_i c;obtain⟨callee,args,argTypes⟩:=c;split at hc
  ·rename_i t cC;simp only at cC;subst cC;simp only[Bool.and_eq_true] at hc;simp only[exec] at hx;split at hx
   ·rename_i g cP hp;split at hx
    ·rename_i hg;subst hg;exact ai0 r hTM hN rfl hc.1.1 hc.1.2 hc.2 hp hx
    ·cases hx
   ·cases hx
  ·cases hc
 |sM f ms=>
  cases op<;>simp[e9] at hc
 |oL m mx ms=>
  cases op<;>simp[e9] at hc
end
def aT.fa:aT->Nat
 |.mv _|.pick ..|.build ..|.bin ..|.nI ..|.un ..|.conv ..|.ext ..|.sb ..|.mm ..|.sM ..=>0
 |.alloc _|.box ..|.load ..|.qi _|.iK ..|.slice ..|.nP ..|.nw ..|.len _|.rC ..|.call ..|.oL ..|.oK ..|.m6 ..|.m5 ..=>1
 |_=>2
def St.dF (σ:St):List (Nat×aq)->Option St
 |[]=>some σ
 |(n,b)::l=>match σ.ins n b with
  |some σ1=>σ1.dF l
  |none=>none
def jo (m:Mode):Nat->List C->List ah×Nat×List (Nat×aq)
 |nm,[]=>([],nm,[])
 |nm,.list sz xs::cs=>(.sl nm sz 0 xs.length::(jo m (nm+1) cs).1,(jo m (nm+1) cs).2.1,(nm,.row m.t7 m sz xs)::(jo m (nm+1) cs).2.2)
 |nm,x::cs=>(.c x::(jo m nm cs).1,(jo m nm cs).2.1,(jo m nm cs).2.2)
def y8 (m:Mode):Nat->List Dv->Option (List (Bool×List ah)×List (Nat×aq))
 |_,[]=>some ([],[])
 |nm,(.ptr,_)::_=>none
 |nm,(k,cs)::ds=>match y8 m (jo m nm cs).2.1 ds with
  |some (ls,bs)=>some ((decide (k=.agg),(jo m nm cs).1)::ls,(jo m nm cs).2.2++bs)
  |none=>none
theorem aaT (σ:St) (l l':List (Nat×aq)):σ.dF (l++l')=(σ.dF l).bind fun σ1=>σ1.dF l':=by
 induction l generalizing σ with
 |nil=>rfl
 |cons x l ih=>
  obtain⟨n,b⟩:=x;simp only[List.cons_append,St.dF];cases σ.ins n b with
  |none=>rfl
  |some σ1=>exact ih σ1
theorem LW (m:Mode):∀(cs:List C) (σ:St) (nm:Nat),σ.imp m nm cs=(σ.dF (jo m nm cs).2.2).map fun σ1=>((jo m nm cs).1,(jo m nm cs).2.1,σ1)
 |[],σ,nm=>rfl
 |.list sz xs::cs,σ,nm=>by
  simp only[St.imp,jo,St.dF];cases σ.ins nm (.row m.t7 m sz xs) with
  |none=>rfl
  |some σ1=>
   simp only[LW m cs];cases σ1.dF (jo m (nm+1) cs).2.2<;>rfl
 |.int k n::cs,σ,nm=>by
  simp only[St.imp,jo,LW m cs];cases σ.dF (jo m nm cs).2.2<;>rfl
 |.bool b::cs,σ,nm=>by
  simp only[St.imp,jo,LW m cs];cases σ.dF (jo m nm cs).2.2<;>rfl
theorem SA (m:Mode):∀(ds:List Dv) (σ:St) (nm:Nat),σ.jG m nm ds=(y8 m nm ds).bind fun x=>(σ.dF x.2).map fun σ1=>(x.1,σ1)
 |[],σ,nm=>rfl
 |(k,cs)::ds,σ,nm=>by
  have cW:(match σ.imp m nm cs with
    |some (l,gy,σ1)=>match σ1.jG m gy ds with
     |some (ls,σ2)=>some ((decide (k=K.agg),l)::ls,σ2)
     |none=>none
    |none=>none)=(match y8 m (jo m nm cs).2.1 ds with
    |some (ls,bs)=>some ((decide (k=K.agg),(jo m nm cs).1)::ls,(jo m nm cs).2.2++bs)
    |none=>none).bind fun x=>(σ.dF x.2).map fun σ1=>(x.1,σ1):=by
   rw[LW];have ih:=fun(σ1:St)=>SA m ds σ1 (jo m nm cs).2.1;cases h1:σ.dF (jo m nm cs).2.2 with
   |none=>
    cases h2:y8 m (jo m nm cs).2.1 ds with
    |none=>rfl
    |some x=>simp[aaT,h1]
   |some σ1=>
    simp only[Option.map_some,ih];cases h2:y8 m (jo m nm cs).2.1 ds with
    |none=>rfl
    |some x=>
     simp[aaT,h1];cases σ1.dF x.2<;>rfl
  cases k with
  |ptr=>rfl
  |one=>exact cW
  |agg=>exact cW
def C6 (T:aQ) (m:Mode) (d:Option Nat) (f:FuncId) (as:List aj) (h:Nat->Option aq):Option (aj×List (Nat×aq)):=
 match lm h as with
 |some ds=>match aQ.find T.pure f with
  |some M=>match M ds with
   |some rs=>match y8 m (jJ d) rs with
    |some (ls,bs)=>some (mr ls,bs)
    |none=>none
   |none=>none
  |none=>none
 |none=>none
def abF (vs:List aj) (f:FuncId):Option aj:=
 match vs.mapM (fun v=>match v with|.one c=>if c.j4=true then none else some c|_=>none) with
 |some cs=>if cs.all ah.MG=true then some (.one (.fn f cs)) else none
 |none=>none
def rd (T:aQ) (d:Option Nat) (op:aT) (ev:MO->aj) (h:Nat->Option aq):Option (aj×List (Nat×aq)):=
 match op with
 |.mv x=>some (ev x,[])
 |.pick c x y=>match ev c with
  |.one (.c (.bool b))=>if b=true then some (ev x,[]) else some (ev y,[])
  |_=>none
 |.build zs parts=>match rF ev zs parts with
  |some cs=>some (.agg cs,[])
  |none=>none
 |.bin op x y=>match yr op (ev x) (ev y) with
  |some c=>some (.one (.c c),[])
  |none=>none
 |.nI op x y=>match C2 op (ev x) (ev y) with
  |some c=>some (.one (.c c),[])
  |none=>none
 |.un op x=>match Fq op (ev x) with
  |some c=>some (.one (.c c),[])
  |none=>none
 |.conv k x=>match ev x with
  |.one (.c (.int _ n))=>some (.one (.c (.int k (k.wrap n))),[])
  |_=>none
 |.ext i x=>match ev x with
  |.bK xs=>match xs[i]? with
   |some (ag,cs)=>some (oD ag cs,[])
   |none=>none
  |_=>none
 |.sb ag off sz x=>match ev x with
  |.agg cs=>match sub cs off sz with
   |some l=>some (oD ag l,[])
   |none=>none
  |_=>none
 |.rC f gu x=>match ev x with
  |.one (.sl n sz lo len)=>if(h n).isSome=true then some (.agg (BR gu len (.sl n sz lo len)),[]) else none
  |.one (.c (.list sz xs))=>some (.agg (BR gu xs.length (.c (.list sz xs))),[])
  |.one (.nil sz)=>some (.agg (BR gu 0 (.nil sz)),[])
  |_=>none
 |.mm mx x y=>match ev x,ev y with
  |.one (.c (.int k a)),.one (.c (.int k' b))=>if mx=true then(if a<b then some (.one (.c (.int k b)),[]) else some (.one (.c (.int k a)),[]))
   else(if b<a then some (.one (.c (.int k b)),[]) else some (.one (.c (.int k a)),[]))
  |_,_=>none
 |.sM f xs=>match abF (xs.map ev) f with
  |some v=>some (v,[])
  |none=>none
 |.alloc zs=>match d with
  |some n=>some (.one (.ptr n 0 0 0),[(n,.box zs)])
  |none=>none
 |.box sz x=>match d,(ev x).cells? with
  |some n,some (_,cs)=>if cs.length=sz then some (.one (.ptr n 0 0 0),[(n,.box cs)]) else none
  |_,_=>none
 |.load ag sz x=>match ev x with
  |.one p=>match loadAt h p sz with
   |some cs=>some (oD ag cs,[])
   |none=>none
  |_=>none
 |.qi x=>match ev x with
  |.one (.ptr n k sz off)=>if(h n).isSome=true then some (.one (.ptr n k sz off),[]) else none
  |.one (.dg xs off)=>some (.one (.dg xs off),[])
  |.one (.cH xs off j n s len)=>some (.one (.cH xs off j n s len),[])
  |_=>none
 |.iK m sz by_ zs l c=>match d,(ev l).dZ,(ev c).dZ with
  |some n,some a,some b=>if a<=b/\0<=a/\b.toNat*by_<=dX/\zs.length=sz then
   some (.one (.sl n sz 0 a.toNat),[(n,.row true m sz (List.replicate a.toNat zs))])
   else none
  |_,_,_=>none
 |.slice sz x lo hi=>
  let Tc:Option Int:=match lo with|none=>some 0|some l=>(ev l).dZ
  match ev x,Tc with
  |.one (.sl n s l0 len),some l=>
   match(match hi with|none=>some (len:Int)|some h=>(ev h).dZ) with
   |some hh=>if s=sz/\0<=l/\l<=hh/\hh<=len/\(h n).isSome=true then some (.one (.sl n s (l0+l.toNat) (hh - l).toNat),[]) else none
   |none=>none
  |.one (.c (.list s xs)),some l=>
   match(match hi with|none=>some (xs.length:Int)|some h=>(ev h).dZ) with
   |some hh=>if s=sz/\0<=l/\l<=hh/\hh<=xs.length then some (.one (.c (.list s ((xs.drop l.toNat).take (hh - l).toNat))),[]) else none
   |none=>none
  |_,_=>none
 |.nP off x=>match ev x with
  |.one (.ptr n k sz o)=>if(h n).isSome=true then some (.one (.ptr n k sz (o+off)),[]) else none
  |.one (.dg xs o)=>some (.one (.dg xs (o+off)),[])
  |.one (.cH xs o j n s len)=>some (.one (.cH xs (o+off) j n s len),[])
  |_=>none
 |.nw sz x i=>match ev x,(ev i).dZ with
  |.one (.sl n s lo len),some k=>if s=sz/\0<=k/\k<len/\(h n).isSome=true then some (.one (.ptr n (lo+k.toNat) s 0),[]) else none
  |.one (.c (.list s xs)),some k=>if s=sz/\0<=k then
   match xs[k.toNat]? with
   |some e=>some (.one (.dg e 0),[])
   |none=>none
   else none
  |.one (.bC n kk aB off s len),some k=>match cO h (.bC n kk aB off s len) with
   |some (.list s' ys)=>if s'=sz/\0<=k/\k<ys.length then some (.one (.db n kk aB off sz k.toNat),[]) else none
   |_=>none
  |_,_=>none
 |.len x=>match ev x with
  |.one (.sl n sz lo len)=>if(h n).isSome=true then some (.one (.c (.int .i64 len)),[]) else none
  |.one (.c (.list sz xs))=>some (.one (.c (.int .i64 xs.length)),[])
  |.one (.nil sz)=>some (.one (.c (.int .i64 0)),[])
  |.one (.bC n k aB off sz len)=>match cO h (.bC n k aB off sz len) with
   |some (.list s ys)=>some (.one (.c (.int .i64 ys.length)),[])
   |_=>none
  |_=>none
 |.call m f xs=>C6 T m d f (xs.map ev) h
 |.oK f xs=>(C7 T f (xs.map ev) h).map fun v=>(v,[])
 |.m6 f xs=>(qE T f (xs.map ev) h).map fun v=>(v,[])
 |.m5 f xs=>(Au T f (xs.map ev)).map fun v=>(v,[])
 |.oL m x xs=>match ev x with
  |.one (.fn f cP)=>C6 T m d f (xs.map ev++cP.map .one) h
  |_=>none
 |_=>none
def gF (d:Option Nat) (σ:St) (x:aj×List (Nat×aq)):Option St:=(σ.dF x.2).map (·.put d x.1)
theorem Yd (T:aQ) (m:Mode) (d:Option Nat) (f:FuncId) (as:List aj) (σ:St):wz T m d f as σ=(C6 T m d f as σ.h).bind (gF d σ):=by
 unfold wz C6;cases lm σ.h as with
 |none=>rfl
 |some ds=>
  simp only
  cases aQ.find T.pure f with
  |none=>rfl
  |some M=>
   simp only
   cases M ds with
   |none=>rfl
   |some rs=>
    simp only[SA];cases y8 m (jJ d) rs with
    |none=>rfl
    |some x=>
     simp only[Option.bind_some,gF];cases σ.dF x.2<;>rfl
theorem qF (T:aQ) (d:Option Nat) (op:aT) (σ:St) (hc:op.fa<=1):exec T d op σ=(rd T d op σ.ev σ.h).bind (gF d σ):=by
 cases op<;>simp only[aT.fa] at hc<;>first|omega|skip
 case call m f xs=>exact Yd _ _ _ _ _ _
 case oK f xs=>
  simp only[exec,rd];cases C7 T f (xs.map σ.ev) σ.h with
  |none=>rfl
  |some v=>rfl
 case m6 f xs=>
  simp only[exec,rd];cases qE T f (xs.map σ.ev) σ.h with
  |none=>rfl
  |some v=>rfl
 case m5 f xs=>
  simp only[exec,rd];cases Au T f (xs.map σ.ev) with
  |none=>rfl
  |some v=>rfl
 case oL m x xs=>
  simp only[exec,rd];split
  ·rename_i f cP h1;simp only[h1];exact Yd _ _ _ _ _ _
  ·rename_i cm;split
   ·rename_i f cP h1;exact absurd h1 (cm f cP)
   ·rfl
 case alloc zs=>
  simp only[exec,rd];split
  ·rename_i n;simp only[Option.bind_some,gF,St.dF];cases σ.ins n (.box zs)<;>rfl
  ·rfl
 case box sz x=>
  simp only[exec,rd];split
  ·rename_i n ag cs h1;simp only[h1];split
   ·simp only[Option.bind_some,gF,St.dF];cases σ.ins n (.box cs)<;>rfl
   ·rfl
  ·rename_i cm;split
   ·rename_i n ag cs h1;exact absurd h1 (cm n ag cs rfl)
   ·rfl
 case iK m sz by_ zs l c=>
  simp only[exec,rd];split
  ·rename_i n a b h1 h2;simp only[h1,h2];split
   ·simp only[Option.bind_some,gF,St.dF];cases σ.ins n (.row true m sz (List.replicate a.toNat zs))<;>rfl
   ·rfl
  ·rename_i cm;split
   ·rename_i n a b h1 h2;exact absurd h2 (cm n a b rfl h1)
   ·rfl
 case sM f xs=>
  simp only[exec,rd,abF];cases (xs.map σ.ev).mapM (fun v=>match v with|.one c=>if c.j4=true then none else some c|_=>none) with
  |none=>rfl
  |some cs=>
   simp only
   split<;>rfl
 case mv x=>rfl
 case pick c x y=>
  simp only[exec,rd];generalize σ.ev c=v;cases v with
  |one v=>cases v with
   |c v=>cases v with
    |bool b=>cases b<;>rfl
    |_=>rfl
   |_=>rfl
  |_=>rfl
 case build zs ps=>simp only[exec,rd];cases rF σ.ev zs ps<;>rfl
 case bin op x y=>simp only[exec,rd];cases yr op (σ.ev x) (σ.ev y)<;>rfl
 case nI op x y=>simp only[exec,rd];cases C2 op (σ.ev x) (σ.ev y)<;>rfl
 case un op x=>simp only[exec,rd];cases Fq op (σ.ev x)<;>rfl
 case conv k x=>
  simp only[exec,rd];generalize σ.ev x=v;cases v with
  |one v=>cases v with
   |c v=>cases v<;>rfl
   |_=>rfl
  |_=>rfl
 case ext i x=>
  simp only[exec,rd];generalize σ.ev x=v;cases v with
  |bK xs=>
   simp only
   cases xs[i]? <;>rfl
  |_=>rfl
 case sb ag off sz x=>
  simp only[exec,rd];generalize σ.ev x=v;cases v with
  |agg cs=>
   simp only
   cases sub cs off sz<;>rfl
  |_=>rfl
 case rC f gu x=>
  simp only[exec,rd];generalize σ.ev x=v;cases v with
  |one v=>cases v with
   |sl n sz lo len=>simp only;split<;>rfl
   |c v=>cases v<;>rfl
   |_=>rfl
  |_=>rfl
 case mm b x y=>
  simp only[exec,rd];generalize σ.ev x=v;generalize σ.ev y=u;cases v with
  |one v=>cases v with
   |c v=>cases v with
    |int k a=>cases u with
     |one u=>cases u with
      |c u=>cases u with
       |int k' a'=>
        simp only
        cases b
        ·simp only[Bool.false_eq_true,if_false];split<;>rfl
        ·simp only[if_true];split<;>rfl
       |_=>rfl
      |_=>rfl
     |_=>rfl
    |_=>rfl
   |_=>rfl
  |_=>rfl
 case load ag sz x=>
  simp only[exec,rd];generalize σ.ev x=v;cases v with
  |one v=>
   simp only
   cases loadAt σ.h v sz<;>rfl
  |_=>rfl
 case qi x=>
  simp only[exec,rd];generalize σ.ev x=v;cases v with
  |one v=>cases v with
   |ptr n k sz off=>simp only;split<;>rfl
   |_=>rfl
  |_=>rfl
 case nP off x=>
  simp only[exec,rd];generalize σ.ev x=v;cases v with
  |one v=>cases v with
   |ptr n k sz off=>simp only;split<;>rfl
   |_=>rfl
  |_=>rfl
 case len x=>
  simp only[exec,rd];generalize σ.ev x=v;cases v with
  |one v=>cases v with
   |sl n sz lo len=>simp only;split<;>rfl
   |c v=>cases v<;>rfl
   |bC n k aB off sz len=>
    simp only
    cases cO σ.h (.bC n k aB off sz len) with
    |none=>rfl
    |some y=>cases y<;>rfl
   |_=>rfl
  |_=>rfl
 case nw sz x i=>
  simp only[exec,rd];generalize σ.ev x=v;generalize (σ.ev i).dZ=u;cases v with
  |one v=>cases v with
   |sl n s lo len=>cases u with
    |none=>rfl
    |some k=>simp only;split<;>rfl
   |c v=>cases v with
    |list s xs=>cases u with
     |none=>rfl
     |some k=>
      simp only
      split
      ·cases xs[k.toNat]? <;>rfl
      ·rfl
    |_=>rfl
   |bC n k aB off s len=>
    cases u with
    |none=>rfl
    |some q=>
     simp only
     cases cO σ.h (.bC n k aB off s len) with
     |none=>rfl
     |some y=>cases y with
      |list s' ys=>simp only;split<;>rfl
      |_=>rfl
   |_=>rfl
  |_=>rfl
 case slice sz x lo hi=>
  cases lo with
  |none=>
   cases hi with
   |none=>
    simp only[exec,rd];generalize σ.ev x=v;cases v with
    |one v=>cases v with
     |sl n s l0 len=>simp only;split<;>rfl
     |c v=>cases v with
      |list s xs=>simp only;split<;>rfl
      |_=>rfl
     |_=>rfl
    |_=>rfl
   |some hi=>
    simp only[exec,rd];generalize σ.ev x=v;generalize (σ.ev hi).dZ=q;cases q with
    |none=>
     cases v with
     |one v=>cases v with
      |c v=>cases v<;>rfl
      |_=>rfl
     |_=>rfl
    |some q=>
     cases v with
     |one v=>cases v with
      |sl n s l0 len=>simp only;split<;>rfl
      |c v=>cases v with
       |list s xs=>simp only;split<;>rfl
       |_=>rfl
      |_=>rfl
     |_=>rfl
  |some lo=>
   cases hi with
   |none=>
    simp only[exec,rd];generalize σ.ev x=v;generalize (σ.ev lo).dZ=u;cases u with
    |none=>
     cases v with
     |one v=>cases v with
      |c v=>cases v<;>rfl
      |_=>rfl
     |_=>rfl
    |some u=>
     cases v with
     |one v=>cases v with
      |sl n s l0 len=>simp only;split<;>rfl
      |c v=>cases v with
       |list s xs=>simp only;split<;>rfl
       |_=>rfl
      |_=>rfl
     |_=>rfl
   |some hi=>
    simp only[exec,rd];generalize σ.ev x=v;generalize (σ.ev lo).dZ=u;generalize (σ.ev hi).dZ=q;cases u with
    |none=>
     cases v with
     |one v=>cases v with
      |c v=>cases v<;>rfl
      |_=>rfl
     |_=>rfl
    |some u=>
     cases q with
     |none=>
      cases v with
      |one v=>cases v with
       |c v=>cases v<;>rfl
       |_=>rfl
      |_=>rfl
     |some q=>
      cases v with
      |one v=>cases v with
       |sl n s l0 len=>simp only;split<;>rfl
       |c v=>cases v with
        |list s xs=>simp only;split<;>rfl
        |_=>rfl
       |_=>rfl
      |_=>rfl
def St.we (σ:St) (e:Nat->aj):St:={σ with env:=e}
def ui (e:Nat->aj) (d:Option Nat) (x:Nat->aj):Nat->aj:=
 match d with
 |some n=>az e n (x n)
 |none=>e
theorem auh (σ:St):σ.we σ.env=σ:=rfl
theorem ua (σ:St) (e:Nat->aj) (d:Option Nat) (v:aj):(σ.we e).put d v=(σ.put d v).we (ui e d (σ.put d v).env):=by
 cases d with
 |none=>rfl
 |some n=>simp[St.put,St.we,ui,bR]
theorem Hw (σ:St) (e:Nat->aj) (n:Nat) (b:aq):(σ.we e).ins n b=(σ.ins n b).map (·.we e):=by
 unfold St.ins;by_cases h:σ.used n=true
 ·rw[if_pos h,if_pos (show(σ.we e).used n=true from h)];rfl
 ·rw[if_neg h,if_neg (show¬(σ.we e).used n=true from h)];rfl
theorem Bj:∀(l:List (Nat×aq)) (σ:St) (e:Nat->aj),(σ.we e).dF l=(σ.dF l).map (·.we e)
 |[],σ,e=>rfl
 |(n,b)::l,σ,e=>by
  simp only[St.dF,Hw];cases σ.ins n b with
  |none=>rfl
  |some σ1=>exact Bj l σ1 e
theorem at0 (σ:St) (e:Nat->aj) (c:ah):(σ.we e).fY c=(σ.fY c).map fun x=>(x.1,x.2.1,x.2.2.we e):=by
 cases c with
 |c x=>rfl
 |nil sz=>simp only[St.fY];split<;>rfl
 |sl n sz lo len=>
  have:(σ.we e).h n=σ.h n:=rfl;simp only[St.fY,this];cases σ.h n with
  |none=>rfl
  |some b=>cases b with
   |box cs=>rfl
   |row gr m rs xs=>simp only;split<;>rfl
 |_=>rfl
theorem II:∀(cs:List ah) (σ:St) (e:Nat->aj),(σ.we e).gC cs=(σ.gC cs).map fun x=>(x.1,x.2.1,x.2.2.we e)
 |[],σ,e=>rfl
 |c::cs,σ,e=>by
  simp only[St.gC,at0];cases σ.fY c with
  |none=>rfl
  |some x=>
   obtain⟨x,o,σ1⟩:=x;simp only[Option.map_some,II cs σ1 e];cases σ1.gC cs<;>rfl
theorem akL (σ:St) (e:Nat->aj) (p:ah):(σ.we e).uT p=(σ.uT p).map (·.we e):=by
 cases p with
 |ptr n k sz off=>
  have h3:(σ.we e).h=σ.h:=rfl;simp only[St.uT,h3];cases σ.h n with
  |none=>rfl
  |some b=>
   cases b with
   |row gr m rs xs=>rfl
   |box cs=>
    simp only[II];cases σ.gC cs with
    |none=>rfl
    |some x=>rfl
 |_=>rfl
theorem agN (sz:Nat):∀(vs:List aj) (σ:St) (e:Nat->aj),(σ.we e).mV sz vs=(σ.mV sz vs).map fun x=>(x.1,x.2.1,x.2.2.we e)
 |[],σ,e=>rfl
 |v::vs,σ,e=>by
  simp only[St.mV];cases v.cells? with
  |none=>rfl
  |some x=>
   obtain⟨ag,cs⟩:=x;simp only
   split
   ·simp only[II];cases σ.gC cs with
    |none=>rfl
    |some y=>
     obtain⟨y,o,σ1⟩:=y;simp only[Option.map_some,agN sz vs σ1 e];cases σ1.mV sz vs<;>rfl
   ·rfl
theorem aht (σ:St) (e:Nat->aj) (sz:Nat) (v:aj):rR (σ.we e) sz v=(rR σ sz v).map fun x=>(x.1,x.2.1,x.2.2.we e):=by
 cases v with
 |one v=>cases v with
  |sl a s lo len=>cases lo with
   |zero=>
    have:(σ.we e).h a=σ.h a:=rfl;simp only[rR,this];cases σ.h a with
    |none=>rfl
    |some b=>cases b with
     |box cs=>rfl
     |row gr m rs xs=>cases gr with
      |true=>simp only;split<;>rfl
      |false=>rfl
   |succ lo=>rfl
  |_=>rfl
 |_=>rfl
theorem ahv (fl:Bool) (σ:St) (e:Nat->aj) (sz:Nat) (m:Mode) (v:aj):mD fl (σ.we e) sz m v=(mD fl σ sz m v).map fun x=>(x.1,x.2.1,x.2.2.we e):=by
 cases v with
 |one v=>cases v with
  |sl b s lo len=>
   have:(σ.we e).h b=σ.h b:=rfl;simp only[mD,this];cases σ.h b with
   |none=>rfl
   |some b=>cases b with
    |box cs=>rfl
    |row gr m rs xs=>
     simp only
     repeat' split
     all_goals rfl
  |c x=>cases x with
   |list s ys=>
    simp only[mD]
    repeat' split
    all_goals rfl
   |_=>rfl
  |_=>rfl
 |_=>rfl
theorem atK (σ:St) (e:Nat->aj) (n:Nat) (gr:Bool) (m:Mode) (rs:Nat) (xs:List (List C)) (k off:Nat) (el:List C) (vs:List ah):
  oA (σ.we e) n gr m rs xs k off el vs=(oA σ n gr m rs xs k off el vs).map (·.we e):=by
 simp only[oA,II];cases sub el off vs.length with
 |none=>rfl
 |some ii=>
  simp only
  cases σ.gC vs with
  |none=>rfl
  |some x=>
   obtain⟨cs,o,σ1⟩:=x;have:(σ1.we e).h n=σ1.h n:=rfl;simp only[Option.map_some,this]
   repeat' split
   all_goals rfl
theorem EM (T:aQ) (d:Option Nat) (op:aT) {ev ev':MO->aj} (h:Nat->Option aq) (cf:∀x∈op.args,ev' x=ev x):rd T d op ev' h=rd T d op ev h:=by
 have hl:∀xs:List MO,(∀x∈xs,ev' x=ev x)->xs.map ev'=xs.map ev:=fun xs hx=>List.map_congr_left hx;have hp:∀(ps:List (Nat×Nat×MO)) (zs:List ah),(∀x∈ps.map (·.2.2),ev' x=ev x)->rF ev' zs ps=rF ev zs ps:=by
  intro ps;induction ps with
  |nil=>intro zs _;rfl
  |cons p ps ih=>
   intro zs hx;obtain⟨off,sz,x⟩:=p;simp only[rF];rw[hx x (by simp)];cases (ev x).cells? with
   |none=>rfl
   |some y=>
    simp only
    split
    ·exact ih _ fun z hz=>hx z (by simp at hz⊢;exact .inr hz)
    ·rfl
 cases op with
 |build zs ps=>simp only[rd];rw[hp ps zs cf]
 |call m f xs=>simp only[rd];rw[hl xs cf]
 |oK f xs=>simp only[rd];rw[hl xs cf]
 |m6 f xs=>simp only[rd];rw[hl xs cf]
 |m5 f xs=>simp only[rd];rw[hl xs cf]
 |sM f xs=>simp only[rd];rw[hl xs cf]
 |oL m x xs=>simp only[rd];rw[cf x (by simp[aT.args]),hl xs fun y hy=>cf y (by simp[aT.args,hy])]
 |slice sz x lo hi=>
  have h1:=cf x (by simp[aT.args]);cases lo with
  |none=>cases hi with
   |none=>simp only[rd,h1]
   |some hi=>have h3:=cf hi (by simp[aT.args]);simp only[rd,h1,h3]
  |some lo=>
   have h2:=cf lo (by simp[aT.args]);cases hi with
   |none=>simp only[rd,h1,h2]
   |some hi=>have h3:=cf hi (by simp[aT.args]);simp only[rd,h1,h2,h3]
 |mv x=>have h1:=cf x (by simp[aT.args]);simp only[rd,h1]
 |pick x y z=>have h1:=cf x (by simp[aT.args]);have h2:=cf y (by simp[aT.args]);have h3:=cf z (by simp[aT.args]);simp only[rd,h1,h2,h3]
 |alloc zs=>rfl
 |box sz x=>have h1:=cf x (by simp[aT.args]);simp only[rd,h1]
 |fI sz ps=>rfl
 |gU m f xs=>rfl
 |pM m f x xs=>rfl
 |nJ m f xs=>rfl
 |km f xs=>rfl
 |load ag sz x=>have h1:=cf x (by simp[aT.args]);simp only[rd,h1]
 |store sz x v=>rfl
 |qi x=>have h1:=cf x (by simp[aT.args]);simp only[rd,h1]
 |bin op x y=>have h1:=cf x (by simp[aT.args]);have h2:=cf y (by simp[aT.args]);simp only[rd,h1,h2]
 |nI op x y=>have h1:=cf x (by simp[aT.args]);have h2:=cf y (by simp[aT.args]);simp only[rd,h1,h2]
 |un op x=>have h1:=cf x (by simp[aT.args]);simp only[rd,h1]
 |conv k x=>have h1:=cf x (by simp[aT.args]);simp only[rd,h1]
 |iK m sz by_ zs x y=>have h1:=cf x (by simp[aT.args]);have h2:=cf y (by simp[aT.args]);simp only[rd,h1,h2]
 |nP off x=>have h1:=cf x (by simp[aT.args]);simp only[rd,h1]
 |nw sz x y=>have h1:=cf x (by simp[aT.args]);have h2:=cf y (by simp[aT.args]);simp only[rd,h1,h2]
 |ext i x=>have h1:=cf x (by simp[aT.args]);simp only[rd,h1]
 |sb ag off sz x=>have h1:=cf x (by simp[aT.args]);simp only[rd,h1]
 |rC f gu x=>have h1:=cf x (by simp[aT.args]);simp only[rd,h1]
 |len x=>have h1:=cf x (by simp[aT.args]);simp only[rd,h1]
 |append fl sz by_ x y=>rfl
 |tail sz x lo=>rfl
 |rj ag sz x=>rfl
 |copy sz x y=>rfl
 |mG z x=>rfl
 |mm b x y=>have h1:=cf x (by simp[aT.args]);have h2:=cf y (by simp[aT.args]);simp only[rd,h1,h2]
theorem Od (σ:St) (e:Nat->aj):(σ.we e).h=σ.h:=rfl
theorem asf (σ:St) (e:Nat->aj) (it:dD) (x:C):(σ.we e).pk it x=(σ.pk it x).map (·.we e):=by
 cases it with
 |nil sz=>rfl
 |row n=>
  cases x with
  |int k i=>rfl
  |bool b=>rfl
  |list sz xs=>
   simp only[St.pk,Od];cases σ.h n with
   |none=>rfl
   |some b=>
    cases b with
    |box cs=>rfl
    |row gr m rs jv=>simp only;split<;>rfl
 |nest n k off=>
  simp only[St.pk,Od];cases σ.h n with
  |none=>rfl
  |some b=>
   cases b with
   |box cs=>rfl
   |row gr m rs jv=>
    simp only
    cases jv[k]? with
    |none=>rfl
    |some el=>rfl
theorem TU:∀(its:List (dD×Mode)) (d7:List C) (σ:St) (e:Nat->aj),(σ.we e).oy its d7=(σ.oy its d7).map (·.we e)
 |[],[],σ,e=>rfl
 |it::its,x::d7,σ,e=>by
  simp only[St.oy,asf];cases σ.pk it.1 x with
  |none=>rfl
  |some σ1=>exact TU its d7 σ1 e
 |[],_::_,σ,e=>rfl
 |_::_,[],σ,e=>rfl
theorem aaQ (m:Mode) (σ:St) (e:Nat->aj) (nm:Nat) (ds:List Dv):(σ.we e).jG m nm ds=(σ.jG m nm ds).map fun x=>(x.1,x.2.we e):=by
 simp only[SA];cases y8 m nm ds with
 |none=>rfl
 |some x=>
  simp only[Option.bind_some,Bj];cases σ.dF x.2 with
  |none=>rfl
  |some σ1=>rfl
theorem Yc (T:aQ) (m:Mode) (d:Option Nat) (f:FuncId) (as:List aj) (σ:St) (e:Nat->aj):
  rZ T m d f as (σ.we e)=(rZ T m d f as σ).map fun τ=>τ.we (ui e d τ.env):=by
 unfold rZ;cases aQ.nQ T.vH f with
 |none=>rfl
 |some z=>
  obtain⟨sig,M⟩:=z;cases rk as with
  |none=>rfl
  |some dc=>
   simp only
   by_cases fB:(ph sig dc).Nodup
   ·rw[if_pos fB,if_pos fB];show(match mS σ.h (dM σ.h (ph sig dc)) sig dc with|some (ds,its)=>_|none=>none)=_
    cases mS σ.h (dM σ.h (ph sig dc)) sig dc with
    |none=>rfl
    |some z=>
     obtain⟨ds,its⟩:=z;simp only
     cases M ds with
     |none=>rfl
     |some z=>
      obtain⟨rs,d7⟩:=z;simp only[TU];cases σ.oy its d7 with
      |none=>rfl
      |some σ1=>
       simp only[Option.map_some,aaQ];cases σ1.jG m (jJ d) rs with
       |none=>rfl
       |some z=>
        obtain⟨ls,σ2⟩:=z;simp only[Option.map_some,ua]
   ·rw[if_neg fB,if_neg fB];rfl
theorem aix (T:aQ) (m:Mode) (d:Option Nat) (f:FuncId) (as:List aj) (σ:St) (e:Nat->aj):
  wA T m d f as (σ.we e)=(wA T m d f as σ).map fun τ=>τ.we (ui e d τ.env):=by
 unfold wA;cases aQ.nQ T.vH f with
 |none=>rfl
 |some z=>
  obtain⟨sig,M⟩:=z;simp only
  have hh:(σ.we e).h=σ.h:=rfl;rw[hh];cases zx σ.h sig as with
  |none=>rfl
  |some dc=>
   simp only
   by_cases fB:(zA sig dc).Nodup
   ·rw[if_pos fB,if_pos fB];cases sR σ.h (dM σ.h (zA sig dc)) sig dc with
    |none=>rfl
    |some z=>
     obtain⟨ds,its⟩:=z;simp only
     cases M ds with
     |none=>rfl
     |some z=>
      obtain⟨rs,d7⟩:=z;simp only[TU];cases σ.oy its d7 with
      |none=>rfl
      |some σ1=>
       simp only[Option.map_some,aaQ];cases σ1.jG m (jJ d) rs with
       |none=>rfl
       |some z=>
        obtain⟨ls,σ2⟩:=z;simp only[Option.map_some,ua]
   ·rw[if_neg fB,if_neg fB];rfl
theorem aiA (T:aQ) (m:Mode) (d:Option Nat) (f:FuncId) (as:List aj) (σ:St) (e:Nat->aj):
  wB T m d f as (σ.we e)=(wB T m d f as σ).map fun τ=>τ.we (ui e d τ.env):=by
 unfold wB;cases aQ.tC T.xs f with
 |none=>rfl
 |some z=>
  obtain⟨i,M⟩:=z;simp only
  cases as[i]? with
  |none=>rfl
  |some x=>
   have hh:(σ.we e).h=σ.h:=rfl;simp only[hh];cases Fy σ.h x with
   |none=>rfl
   |some z=>
    obtain⟨n,lo,len,N⟩:=z;exact Yc _ _ _ _ _ _ _
theorem PY:∀(as:List aj) (σ:St) (e:Nat->aj),(σ.we e).iQ as=(σ.iQ as).map fun x=>(x.1,x.2.1,x.2.2.we e)
 |[],σ,e=>rfl
 |v::as,σ,e=>by
  simp only[St.iQ,Od,II];cases m4 σ.h v with
  |some x=>
   obtain⟨n,xs⟩:=x;simp only[PY as σ e];cases σ.iQ as<;>rfl
  |none=>
   simp only
   cases v.cells? with
   |none=>rfl
   |some x=>
    obtain⟨ag,cs⟩:=x;simp only
    cases σ.gC cs with
    |none=>rfl
    |some y=>
     obtain⟨xs,o,σ1⟩:=y;simp only[Option.map_some,PY as σ1 e];cases σ1.iQ as<;>rfl
theorem asd (σ:St) (e:Nat->aj) (ns:List Nat) (out:List C):(σ.we e).sP ns out=(σ.sP ns out).map (·.we e):=by
 match ns,out with
 |[],[]=>rfl
 |[],_::_=>rfl
 |[n],out=>
  simp only[St.sP,Od];cases σ.h n with
  |none=>rfl
  |some b=>
   cases b with
   |box cs=>simp only;split<;>rfl
   |row gr m rs xs=>rfl
 |_::_::_,out=>rfl
theorem ahJ (σ:St) (e:Nat->aj) (d:Option Nat) (rs:List Dv):rT (σ.we e) d rs=(rT σ d rs).map fun τ=>τ.we (ui e d τ.env):=by
 unfold rT;split
 ·cases d with
  |none=>rfl
  |some q=>
   simp only[Hw];cases σ.ins q _ with
   |none=>rfl
   |some σ1=>simp only[Option.map_some,ua]
 ·cases kt rs with
  |none=>rfl
  |some ls=>simp only[Option.map_some,ua]
theorem aiw (T:aQ) (d:Option Nat) (f:FuncId) (as:List aj) (σ:St) (e:Nat->aj):
  rY T d f as (σ.we e)=(rY T d f as σ).map fun τ=>τ.we (ui e d τ.env):=by
 unfold rY;rw[PY];cases σ.iQ as with
 |none=>rfl
 |some x=>
  obtain⟨ds,ns,σ1⟩:=x;simp only[Option.map_some];cases aQ.lZ T.vs f with
  |none=>rfl
  |some M=>
   simp only
   cases M ds with
   |none=>rfl
   |some z=>
    obtain⟨rs,out⟩:=z;simp only[asd];cases σ1.sP ns out with
    |none=>rfl
    |some σ2=>exact ahJ σ2 e d rs
theorem QC (T:aQ) (d:Option Nat) (op:aT) (σ:St) (e:Nat->aj) (cf:∀x∈op.args,(σ.we e).ev x=σ.ev x) (hd:∀sz x v,op=.store sz x v->d=none):
  exec T d op (σ.we e)=(exec T d op σ).map fun τ=>τ.we (ui e d τ.env):=by
 by_cases hc:op.fa<=1
 ·rw[qF T d op _ hc,qF T d op _ hc,EM T d op _ cf];show Option.bind (rd T d op σ.ev σ.h) _=_;cases rd T d op σ.ev σ.h with
  |none=>rfl
  |some x=>
   simp only[Option.bind_some,gF,Bj];cases σ.dF x.2 with
   |none=>rfl
   |some σ1=>simp only[Option.map_some,ua]
 ·cases op<;>simp[aT.fa] at hc
  case fI sz ps=>
   have hl:ps.map (σ.we e).ev=ps.map σ.ev:=List.map_congr_left cf;simp only[exec,hl,agN];cases d with
   |none=>rfl
   |some n=>
    cases σ.mV sz (ps.map σ.ev) with
    |none=>rfl
    |some x=>
     obtain⟨es,o,σ1⟩:=x;simp only[Option.map_some,Hw];cases σ1.ins n (.row true (if o=true then .aN else .aJ) sz es) with
     |none=>rfl
     |some σ2=>simp only[Option.map_some,ua]
  case store sz x v=>
   have h1:=cf x (by simp[aT.args]);have h2:=cf v (by simp[aT.args]);have hd:=hd sz x v rfl;subst hd;simp only[exec,h1,h2];cases σ.ev x with
   |one p=>cases p with
    |ptr n k aB off=>
     cases (σ.ev v).cells? with
     |none=>rfl
     |some y=>
      obtain⟨ag,vs⟩:=y;have:(σ.we e).h n=σ.h n:=rfl;simp only[this];split
      ·cases σ.h n with
       |none=>rfl
       |some b=>cases b with
        |box cs=>simp only;split<;>rfl
        |row gr m rs xs=>
         simp only
         split
         ·cases xs[k]? with
          |none=>rfl
          |some el=>simp only[atK];rfl
         ·rfl
      ·rfl
    |db n k aB off s i=>
     cases (σ.ev v).cells? with
     |none=>rfl
     |some y=>
      obtain⟨ag,vs⟩:=y;have:(σ.we e).h n=σ.h n:=rfl;simp only[this];split
      ·cases σ.h n with
       |none=>rfl
       |some b=>cases b with
        |box cs=>rfl
        |row gr m rs xs=>cases m with
         |live=>cases gr with
          |true=>rfl
          |false=>
           simp only
           split
           ·cases xO xs k off s i vs<;>rfl
           ·rfl
         |_=>cases gr<;>rfl
      ·rfl
    |_=>cases (σ.ev v).cells?<;>rfl
   |agg cs=>cases (σ.ev v).cells?<;>rfl
   |bK cs=>cases (σ.ev v).cells?<;>rfl
  case append fl sz by_ x y=>
   have h1:=cf x (by simp[aT.args]);have h2:=cf y (by simp[aT.args]);simp only[exec,h1,h2,aht];cases d with
   |none=>rfl
   |some n=>
    simp only
    cases rR σ sz (σ.ev x) with
    |none=>rfl
    |some z=>
     obtain⟨xs,m,σ1⟩:=z;simp only[Option.map_some,ahv];cases mD fl σ1 sz m (σ.ev y) with
     |none=>rfl
     |some z=>
      obtain⟨ys,m2,σ2⟩:=z;simp only[Option.map_some];split
      ·simp only[Hw];cases σ2.ins n (.row true m2 sz (xs++ys)) with
       |none=>rfl
       |some gN=>simp only[Option.map_some,ua]
      ·rfl
  case copy sz x y=>
   have h1:=cf x (by simp[aT.args]);have h2:=cf y (by simp[aT.args]);have h3:(σ.we e).h=σ.h:=rfl;simp only[exec,h1,h2,h3];cases σ.ev x with
   |one p=>cases p with
    |sl n s lo len=>
     cases σ.ev y with
     |one c=>
      simp only
      cases σ.h n with
      |none=>rfl
      |some b=>cases b with
       |box cs=>rfl
       |row gr m rs xs=>
        cases cO σ.h c with
        |none=>rfl
        |some q=>cases q with
         |list s' ys=>
          simp only
          split
          ·exact congrArg some (ua (σ.eE n _) e d _)
          ·rfl
         |_=>rfl
     |_=>rfl
    |_=>rfl
   |_=>rfl
  case mG z x=>
   have h1:=cf x (by simp[aT.args]);have h3:(σ.we e).h=σ.h:=rfl;simp only[exec,h1,h3];cases σ.ev x with
   |one p=>cases p with
    |sl n s lo len=>
     simp only
     cases σ.h n with
     |none=>rfl
     |some b=>cases b with
      |box cs=>rfl
      |row gr m rs xs=>
       simp only
       split
       ·exact congrArg some (ua (σ.eE n _) e d _)
       ·rfl
    |_=>rfl
   |_=>rfl
  case rj ag sz x=>
   have h1:=cf x (by simp[aT.args]);simp only[exec,h1];cases σ.ev x with
   |one p=>
    simp only[akL];cases σ.uT p with
    |none=>rfl
    |some σ1=>
     simp only[Option.map_some];have h3:(σ1.we e).h=σ1.h:=rfl;rw[h3];cases loadAt σ1.h p sz with
     |none=>rfl
     |some cs=>exact congrArg some (ua σ1 e d _)
   |_=>rfl
  case tail sz x y=>
   have h1:=cf x (by simp[aT.args]);have h2:=cf y (by simp[aT.args]);simp only[exec,h1,h2];cases d with
   |none=>rfl
   |some n=>
    generalize (σ.ev y).dZ=q;cases hv:σ.ev x with
    |one p=>cases p with
     |sl a s lo len=>cases lo with
      |zero=>
       cases q with
       |none=>rfl
       |some l=>
        simp only
        have:(σ.we e).h a=σ.h a:=rfl;rw[this];cases σ.h a with
        |none=>rfl
        |some b=>cases b with
         |box cs=>rfl
         |row gr m rs xs=>cases gr with
          |false=>rfl
          |true=>
           simp only
           split
           ·rw[show(σ.we e).del a=(σ.del a).we e from rfl,Hw]
            cases (σ.del a).ins n (.row true m sz (xs.drop l.toNat)) with
            |none=>rfl
            |some gN=>simp only[Option.map_some,ua]
           ·rfl
      |succ lo=>cases q<;>rfl
     |_=>cases q<;>rfl
    |_=>cases q<;>rfl
  case gU m f xs=>
   have hl:xs.map (σ.we e).ev=xs.map σ.ev:=List.map_congr_left cf;simp only[exec,hl,Yc]
  case km f xs=>
   have hl:xs.map (σ.we e).ev=xs.map σ.ev:=List.map_congr_left cf;simp only[exec,hl,aiw]
  case pM m f x xs=>
   have h0:=cf x (by simp[aT.args]);have hl:xs.map (σ.we e).ev=xs.map σ.ev:=List.map_congr_left fun y hy=>cf y (by simp[aT.args,hy]);simp only[exec,hl,h0];cases σ.ev x with
   |one c=>cases c with
    |fn g cP=>
     simp only
     split
     ·exact aix _ _ _ _ _ _ _
     ·rfl
    |_=>rfl
   |agg cs=>rfl
   |bK xs=>rfl
  case nJ m f xs=>
   have hl:xs.map (σ.we e).ev=xs.map σ.ev:=List.map_congr_left cf;simp only[exec,hl,aiA]
section
variable {u vv:Nat->Prop} {h h':Nat->Option aq}
theorem anY (hh:∀n,u n->h' n=h n) {p:ah} (hp:∀m,p.ref m->u m) (sz:Nat):loadAt h' p sz=loadAt h p sz:=by
 cases p with
 |ptr n k aB off=>simp only[loadAt,hh n (hp n rfl)]
 |db n k aB off s i=>simp only[loadAt,hh n (hp n rfl)]
 |_=>rfl
theorem ah.zD {c:ah} {m:Nat} (h:c.hZ m):c.ref m:=by
 cases c<;>first|exact h|exact h.elim
def aj.zE:aj->Nat->Prop
 |.one c,m=>c.hZ m
 |.agg cs,m=>∃c∈cs,c.hZ m
 |.bK _,_=>False
theorem aj.TY {x:aj} {m:Nat} (h:x.zE m):x.ref m:=by
 cases x with
 |one c=>exact ah.zD h
 |agg cs=>obtain⟨c,hc,h⟩:=h;exact⟨c,hc,ah.zD h⟩
 |bK xs=>exact h.elim
theorem Ce (hh:∀n,u n->h' n=h n) {p:ah} (hp:∀m,p.hZ m->u m):cO h' p=cO h p:=by
 cases p with
 |sl n sz lo len=>simp only[cO,hh n (hp n rfl)]
 |bC n k aB off sz len=>simp only[cO,hh n (hp n rfl)]
 |_=>rfl
theorem Ob (hh:∀n,u n->h' n=h n):∀{l:List ah} (_:∀p∈l,∀m,p.hZ m->u m),iN h' l=iN h l
 |[],_=>rfl
 |c::cs,hp=>by
  have h1:=Ce hh (hp c (by simp));have h2:=Ob hh (l:=cs) fun p q=>hp p (List.mem_cons_of_mem _ q);simp only[iN,h1,h2]
theorem aue (hh:∀n,u n->h' n=h n) (hb:∀m cs c n,vv m->h m=some (.box cs)->c∈cs->c.ref n->u n) {x:aj} (hx:∀m,x.zE m->u m) (hv:∀m,x.zE m->vv m):je h' x=je h x:=by
 cases x with
 |one c=>cases c with
  |ptr n k sz off=>
   simp only[je,hh n (hx n rfl)];cases hn:h n with
   |none=>rfl
   |some b=>cases b with
    |box cs=>simp only[Ob hh fun p hp m hm=>hb n cs p m (hv n rfl) hn hp (ah.zD hm)]
    |row gr m sz xs=>rfl
  |dg xs off=>rfl
  |c x=>rfl
  |nil sz=>rfl
  |sl n sz lo len=>simp only[je];rw[Ce hh (p:=.sl n sz lo len) hx]
  |bC n k aB off sz len=>simp only[je];rw[Ce hh (p:=.bC n k aB off sz len) hx]
  |db n k aB off sz i=>rfl
  |cH xs off j n sz len=>rfl
  |fn f cP=>rfl
  |bq=>rfl
 |agg cs=>simp only[je,Ob hh fun p hp m hm=>hx m ⟨p,hp,hm⟩]
 |bK xs=>rfl
theorem Oa (hh:∀n,u n->h' n=h n) (hb:∀m cs c n,vv m->h m=some (.box cs)->c∈cs->c.ref n->u n):∀{xs:List aj} (_:∀x∈xs,∀m,x.zE m->u m) (_:∀x∈xs,∀m,x.zE m->vv m),lm h' xs=lm h xs
 |[],_,_=>rfl
 |x::xs,hx,hv=>by
  have h1:=aue hh hb (hx x (by simp)) (hv x (by simp));have h2:=Oa hh hb (xs:=xs) (fun p q=>hx p (List.mem_cons_of_mem _ q)) (fun p q=>hv p (List.mem_cons_of_mem _ q));simp only[lm,h1,h2]
theorem an8 (hh:∀n,u n->h' n=h n) {md:Mode} {c:ah} (hp:∀m,c.ref m->u m):t6 h' md c=t6 h md c:=by
 cases c with
 |sl n sz lo len=>simp only[t6,hh n (hp n rfl)]
 |bC n k aB off sz len=>simp only[t6,hh n (hp n rfl)]
 |_=>rfl
theorem aaH (hh:∀n,u n->h' n=h n) (ns:List Nat):∀n,u n->dM h' ns n=dM h ns n:=fun n hn=>by simp only[dM,hh n hn]
theorem Tl (hh:∀n,u n->h' n=h n) (ns:List Nat):∀(fs:List (Option Mode)) (cs:List ah),(∀c∈cs,∀m,c.ref m->u m)->j7 h' (dM h' ns) fs cs=j7 h (dM h ns) fs cs
 |[],cs,hc=>by simp only[j7,Ob (aaH hh ns) fun p hp m hm=>hc p hp m (ah.zD hm)]
 |none::fs,c::cs,hc=>by
  simp only[j7,Ce (aaH hh ns) fun m hm=>hc c (by simp) m (ah.zD hm),Tl hh ns fs cs fun p hp=>hc p (by simp[hp])]
 |some md::fs,c::cs,hc=>by
  simp only[j7,an8 hh (hc c (by simp)),Tl hh ns fs cs fun p hp=>hc p (by simp[hp])]
 |none::_,[],_=>rfl
 |some _::_,[],_=>rfl
theorem acZ (hh:∀n,u n->h' n=h n) (ns:List Nat):∀(as:List (Bool×List ah)) (sig:aK),(∀x∈as,∀c∈x.2,∀m,c.ref m->u m)->mS h' (dM h' ns) sig as=mS h (dM h ns) sig as
 |[],_,_=>rfl
 |(ag,cs)::as,sig,hc=>by
  simp only[mS,Tl hh ns (aK.hd sig) cs (hc (ag,cs) (by simp)),acZ hh ns as (aK.tl sig) fun x hx=>hc x (by simp[hx])]
theorem Tm:∀{fs:List (Option Mode)} {cs:List ah} {n:Nat},n∈nB fs cs->∃c∈cs,c.ref n
 |some _::fs,c::cs,n,hn=>by
  simp only[nB] at hn;rcases List.mem_append.1 hn with h|h
  ·refine⟨c,by simp,?_⟩;cases c<;>simp[ah.eV] at h<;>(subst h;rfl)
  ·obtain⟨c',h1,h2⟩:=Tm h;exact⟨c',by simp[h1],h2⟩
 |none::fs,c::cs,n,hn=>by
  simp only[nB] at hn;obtain⟨c',h1,h2⟩:=Tm hn;exact⟨c',by simp[h1],h2⟩
 |[],_,n,hn=>by simp[nB] at hn
 |some _::_,[],n,hn=>by simp[nB] at hn
 |none::_,[],n,hn=>by simp[nB] at hn
theorem abG:∀{as:List (Bool×List ah)} {sig:aK} {n:Nat},n∈ph sig as->∃x∈as,∃c∈x.2,c.ref n
 |a::as,s::sig,n,hn=>by
  simp only[ph] at hn;rcases List.mem_append.1 hn with h|h
  ·obtain⟨c,h1,h2⟩:=Tm h;exact⟨a,by simp,c,h1,h2⟩
  ·obtain⟨x,h1,h2⟩:=abG h;exact⟨x,by simp[h1],h2⟩
 |[],s::sig,n,hn=>by simp[ph] at hn
 |as,[],n,hn=>by cases as<;>simp[ph] at hn
theorem abu:∀{as:List aj} {dc:List (Bool×List ah)},rk as=some dc->∀x∈dc,∀c∈x.2,∀m,c.ref m->∃v∈as,v.ref m
 |[],dc,hx,x,hm=>by simp only[rk] at hx;injection hx with hx;subst hx;cases hm
 |v::vs,dc,hx,x,hm=>by
  simp only[rk] at hx;split at hx
  ·rename_i y ys e1 e2;injection hx with hx;subst hx;intro c hc m hr;cases hm with
   |head=>exact⟨v,by simp,aj.yx e1 hc hr⟩
   |tail _ hm=>
    obtain⟨v',h1,h2⟩:=abu e2 x hm c hc m hr;exact⟨v',by simp[h1],h2⟩
  ·cases hx
theorem aiz (hh:∀n,u n->h' n=h n) {T:aQ} {f:FuncId} {as:List aj} (hx:∀x∈as,∀m,x.ref m->u m):qE T f as h'=qE T f as h:=by
 unfold qE;cases aQ.tB T.ws f with
 |none=>rfl
 |some M=>
  obtain⟨sig,M⟩:=M;cases hc:rk as with
  |none=>rfl
  |some dc=>
   have hr:∀x∈dc,∀c∈x.2,∀m,c.ref m->u m:=fun x h1 c h2 m h3=>by
    obtain⟨v,a1,a2⟩:=abu hc x h1 c h2 m h3;exact hx v a1 m a2
   simp only
   cases hn:ph sig dc with
   |nil=>rfl
   |cons n l=>
    cases l with
    |cons n2 l=>rfl
    |nil=>
     obtain⟨x,h1,c,h2,h3⟩:=abG (n:=n) (sig:=sig) (as:=dc) (by rw[hn];simp);simp only[acZ hh [n] dc sig hr,hh n (hr x h1 c h2 n h3)]
theorem adM (T:aQ) (d:Option Nat) (op:aT) (ev:MO->aj) (hh:∀n,u n->h' n=h n) (qL:op.Hx=true->∀m cs c n,vv m->h m=some (.box cs)->c∈cs->c.ref n->u n)
  (hx:∀x∈op.args,∀m,(ev x).ref m->u m) (w9:∀x∈op.args,∀m,(ev x).ref m->vv m):rd T d op ev h'=rd T d op ev h:=by
 cases op with
 |load ag sz x=>
  have h1:=hx x (by simp[aT.args]);simp only[rd];cases hv:ev x with
  |one p=>rw[hv] at h1;simp only[anY hh (p:=p) h1]
  |_=>rfl
 |qi x=>
  have h1:=hx x (by simp[aT.args]);simp only[rd];cases hv:ev x with
  |one p=>cases p with
   |ptr n k sz off=>rw[hv] at h1;simp only[hh n (h1 n rfl)]
   |_=>rfl
  |_=>rfl
 |nP off x=>
  have h1:=hx x (by simp[aT.args]);simp only[rd];cases hv:ev x with
  |one p=>cases p with
   |ptr n k sz off=>rw[hv] at h1;simp only[hh n (h1 n rfl)]
   |_=>rfl
  |_=>rfl
 |len x=>
  have h1:=hx x (by simp[aT.args]);simp only[rd];cases hv:ev x with
  |one p=>cases p with
   |sl n sz lo len=>rw[hv] at h1;simp only[hh n (h1 n rfl)]
   |bC n k aB off sz len=>rw[hv] at h1;simp only[Ce hh (p:=.bC n k aB off sz len) (fun m hm=>h1 m (ah.zD hm))]
   |c x=>cases x<;>rfl
   |_=>rfl
  |_=>rfl
 |rC f gu x=>
  have h1:=hx x (by simp[aT.args]);simp only[rd];cases hv:ev x with
  |one p=>cases p with
   |sl n sz lo len=>rw[hv] at h1;simp only[hh n (h1 n rfl)]
   |c x=>cases x<;>rfl
   |_=>rfl
  |_=>rfl
 |nw sz x i=>
  have h1:=hx x (by simp[aT.args]);simp only[rd];generalize (ev i).dZ=q;cases hv:ev x with
  |one p=>cases p with
   |sl n s lo len=>
    rw[hv] at h1;have h2:=hh n (h1 n rfl);cases q with
    |none=>rfl
    |some q=>simp only[h2]
   |bC n k aB off s len=>
    rw[hv] at h1;cases q with
    |none=>rfl
    |some q=>simp only[Ce hh (p:=.bC n k aB off s len) (fun m hm=>h1 m (ah.zD hm))]
   |c x=>cases x<;>cases q<;>rfl
   |_=>cases q<;>rfl
  |_=>cases q<;>rfl
 |slice sz x lo hi=>
  have h1:=hx x (by simp[aT.args]);simp only[rd];cases hv:ev x with
  |one p=>cases p with
   |sl n s l0 len=>
    rw[hv] at h1;have h2:=hh n (h1 n rfl);cases lo with
    |none=>simp only[h2]
    |some lo=>
     simp only
     cases (ev lo).dZ with
     |none=>rfl
     |some q=>simp only[h2]
   |c x=>cases lo with
    |none=>cases x<;>rfl
    |some lo=>
     simp only
     cases (ev lo).dZ<;>cases x<;>rfl
   |_=>cases lo<;>rfl
  |_=>cases lo<;>rfl
 |call m f xs=>
  simp only[rd,C6];have go:∀u':Nat->Prop,(∀x∈(aT.call m f xs).args,∀m,(ev x).ref m->u' m)->∀x∈xs.map ev,∀m,x.zE m->u' m:=by
   intro u' hx x xb q hq;obtain⟨y,hy,rfl⟩:=List.mem_map.1 xb;exact hx y hy q (aj.TY hq)
  rw[Oa hh (qL rfl) (go _ hx) (go _ w9)]
 |oK f xs=>
  simp only[rd,C7];have go:∀u':Nat->Prop,(∀x∈(aT.oK f xs).args,∀m,(ev x).ref m->u' m)->∀x∈xs.map ev,∀m,x.zE m->u' m:=by
   intro u' hx x xb q hq;obtain⟨y,hy,rfl⟩:=List.mem_map.1 xb;exact hx y hy q (aj.TY hq)
  rw[Oa hh (qL rfl) (go _ hx) (go _ w9)]
 |m5 f xs=>rfl
 |m6 f xs=>
  have:qE T f (xs.map ev) h'=qE T f (xs.map ev) h:=aiz hh fun x xb q hq=>by
   obtain⟨y,hy,rfl⟩:=List.mem_map.1 xb;exact hx y hy q hq
  simp only[rd,this]
 |oL m x xs=>
  simp only[rd];cases hv:ev x with
  |one p=>cases p with
   |fn f cP=>
    simp only[C6];have go:∀u':Nat->Prop,(∀y∈(aT.oL m x xs).args,∀m,(ev y).ref m->u' m)->∀y∈xs.map ev++cP.map aj.one,∀m,y.zE m->u' m:=by
     intro u' hx y hym q hq;rcases List.mem_append.1 hym with hy|hy
     ·obtain⟨z,hz,rfl⟩:=List.mem_map.1 hy;exact hx z (by simp[aT.args,hz]) q (aj.TY hq)
     ·obtain⟨z,hz,rfl⟩:=List.mem_map.1 hy;refine hx x (by simp[aT.args]) q ?_;rw[hv];exact⟨z,hz,hq⟩
    rw[Oa hh (qL rfl) (go _ hx) (go _ w9)]
   |_=>rfl
  |_=>rfl
 |_=>rfl
theorem adL (T:aQ) (d:Option Nat) (op:aT) (ev:MO->aj) (hh:∀n,u n->h' n=h n) (hb:∀m cs c n,h m=some (.box cs)->c∈cs->c.ref n->u n)
  (hx:∀x∈op.args,∀m,(ev x).ref m->u m):rd T d op ev h'=rd T d op ev h:=
 adM (vv:=fun _=>True) T d op ev hh (fun _ m cs c n _=>hb m cs c n) hx (fun _ _ _ _=>trivial)
theorem adO (T:aQ) (d:Option Nat) (op:aT) (ev:MO->aj) (h h':Nat->Option aq) (hc:op.fa=0):rd T d op ev h'=rd T d op ev h:=by
 cases op<;>simp[aT.fa] at hc<;>rfl
end
def jt (e:Nat->aj) (d:Option Nat) (v:aj):Nat->aj:=
 match d with
 |some n=>az e n v
 |none=>e
theorem qm (σ:St) (d:Option Nat) (v:aj):σ.put d v=σ.we (jt σ.env d v):=by cases d<;>rfl
theorem sQ {e:Nat->aj} {d:Option Nat} {v:aj} {n:Nat} (h:d≠some n):jt e d v n=e n:=by
 cases d with
 |none=>rfl
 |some m=>exact cN _ _ _ _ (fun he=>h (by rw[he]))
theorem MT (e:Nat->aj) {d d':Option Nat} (v v':aj) (h:∀n,d=some n->d'≠some n):jt (jt e d v) d' v'=jt (jt e d' v') d v:=by
 cases d with
 |none=>rfl
 |some n=>cases d' with
  |none=>rfl
  |some m=>
   have aD:m≠n:=fun he=>h n rfl (by rw[he]);funext k;simp only[jt,kg];by_cases h1:k=m
   ·by_cases h2:k=n
    ·omega
    ·simp[h1,aD]
   ·by_cases h2:k=n
    ·simp[h2,Ne.symm aD]
    ·simp[h1,h2]
def ag1 (d:Option Nat) (x:Nat->aj):aj:=
 match d with
 |some n=>x n
 |none=>.one .bq
theorem Ww (e:Nat->aj) (d:Option Nat) (x:Nat->aj):ui e d x=jt e d (ag1 d x):=by cases d<;>rfl
theorem al8 {σ σ1 σ2:St} {n m:Nat} {b c:aq} (h1:σ.ins n b=some σ1) (h2:σ1.ins m c=some σ2):∃τ,σ.ins m c=some τ/\τ.ins n b=some σ2:=by
 obtain⟨u1,rfl⟩:=kx h1;obtain⟨u2,rfl⟩:=kx h2;have aD:m≠n:=fun e=>by subst e;simp[bR] at u2
 have um:σ.used m=false:=by simpa[cN _ _ _ _ aD] using u2
 have un:az σ.used m true n=false:=by rw[cN _ _ _ _ (Ne.symm aD)];exact u1
 refine⟨_,by unfold St.ins;rw[if_neg (by simp[um])],?_⟩;unfold St.ins;simp only[un,Bool.false_eq_true,if_false];congr 2<;>(funext k;simp only[kg];by_cases h1:k=m<;>by_cases h2:k=n<;>simp_all)
theorem aaV {m:Nat} {c:aq}:∀{A:List (Nat×aq)} {σ σ1 σ2:St},σ.dF A=some σ1->σ1.ins m c=some σ2->∃τ,σ.ins m c=some τ/\τ.dF A=some σ2
 |[],σ,σ1,σ2,h1,h2=>by
  simp only[St.dF] at h1;injection h1 with h1;subst h1;exact⟨σ2,h2,rfl⟩
 |(n,b)::A,σ,σ1,σ2,h1,h2=>by
  simp only[St.dF] at h1;split at h1
  ·rename_i lv e;obtain⟨τ,t1,t2⟩:=aaV h1 h2;obtain⟨WH,s1,s2⟩:=al8 e t1;exact⟨WH,s1,by simp only[St.dF,s2];exact t2⟩
  ·cases h1
theorem SH:∀{Bs A:List (Nat×aq)} {σ σ1 σ2:St},σ.dF A=some σ1->σ1.dF Bs=some σ2->∃τ,σ.dF Bs=some τ/\τ.dF A=some σ2
 |[],A,σ,σ1,σ2,h1,h2=>by
  simp only[St.dF] at h2;injection h2 with h2;subst h2;exact⟨σ,rfl,h1⟩
 |(m,c)::Bs,A,σ,σ1,σ2,h1,h2=>by
  simp only[St.dF] at h2;split at h2
  ·rename_i gN e;obtain⟨τ,t1,t2⟩:=aaV h1 e;obtain⟨WH,s1,s2⟩:=SH t2 h2;exact⟨WH,by simp only[St.dF,t1];exact s1,s2⟩
  ·cases h2
theorem Bi:∀{A:List (Nat×aq)} {σ σ1:St},σ.dF A=some σ1->(∀n,σ.used n=true->σ1.used n=true/\σ1.h n=σ.h n)/\σ1.env=σ.env
 |[],σ,σ1,h1=>by
  simp only[St.dF] at h1;injection h1 with h1;subst h1;exact⟨fun n hn=>⟨hn,rfl⟩,rfl⟩
 |(m,c)::A,σ,σ1,h1=>by
  simp only[St.dF] at h1;split at h1
  ·rename_i lv e;obtain⟨u1,rfl⟩:=kx e;obtain⟨t1,t2⟩:=Bi h1;refine⟨fun n hn=>?_,t2⟩;have aD:n≠m:=fun he=>by subst he;rw[u1] at hn;cases hn
   obtain⟨s1,s2⟩:=t1 n (oF _ _ hn);exact⟨s1,by rw[s2];exact cN _ _ _ _ aD⟩
  ·cases h1
structure Wf (σ:St):Prop where
 env:∀s m,(σ.env s).ref m->σ.used m=true
 box:∀m cs c n,σ.h m=some (.box cs)->c∈cs->c.ref n->σ.used n=true
def ah.flat:ah->Bool
 |.c _|.nil _|.bq=>true
 |_=>false
def MO.flat:MO->Bool
 |.t _=>true
 |.k (.one c)=>c.flat
 |.k (.agg cs)=>cs.all ah.flat
 |.k (.bK xs)=>xs.isEmpty
theorem ah.Y2 {c:ah} (h:c.flat=true) (m:Nat):¬c.ref m:=by
 cases c<;>first|exact id|(simp[ah.flat] at h)
theorem Wf.arg {σ:St} (W:Wf σ) {x:MO} (hx:x.flat=true) (m:Nat) (hm:(σ.ev x).ref m):σ.used m=true:=by
 cases x with
 |t n=>exact W.env n m hm
 |k v=>cases v with
  |one c=>exact absurd hm (ah.Y2 hx m)
  |agg cs=>
   obtain⟨c,hc,hm⟩:=hm;exact absurd hm (ah.Y2 (List.all_eq_true.1 hx c hc) m)
  |bK xs=>
   have:xs=[]:=by simpa[MO.flat] using hx
   subst this;obtain⟨c,hc,_⟩:=hm;cases hc
theorem adN (T:aQ) (d:Option Nat) (op:aT) (ev:MO->aj) (h:Nat->Option aq) (hc:op.fa=0) {x:aj×List (Nat×aq)} (hx:rd T d op ev h=some x):x.2=[]:=by
 cases op<;>simp[aT.fa] at hc<;>simp only[rd] at hx
 all_goals
  repeat' split at hx
  all_goals first|(cases hx;rfl)|(cases hx)
theorem KU {σ:St} {e:Nat->aj} {x:MO} (h:∀n,x=.t n->e n=σ.env n):(σ.we e).ev x=σ.ev x:=by
 cases x with
 |t n=>exact h n rfl
 |k v=>rfl
section
variable {T:aQ} {dx dy:Option Nat} {x y:aT} {σ σ1 σ2:St}
theorem yD (wM:∀sz p v,x=.store sz p v->dx=none) (h1:exec T dx x σ=some σ1):σ1.env=jt σ.env dx (ag1 dx σ1.env):=by
 have h:=QC T dx x σ σ.env (fun _ _=>rfl) wM;rw[auh,h1] at h;simp only[Option.map_some] at h;injection h with h;rw[<-Ww]
 calc σ1.env=(σ1.we (ui σ.env dx σ1.env)).env:=by rw[<-h]
  _=_:=rfl
theorem XQ (W:Wf σ) (hd:∀n,dx=some n->dy≠some n) (sB:∀n,dx=some n->MO.t n∉y.args) (vj:∀n,dy=some n->MO.t n∉x.args)
  (Ll:∀a∈x.args,a.flat=true) (AW:∀a∈y.args,a.flat=true)
  (wM:∀sz p v,x=.store sz p v->dx=none) (GU:∀sz p v,y=.store sz p v->dy=none) (auE:x.fa=0\/y.fa=0\/(x.fa<=1/\y.fa<=1))
  (h1:exec T dx x σ=some σ1) (h2:exec T dy y σ1=some σ2):∃τ,exec T dy y σ=some τ/\exec T dx x τ=some σ2:=by
 have aaL:∀(e:Nat->aj) (v:aj) (s:St),∀a∈y.args,(s.we (jt s.env dx v)).ev a=s.ev a:=fun e v s a ha=>KU fun n hn=>sQ fun qN=>sB n qN (hn▸ha);have aaJ:∀(e:Nat->aj) (v:aj) (s:St),∀a∈x.args,(s.we (jt s.env dy v)).ev a=s.ev a:=fun e v s a ha=>KU fun n hn=>sQ fun qN=>vj n qN (hn▸ha);by_cases cx:x.fa=0
 ·rw[qF T dx x σ (by omega)] at h1;cases hr:rd T dx x σ.ev σ.h with
  |none=>rw[hr] at h1;cases h1
  |some p=>
   obtain⟨v,bs⟩:=p;have hb:bs=[]:=adN T dx x _ _ cx hr;subst hb;rw[hr] at h1;simp only[Option.bind_some,gF,St.dF,Option.map_some] at h1;injection h1 with h1;rw[qm] at h1;subst h1;rw[QC T dy y σ _ (aaL σ.env v σ) GU] at h2;cases hy:exec T dy y σ with
   |none=>rw[hy] at h2;cases h2
   |some τ=>
    rw[hy] at h2;simp only[Option.map_some] at h2;injection h2 with h2;refine⟨τ,rfl,?_⟩;have tO:=yD GU hy;rw[qF T dx x τ (by omega),adO T dx x τ.ev σ.h τ.h cx,EM T dx x (ev:=σ.ev) (ev':=τ.ev) σ.h (fun a ha=>by
     cases a with
     |t n=>
      show τ.env n=σ.env n;rw[tO];exact sQ fun qN=>vj n qN ha
     |k v=>rfl),hr]
    simp only[Option.bind_some,gF,St.dF,Option.map_some];rw[<-h2,qm];congr 1;have:jt τ.env dx v=ui (jt σ.env dx v) dy τ.env:=by
     rw[Ww,MT σ.env _ _ hd];rw[<-tO]
    rw[this]
 ·by_cases cy:y.fa=0
  ·rw[qF T dy y σ1 (by omega)] at h2;cases hr:rd T dy y σ1.ev σ1.h with
   |none=>rw[hr] at h2;cases h2
   |some p=>
    obtain⟨v,bs⟩:=p;have hb:bs=[]:=adN T dy y _ _ cy hr;subst hb;rw[hr] at h2;simp only[Option.bind_some,gF,St.dF,Option.map_some] at h2;injection h2 with h2;have tO:=yD wM h1;refine⟨σ.put dy v,?_,?_⟩
    ·rw[qF T dy y σ (by omega),adO T dy y σ.ev σ1.h σ.h cy,EM T dy y (ev:=σ1.ev) (ev':=σ.ev) σ1.h (fun a ha=>by
      cases a with
      |t n=>
       show σ.env n=σ1.env n;rw[tO];exact(sQ fun qN=>sB n qN ha).symm
      |k v=>rfl),hr]
     rfl
    ·rw[qm,QC T dx x σ _ (aaJ σ.env v σ) wM,h1];simp only[Option.map_some];rw[<-h2,qm];congr 2;rw[Ww,<-MT σ.env _ _ hd,<-tO]
  ·have X4:x.fa<=1:=by omega
   have X5:y.fa<=1:=by omega
   rw[qF T dx x σ X4] at h1;cases hr:rd T dx x σ.ev σ.h with
   |none=>rw[hr] at h1;cases h1
   |some p=>
    obtain⟨v,A⟩:=p;rw[hr] at h1;simp only[Option.bind_some,gF] at h1;cases hA:σ.dF A with
    |none=>rw[hA] at h1;cases h1
    |some zZ=>
     rw[hA] at h1;simp only[Option.map_some] at h1;injection h1 with h1;rw[qm] at h1;subst h1;obtain⟨oa,ea⟩:=Bi hA;rw[qF T dy y _ X5] at h2;have hry:rd T dy y (zZ.we (jt zZ.env dx v)).ev (zZ.we (jt zZ.env dx v)).h=rd T dy y σ.ev σ.h:=by
      rw[EM T dy y (ev:=σ.ev) _ (fun a ha=>by rw[aaL σ.env v zZ a ha];cases a with
       |t n=>show zZ.env n=σ.env n;rw[ea]
       |k v=>rfl)]
      exact adL (u:=fun n=>σ.used n=true) T dy y σ.ev (fun n hn=>(oa n hn).2) W.box (fun a ha m hm=>W.arg (AW a ha) m hm)
     rw[hry] at h2;cases R6:rd T dy y σ.ev σ.h with
     |none=>rw[R6] at h2;cases h2
     |some q=>
      obtain⟨v2,Bs⟩:=q;rw[R6] at h2;simp only[Option.bind_some,gF,Bj] at h2;cases hB:zZ.dF Bs with
      |none=>rw[hB] at h2;cases h2
      |some ahf=>
       rw[hB] at h2;simp only[Option.map_some] at h2;injection h2 with h2;obtain⟨z3,b1,b2⟩:=SH hA hB;obtain⟨ob,eb⟩:=Bi b1;obtain⟨oab,eab⟩:=Bi hB;refine⟨z3.put dy v2,?_,?_⟩
       ·rw[qF T dy y σ X5,R6];simp[gF,b1]
       ·rw[qm,qF T dx x _ X4];have hrx:rd T dx x (z3.we (jt z3.env dy v2)).ev (z3.we (jt z3.env dy v2)).h=rd T dx x σ.ev σ.h:=by
         rw[EM T dx x (ev:=σ.ev) _ (fun a ha=>by rw[aaJ σ.env v2 z3 a ha];cases a with
          |t n=>show z3.env n=σ.env n;rw[eb]
          |k v=>rfl)]
         exact adL (u:=fun n=>σ.used n=true) T dx x σ.ev (fun n hn=>(ob n hn).2) W.box (fun a ha m hm=>W.arg (Ll a ha) m hm)
        rw[hrx,hr];simp only[Option.bind_some,gF,Bj,b2,Option.map_some];rw[<-h2,qm,qm];congr 1;show ahf.we (jt (jt z3.env dy v2) dx v)=ahf.we (jt (jt zZ.env dx v) dy v2);rw[eb,ea,MT σ.env _ _ hd]
end
theorem Ds (T:aQ) (o:bQ) (σ:St):ef T o σ=(nN o σ.env).bind fun op=>exec T o.dst op σ:=by
 unfold ef nN;cases hg:o.guard with
 |none=>rfl
 |some g=>
  obtain⟨s,mA⟩:=g;simp only
  generalize σ.env s=v;cases v with
  |one c=>cases c with
   |c x=>cases x with
    |bool b=>simp only;split<;>rfl
    |_=>rfl
   |_=>rfl
  |agg cs=>rfl
  |bK xs=>cases xs<;>rfl
def bQ.vI (o:bQ) (n:Nat):Bool:=(o.op.args.all fun a=>match a with|.t m=>m !=n|_=>true)&&(match o.guard with|some (s,_)=>s !=n|none=>true)
def bQ.r9 (o:bQ):Bool:=o.op.args.all MO.flat&&(match o.op with|.store ..=>o.dst.isNone|_=>true)
def Di (x y:bQ):Bool:=
 (match x.dst with|some d=>y.vI d&&(match y.dst with|some e=>e !=d|none=>true)|none=>true)&&
 (match y.dst with|some d=>x.vI d|none=>true)&&x.r9&&y.r9&&(x.op.fa==0||y.op.fa==0||(decide (x.op.fa<=1)&&decide (y.op.fa<=1)))
theorem bQ.ME {o:bQ} {n:Nat} (h:o.vI n=true):MO.t n∉o.op.args:=by
 intro hm;simp only[bQ.vI,Bool.and_eq_true,List.all_eq_true] at h;have:=h.1 _ hm;simp at this
theorem KM {o:bQ} {e:Nat->aj} {op:aT} (h:nN o e=some op):op=o.op\/op=.mv (.k (.bK [])):=by
 unfold nN at h;split at h
 ·injection h with h;exact .inl h.symm
 ·split at h
  ·split at h
   ·injection h with h;exact .inl h.symm
   ·injection h with h;exact .inr h.symm
  ·injection h with h;exact .inr h.symm
  ·cases h
theorem Gs {o:bQ} {e e':Nat->aj} (h:∀s w,o.guard=some (s,w)->e' s=e s):nN o e'=nN o e:=by
 unfold nN;cases hg:o.guard with
 |none=>rfl
 |some g=>obtain⟨s,w⟩:=g;simp only;rw[h s w hg]
theorem aic {T:aQ} {x y:bQ} {σ σ1 σ2:St} (W:Wf σ) (hc:Di x y=true) (h1:ef T x σ=some σ1) (h2:ef T y σ1=some σ2):
  ∃τ,ef T y σ=some τ/\ef T x τ=some σ2:=by
 simp only[Di,Bool.and_eq_true] at hc;obtain⟨⟨⟨⟨c1,c2⟩,c3⟩,c4⟩,c5⟩:=hc;rw[Ds] at h1 h2;cases ex:nN x σ.env with
 |none=>rw[ex] at h1;cases h1
 |some kD=>
  rw[ex] at h1;have h1:exec T x.dst kD σ=some σ1:=h1;have jx:kD=x.op\/kD=.mv (.k (.bK [])):=KM ex;have B8:∀sz p v,kD=.store sz p v->x.dst=none:=by
   intro sz p v he;rcases jx with rfl|rfl
   ·simp only[bQ.r9,Bool.and_eq_true,he] at c3;simpa using c3.2
   ·cases he
  have tO:=yD B8 h1;have Sj:∀s w,y.guard=some (s,w)->x.dst≠some s:=by
   intro s w hg hd;rw[hd] at c1;simp[bQ.vI,hg] at c1
  have LH:∀s w,x.guard=some (s,w)->y.dst≠some s:=by
   intro s w hg hd;rw[hd] at c2;simp[bQ.vI,hg] at c2
  have KX:nN y σ1.env=nN y σ.env:=Gs fun s w hg=>by rw[tO];exact sQ (Sj s w hg)
  rw[KX] at h2;cases ey:nN y σ.env with
  |none=>rw[ey] at h2;cases h2
  |some kc=>
   rw[ey] at h2;have h2:exec T y.dst kc σ1=some σ2:=h2;have jy:kc=y.op\/kc=.mv (.k (.bK [])):=KM ey;have zQ:∀sz p v,kc=.store sz p v->y.dst=none:=by
    intro sz p v he;rcases jy with rfl|rfl
    ·simp only[bQ.r9,Bool.and_eq_true,he] at c4;simpa using c4.2
    ·cases he
   have GA:∀a∈kD.args,a.flat=true:=by
    rcases jx with rfl|rfl
    ·simp only[bQ.r9,Bool.and_eq_true,List.all_eq_true] at c3;exact c3.1
    ·intro a ha;simp[aT.args] at ha;subst ha;rfl
   have GC:∀a∈kc.args,a.flat=true:=by
    rcases jy with rfl|rfl
    ·simp only[bQ.r9,Bool.and_eq_true,List.all_eq_true] at c4;exact c4.1
    ·intro a ha;simp[aT.args] at ha;subst ha;rfl
   have sB:∀n,x.dst=some n->MO.t n∉kc.args:=by
    intro n hd;rcases jy with rfl|rfl
    ·rw[hd] at c1;simp only[Bool.and_eq_true] at c1;exact bQ.ME c1.1
    ·simp[aT.args]
   have vj:∀n,y.dst=some n->MO.t n∉kD.args:=by
    intro n hd;rcases jx with rfl|rfl
    ·rw[hd] at c2;exact bQ.ME c2
    ·simp[aT.args]
   have tI:∀n,x.dst=some n->y.dst≠some n:=by
    intro n hd he;rw[hd,he] at c1;simp at c1
   have cC:kD.fa=0\/kc.fa=0\/(kD.fa<=1/\kc.fa<=1):=by
    rcases jx with rfl|rfl
    ·rcases jy with rfl|rfl
     ·simp only[Bool.or_eq_true,beq_iff_eq,Bool.and_eq_true,decide_eq_true_eq,or_assoc] at c5;exact c5
     ·exact .inr (.inl rfl)
    ·exact .inl rfl
   obtain⟨τ,t1,t2⟩:=XQ W tI sB vj GA GC B8 zQ cC h1 h2;refine⟨τ,?_,?_⟩
   ·rw[Ds,ey];exact t1
   ·rw[Ds,Gs (e:=σ.env) (fun s w hg=>by rw[yD zQ t1];exact sQ (LH s w hg)),ex];exact t2
def v9 (P:Program) (f:FuncId) (M:List Dv->Option (List Dv)):Prop:=
 ∀ds rs,M ds=some rs->∀(w:World) (vals:List Value),FB w ds vals->Calls P f vals.toArray w fun e w'=>
  ∃(sz cap:Nat) (a:Option Addr) (xs:List (List PC)),rs=[(.one,[(PC.list sz a cap xs).er])]/\e=.returned (PC.list sz a cap xs).val/\wb w' w.heap.size [PC.list sz a cap xs]/\Fr w.heap.size Ex.no w w'/\pJ w' sz xs
theorem v9.pure {P:Program} {f:FuncId} {M:List Dv->Option (List Dv)} (h:v9 P f M):dh P f M:=by
 intro ds rs hM w vals ha;refine(h ds rs hM w vals ha).mono fun e w' ⟨sz,cap,a,xs,h1,h2,h3,h4,_⟩=>?_;refine⟨[(.one,[PC.list sz a cap xs])],by rw[h1];rfl,h2,fun p hp=>?_,by simpa using h3,h4⟩;simp at hp;subst hp;exact⟨by simp,fun _=>rfl⟩
def I4 (P:Program) (T:aQ):Prop:=∀f M,aQ.find T.ns f=some M->v9 P f M
def Qb (ops:Array Oper) (o:Oper) (mo:bQ):Bool:=
 match o.guard,mo.guard with
 |none,none=>true
 |some (j,mA),some (s,ag8)=>decide ((ops[j]?).bind (·.dst)=some s)&&(mA==ag8)
 |_,_=>false
def oM (P:Program) (N:Nat) (ops:Array Oper) (o:Oper) (mo:bQ):Bool:=
 decide (o.dst=mo.dst)&&(match o.dst with|some n=>decide (n<N)|none=>true)&&Qb ops o mo&&e9 P o mo.op
def jW (P:Program) (N:Nat) (ops:Array Oper):List Oper->List bQ->Bool
 |[],[]=>true
 |o::os,m::ms=>oM P N ops o m&&jW P N ops os ms
 |_,_=>false
section
variable {B:Nat} {E:Ex} {w0 w w':World} {G G':Gh} {N:Nat}
variable {P:Program} {T:aQ} {o:Oper} {mo:bQ} {a:Act} {σ σ':St} {Q:Exit->Act->World->Prop} {ops:Array Oper}
structure jT (P:Program) (T:aQ):Prop where
 spec:I3 P T
 af3:CQ P T
 af4:CR P T
 af5:yj P T
 atw:I4 P T
 fn:∀f M,aQ.find T.pure f=some M->bS P f=true
theorem R.guard (r:R B E w0 N σ a w G) {j s:Nat} {b:Bool} (hj:(ops[j]?).bind (·.dst)=some s) (hb:σ.env s=.one (.c (.bool b))):yielded ops a.tmps j=some b:=by
 have h1:=r.env s;rw[hb] at h1;have h2:=h1.C4;have h3:a.tmps[s]? =some (.bool b):=by
  rw[Array.getD_eq_getD_getElem?] at h2;cases ht:a.tmps[s]? with
  |none=>rw[ht] at h2;simp[undef] at h2
  |some v=>rw[ht] at h2;simp at h2;rw[h2]
 unfold yielded;rw[hj];simp[h3]
theorem afT {w:World} {G:Gh} {h:Nat->Option aq}:RA w G h (.bK []) undef:=⟨[],rfl,rfl,fun j x u hx=>by simp at hx⟩
theorem afU {u:Nat->Prop} (m:Nat) (hm:(aj.bK []).ref m):u m:=by
 obtain⟨c,hc,_⟩:=hm;cases hc
theorem R.akQ (r:R B E w0 N σ a w G) {j s:Nat} (hj:(ops[j]?).bind (·.dst)=some s) (hb:σ.env s=.bK []):yielded ops a.tmps j=none:=by
 have h1:=r.env s;rw[hb] at h1;obtain⟨vs,h2,h3,_⟩:=h1;have:vs=[]:=List.length_eq_zero_iff.1 h3;subst this;rw[Array.getD_eq_getD_getElem?] at h2;unfold yielded;rw[hj];simp only[Option.bind_some];cases ht:a.tmps[s]? with
 |none=>rfl
 |some v=>
  rw[ht] at h2;simp only[Option.getD_some] at h2;subst h2;rfl
theorem AE (r:R B E w0 N σ a w G) (hT:jT P T) (hc:oM P N ops o mo=true) (hx:ef T mo σ=some σ'):
  (Region.wanted o (yielded ops a.tmps)=true/\o.wp P a w (Nx B E w0 N σ') Q)\/(Region.wanted o (yielded ops a.tmps)=false/\Nx B E w0 N σ' (a.put o.dst undef) w):=by
 simp only[oM,Bool.and_eq_true,decide_eq_true_eq] at hc;obtain⟨⟨⟨c1,c2⟩,c3⟩,c4⟩:=hc;have hN:∀n,o.dst=some n->n<N:=fun n hn=>by rw[hn] at c2;simpa using c2
 unfold Qb at c3;unfold ef at hx;split at c3
 ·rename_i g1 g2;simp only[g2] at hx;rw[<-c1] at hx;exact .inl ⟨by simp[Region.wanted,g1],YC r hT.spec hT.af3 hT.af4 hT.af5 hT.fn hN c4 hx⟩
 ·rename_i j mA s ag8 g1 g2;simp only[Bool.and_eq_true,decide_eq_true_eq,beq_iff_eq] at c3;obtain⟨k1,rfl⟩:=c3;simp only[g2] at hx;split at hx
  ·rename_i b hb;have hy:=r.guard k1 hb;split at hx
   ·rename_i Rl;rw[<-c1] at hx;exact .inl ⟨by simp[Region.wanted,g1,hy,Rl],YC r hT.spec hT.af3 hT.af4 hT.af5 hT.fn hN c4 hx⟩
   ·rename_i Rl;injection hx with hx;subst hx;refine .inr ⟨by simp[Region.wanted,g1,hy,Rl],G,?_⟩;rw[<-c1];exact r.put (x:=.bK []) afT afU hN
  ·rename_i hb;have hy:=r.akQ k1 hb;injection hx with hx;subst hx;refine .inr ⟨by simp[Region.wanted,g1,hy],G,?_⟩;rw[<-c1];exact r.put (x:=.bK []) afT afU hN
  ·cases hx
 ·cases c3
theorem R.wf (r:R B E w0 N σ a w G):Wf σ:=⟨r.pC,r.hr.ik⟩
theorem aut {K:Act->World->Prop} (h:o.wp P a w K (fun _ _ _=>False)):∃a' w',K a' w':=by
 unfold Oper.wp at h;unfold Oper.upon at h;split at h
 ·exact⟨_,_,h⟩
 ·exact⟨_,_,h⟩
 ·exact⟨_,_,h⟩
 ·obtain⟨e,w',fr,hR,_⟩:=h [];cases e with
  |returned v=>exact⟨_,_,hR⟩
  |panicked c=>exact hR.elim
  |outgrown=>obtain⟨_,_,hf⟩:=hR;exact hf.elim
 ·obtain⟨v,w',hR,_⟩:=h default [];exact⟨_,_,hR⟩
 ·exact h.elim
 ·exact h.elim
def Ac (B:Nat) (E:Ex) (w0:World) (N:Nat) (σ:St):Prop:=∃a w G,R B E w0 N σ a w G
theorem TW (r:Ac B E w0 N σ) (hT:jT P T) (hc:oM P N ops o mo=true) (hx:ef T mo σ=some σ'):Ac B E w0 N σ':=by
 obtain⟨a,w,G,r⟩:=r;rcases AE (Q:=fun _ _ _=>False) r hT hc hx with⟨_,h⟩|⟨_,G',h⟩
 ·obtain⟨a',w',G',h⟩:=aut h;exact⟨a',w',G',h⟩
 ·exact⟨_,_,G',h⟩
theorem WD (hT:jT P T):∀{l:List Oper} {ms:List bQ} {σ σ':St} {a:Act} {w:World} {G:Gh},jW P N ops l ms=true->fv T ms σ=some σ'->R B E w0 N σ a w G->
  (∀a w G,R B E w0 N σ' a w G->Q .normal a w)->wpList P ops Q l a w
 |[],[],σ,σ',a,w,G,hc,hx,r,hQ=>by
  simp only[fv] at hx;injection hx with hx;subst hx;exact hQ _ _ _ r
 |o::l,m::ms,σ,σ',a,w,G,hc,hx,r,hQ=>by
  simp only[jW,Bool.and_eq_true] at hc;simp only[fv] at hx;split at hx
  ·rename_i σ1 e1;unfold wpList;rcases AE (Q:=Q) r hT hc.1 e1 with⟨hw,h⟩|⟨hw,G',h⟩
   ·rw[if_pos hw];exact .inl (Oper.wp_mono (fun a' w' ⟨G',r'⟩=>WD hT hc.2 hx r' hQ) h)
   ·rw[if_neg (by simp[hw])];exact WD hT hc.2 hx h hQ
  ·cases hx
 |[],_::_,_,_,_,_,_,hc,_,_,_=>by simp[jW] at hc
 |_::_,[],_,_,_,_,_,hc,_,_,_=>by simp[jW] at hc
def r8 (T:aQ) (ms:List bQ):List Nat->St->Option St
 |[],σ=>some σ
 |i::L,σ=>match ms[i]? with
  |some o=>match ef T o σ with
   |some σ1=>r8 T ms L σ1
   |none=>none
  |none=>none
inductive qw (ops:Array Oper):Nat->Nat->Prop where
 |Ye (i:Nat) (o:Oper) (e:_):ops[i]? =some o->e∈o.after->Region.binds .any e=true->qw ops i e.on
 |step (i j:Nat) (o:Oper) (e:_):ops[i]? =some o->e∈o.after->Region.binds .any e=true->qw ops e.on j->qw ops i j
def Qw (o:Oper):List Nat:=(o.after.toList.filter (Region.binds .any)).map (·.on)
def HM (dP:List Nat):List Nat->Nat
 |[]=>0
 |j::js=>(Nat.shiftLeft 1 j|||dP.getD j 0)|||HM dP js
def vF:List Oper->List Nat->List Nat
 |[],dP=>dP
 |o::os,dP=>vF os (dP++[HM dP (Qw o)])
theorem an6 {o:Oper} {j:Nat} (h:j∈Qw o):∃e∈o.after,Region.binds .any e=true/\e.on=j:=by
 unfold Qw at h;simp only[List.mem_map,List.mem_filter] at h;obtain⟨e,⟨h1,h2⟩,h3⟩:=h;exact⟨e,Array.mem_toList_iff.1 h1,h2,h3⟩
theorem aby {dP:List Nat}:∀{js:List Nat} {k:Nat},(HM dP js).testBit k=true->∃j∈js,j=k\/(dP.getD j 0).testBit k=true
 |[],k,h=>by simp[HM] at h
 |j::js,k,h=>by
  simp only[HM,Nat.testBit_or,Bool.or_eq_true] at h;rcases h with(h|h)|h
  ·refine⟨j,by simp,.inl ?_⟩;have h':(1<<<j).testBit k=true:=h;rw[Nat.one_shiftLeft,Nat.testBit_two_pow] at h';exact of_decide_eq_true h'
  ·exact⟨j,by simp,.inr h⟩
  ·obtain⟨j',h1,h2⟩:=aby h;exact⟨j',by simp[h1],h2⟩
theorem Mo {ops:Array Oper}:∀(os:List Oper) (dP:List Nat) (pre:List Oper),ops.toList=pre++os->dP.length=pre.length->(∀i k,(dP.getD i 0).testBit k=true->qw ops i k)->
  ∀i k,((vF os dP).getD i 0).testBit k=true->qw ops i k
 |[],dP,pre,_,_,h,i,k,hb=>h i k hb
 |o::os,dP,pre,he,hl,h,i,k,hb=>by
  refine Mo os _ (pre++[o]) (by simp[he]) (by simp[hl]) (fun i k hb=>?_) i k hb;by_cases cu:i<dP.length
  ·rw[List.getD_eq_getElem?_getD,List.getElem?_append_left cu,<-List.getD_eq_getElem?_getD] at hb;exact h i k hb
  ·by_cases hi:i=dP.length
   ·subst hi;rw[List.getD_eq_getElem?_getD,List.getElem?_append_right (Nat.le_refl _),Nat.sub_self] at hb;simp only[List.getElem?_cons_zero,Option.getD_some] at hb;have ho:ops[dP.length]? =some o:=by
     have:ops.toList[dP.length]? =some o:=by rw[he,hl,List.getElem?_append_right (Nat.le_refl _),Nat.sub_self];rfl
     simpa using this
    obtain⟨j,h1,h2⟩:=aby hb;obtain⟨e,e1,e2,rfl⟩:=an6 h1;rcases h2 with rfl|h2
    ·exact .Ye _ o e ho e1 e2
    ·exact .step _ _ o e ho e1 e2 (h _ _ h2)
   ·rw[List.getD_eq_getElem?_getD,List.getElem?_eq_none (by simp;omega)] at hb;simp at hb
def Kx (ops:List Oper) (ms:List bQ):Bool:=
 (fun ks:List Nat=>(List.range ops.length).all fun i=>match ops[i]?,ms[i]? with
  |some o,some m=>(o.after.toList.all fun e=> !Region.binds .any e||decide (e.on<i))&&
   (List.range i).all fun j=>(ks.getD i 0).testBit j||(match ms[j]? with|some mj=>Di mj m|none=>false)
  |_,_=>false) (vF ops [])
structure WL (ops:Array Oper) (ms:List bQ):Prop where
 back:∀(i:Nat) (o:Oper),ops[i]? =some o->∀e∈o.after,Region.binds .any e=true->e.on<i
 pair:∀(i j:Nat) (o:Oper) (m:bQ),ops[i]? =some o->ms[i]? =some m->j<i->qw ops i j\/∃mj,ms[j]? =some mj/\Di mj m=true
theorem ah0 {ms:List bQ} (h:Kx ops.toList ms=true):WL ops ms:=by
  simp only[Kx,List.all_eq_true,List.mem_range] at h;have cW:∀(i:Nat) (o:Oper),ops[i]? =some o->∃m,ms[i]? =some m/\(o.after.toList.all fun e=> !Region.binds .any e||decide (e.on<i))=true/\
        ∀j,j<i->(((vF ops.toList []).getD i 0).testBit j||(match ms[j]? with|some mj=>Di mj m|none=>false))=true:=by
    intro i o ho;have hi:i<ops.toList.length:=by simpa using(Array.getElem?_eq_some_iff.1 ho).1
    have hi':=h i hi;have fE:ops.toList[i]? =some o:=by simpa using ho
    rw[fE] at hi';cases hm:ms[i]? with
    |none=>rw[hm] at hi';cases hi'
    |some m=>
     rw[hm] at hi';simp only[Bool.and_eq_true,List.all_eq_true,List.mem_range] at hi';exact⟨m,rfl,by rw[List.all_eq_true];exact hi'.1,hi'.2⟩
  refine⟨fun i o ho e he hb=>?_,fun i j o m ho hm hj=>?_⟩
  · obtain⟨m,_,k1,_⟩:=cW i o ho;have:=List.all_eq_true.1 k1 e (Array.mem_toList_iff.2 he);simp[hb] at this;exact this
  · obtain⟨m',bP,_,k2⟩:=cW i o ho;rw[hm] at bP;injection bP with bP;subst bP;have:=k2 j hj;rw[Bool.or_eq_true] at this;rcases this with h1|h1
    · exact .inl (Mo ops.toList [] [] rfl rfl (by intro i k hb;simp at hb) i j h1)
    · cases DT:ms[j]? with
      |none=>rw[DT] at h1;cases h1
      |some mj=>rw[DT] at h1;exact .inr ⟨mj,rfl,h1⟩
def FG (ops:Array Oper) (cJ:Array Bool):Prop:=
 ∀(k:Nat) (o:Oper),ops[k]? =some o->cJ.getD k true=true->∀e∈o.after,Region.binds .any e=true->cJ.getD e.on true=true
theorem C0 {cJ:Array Bool} (hc:FG ops cJ) {i j:Nat} (hb:qw ops i j):(∀o,ops[i]? =some o->∀e∈o.after,Region.binds .any e=true->cJ.getD e.on true=true)->cJ.getD j true=true:=by
 induction hb with
 |Ye i o e ho he hb=>exact fun h=>h o ho e he hb
 |step i j o e ho he hb _ ih=>exact fun h=>ih fun o' fE=>hc _ o' fE (h o ho e he hb)
theorem YG (hT:jT P T) {ms:List bQ} (gQ:∀(i:Nat) (m:bQ),ms[i]? =some m->∃o,ops[i]? =some o/\oM P N ops o m=true) {i:Nat} {mi:bQ} (hi:ms[i]? =some mi) {post:List Nat} {eu:St}:
  ∀{pre:List Nat} {σ:St},Ac B E w0 N σ->r8 T ms (pre++i::post) σ=some eu->(∀j∈pre,∃mj,ms[j]? =some mj/\Di mj mi=true)->
  ∃τ,ef T mi σ=some τ/\r8 T ms (pre++post) τ=some eu
 |[],σ,hr,hx,hc=>by
  simp only[List.nil_append,r8,hi] at hx;split at hx
  ·rename_i σ1 e;exact⟨σ1,e,hx⟩
  ·cases hx
 |j::pre,σ,hr,hx,hc=>by
  obtain⟨mj,hj,jD⟩:=hc j (by simp);simp only[List.cons_append,r8,hj] at hx;split at hx
  ·rename_i σ1 e1;obtain⟨oj,_,fN⟩:=gQ j mj hj;obtain⟨oH,t1,t2⟩:=YG hT gQ hi (TW hr hT fN e1) hx (fun k hk=>hc k (by simp[hk]));obtain⟨a,w,G,r⟩:=hr;obtain⟨τ,s1,s2⟩:=aic r.wf jD e1 t1;exact⟨τ,s1,by simp only[List.cons_append,r8,hj,s2];exact t2⟩
  ·cases hx
theorem aup (hT:jT P T) {ms:List bQ} (gQ:∀(i:Nat) (m:bQ),ms[i]? =some m->∃o,ops[i]? =some o/\oM P N ops o m=true) (hlen:ms.length=ops.size) (hd:WL ops ms) {eu:St}
  (hQ:∀a w G,R B E w0 N eu a w G->Q .normal a w):
  ∀(gh:Nat) (L:List Nat) (cJ:Array Bool) (σ:St) (a:Act) (w:World) (G:Gh),R B E w0 N σ a w G->r8 T ms L σ=some eu->L.Pairwise (·<·)->L.length<=gh->cJ.size=ops.size->
   (∀j,j∈L↔cJ.getD j true=false)->FG ops cJ->wpAny P .any ops Q gh cJ a w:=by
 have first:∀(L:List Nat) (cJ:Array Bool),L.Pairwise (·<·)->cJ.size=ops.size->(∀j,j∈L↔cJ.getD j true=false)->Region.ready .any ops cJ=[]->L=[]:=by
  intro L cJ hp hs hL hr;cases L with
  |nil=>rfl
  |cons j L=>
   exfalso;have hj:=(hL j).1 (by simp);have kN:j<ops.size:=by
    rw[<-hs];rcases Nat.lt_or_ge j cJ.size with h|h
    ·exact h
    ·simp[Array.getElem?_eq_none h] at hj
   have ho:ops[j]? =some ops[j]:=Array.getElem?_eq_getElem kN;have:j∈Region.ready .any ops cJ:=by
    rw[mem_ready];refine⟨hj,_,ho,fun e he hb=>?_⟩;have cu:=hd.back j _ ho e he hb;have mK:e.on∉j::L:=by
     intro hm;cases hm with
     |head=>omega
     |tail _ hm=>have:=(List.pairwise_cons.1 hp).1 _ hm;omega
    have aD:cJ.getD e.on true≠false:=fun h=>mK ((hL e.on).2 h);have ni:e.on<cJ.size:=by omega
    simp[ni] at aD⊢;exact aD
   rw[hr] at this;cases this
 intro gh;induction gh with
 |zero=>
  intro L cJ σ a w G r hx hp hl hs hL hC;have qK:L=[]:=List.eq_nil_of_length_eq_zero (by omega);subst qK;simp only[r8] at hx;injection hx with hx;subst hx;refine⟨?_,hQ _ _ _ r⟩;cases hr:Region.ready .any ops cJ with
  |nil=>rfl
  |cons i l=>
   have hm:i∈Region.ready .any ops cJ:=by rw[hr];simp
   have:=(hL i).2 (mem_ready.1 hm).1;cases this
 |succ gh ih=>
  intro L cJ σ a w G r hx hp hl hs hL hC;refine⟨fun hr=>?_,fun i hi=>?_⟩
  ·have qK:=first L cJ hp hs hL hr
   subst qK;simp only[r8] at hx;injection hx with hx;subst hx;exact hQ _ _ _ r
  ·obtain⟨A3,oi,iG,AP⟩:=mem_ready.1 hi;have pQ:i∈L:=(hL i).2 A3;obtain⟨pre,post,rfl⟩:=List.append_of_mem pQ;have DR:i<ops.size:=(Array.getElem?_eq_some_iff.1 iG).1;have sr:ms[i]? =some ms[i]:=List.getElem?_eq_getElem (by omega);obtain⟨o',fE,jk⟩:=gQ i _ sr;rw[iG] at fE;injection fE with fE;subst fE;have f6:=List.pairwise_append.1 hp;obtain⟨τ,t1,t2⟩:=YG (ops:=ops) hT gQ sr ⟨a,w,G,r⟩ hx (fun j hj=>by
    have kM:j<i:=f6.2.2 j hj i (by simp);rcases hd.pair i j oi _ iG sr kM with GN|h
    ·have h1:=C0 hC GN (fun o ho e he hb=>by
      rw[iG] at ho;injection ho with ho;subst ho;have h1:=AP e he hb;have cu:=hd.back i _ iG e he hb;have ni:e.on<cJ.size:=by omega
      simp[ni] at h1⊢;exact h1)
     have h2:=(hL j).1 (by simp[hj]);rw[h1] at h2;cases h2
    ·exact h)
   have ve:∀a' w',Nx B E w0 N τ a' w'->wpAny P .any ops Q gh (cJ.setIfInBounds i true) a' w':=by
    rintro a' w' ⟨G',r'⟩;refine ih (pre++post) _ τ a' w' G' r' t2 ?_ (by simp at hl⊢;omega) (by simpa using hs) (fun j=>?_) (fun k o ho hk e he hb=>?_)
    ·rw[List.pairwise_append];exact⟨f6.1,(List.pairwise_cons.1 f6.2.1).2,fun x hx y hy=>f6.2.2 x hx y (by simp[hy])⟩
    ·by_cases kM:j=i
     ·subst kM;have kN:j<cJ.size:=by omega
      simp only[List.mem_append];constructor
      ·rintro(h|h)
       ·have:=f6.2.2 j h j (by simp);omega
       ·have:=(List.pairwise_cons.1 f6.2.1).1 j h;omega
      ·intro h;simp[kN] at h
     ·rw[getD_set_ne true (Ne.symm kM),<-hL j];simp[kM]
    ·have yU:∀q,cJ.getD q true=true->(cJ.setIfInBounds i true).getD q true=true:=by
      intro q hq;by_cases n5:q=i
      ·subst n5;have:q<cJ.size:=by omega
       simp[this]
      ·rw[getD_set_ne true (Ne.symm n5)];exact hq
     by_cases yS:k=i
     ·subst yS;rw[iG] at ho;injection ho with ho;subst ho;have h1:=AP e he hb;have cu:=hd.back k _ iG e he hb;have ni:e.on<cJ.size:=by omega
      refine yU _ ?_;simp[ni] at h1⊢;exact h1
     ·rw[getD_set_ne true (Ne.symm yS)] at hk;exact yU _ (hC k o ho hk e he hb)
   unfold wpOp;rw[iG];simp only
   rcases AE (Q:=Q) r hT jk t1 with⟨hw,h⟩|⟨hw,h⟩
   ·rw[if_pos hw];exact .inl (Oper.wp_mono ve h)
   ·rw[if_neg (by simp[hw])];exact ve _ _ h
theorem YF:∀(post pre:List bQ) (σ:St),r8 T (pre++post) (List.range' pre.length post.length) σ=fv T post σ
 |[],pre,σ=>by simp[r8,fv]
 |m::post,pre,σ=>by
  simp only[List.length_cons,List.range'_succ,r8,fv];rw[List.getElem?_append_right (Nat.le_refl _),Nat.sub_self];simp only[List.getElem?_cons_zero];cases ef T m σ with
  |none=>rfl
  |some σ1=>
   have:=YF post (pre++[m]) σ1;simp only[List.length_append,List.length_cons,List.length_nil,List.append_assoc,List.singleton_append,Nat.zero_add] at this;exact this
theorem Qg:∀{l:List Oper} {ms:List bQ},jW P N ops l ms=true->ms.length=l.length/\∀(i:Nat) (m:bQ),ms[i]? =some m->∃o,l[i]? =some o/\oM P N ops o m=true
 |[],[],_=>⟨rfl,by simp⟩
 |o::l,m::ms,hc=>by
  simp only[jW,Bool.and_eq_true] at hc;obtain⟨i1,i2⟩:=Qg hc.2;refine⟨by simp[i1],fun i m' hm=>?_⟩;cases i with
  |zero=>simp at hm;subst hm;exact⟨o,rfl,hc.1⟩
  |succ i=>exact i2 i m' (by simpa using hm)
 |[],_::_,hc=>by simp[jW] at hc
 |_::_,[],hc=>by simp[jW] at hc
theorem R.drawn (r:R B E w0 N σ a w G) (k:Nat):R B E w0 N σ a {w with drawn:=k} G:=by
 have hw:∀b,b<w.heap.size->({w with drawn:=k}:World).heap[b]? =w.heap[b]? :=fun _ _=>rfl
 exact r.step rfl (fun _ h=>h) (bm.world (fun b hb=>hw b (r.hr.gH b hb)) _) (r.hr.grow hw (Nat.le_refl _)) (r.fr.grow hw (Nat.le_refl _) rfl rfl rfl)
theorem asq (hT:jT P T) (hm:P.follows .mixedOrders=true) {id:Nat} {lV:Bool} {ms:List bQ} (hc:jW P N ops ops.toList ms=true) (hd:lV=true->Kx ops.toList ms=true)
  (hx:fv T ms σ=some σ') (r:R B E w0 N σ a w G) (hQ:∀a w G,R B E w0 N σ' a w G->Q .normal a w):(Code.region id ops lV).wp P Q a w:=by
 cases lV with
 |false=>exact wp_region_list (WD hT hc hx r hQ)
 |true=>
  obtain⟨k1,k2⟩:=Qg hc;have hlen:ms.length=ops.size:=by simpa using k1
  refine wp_region_any hm (aup (B:=B) (E:=E) (w0:=w0) (N:=N) hT (fun i m h=>by
   obtain⟨o,h1,h2⟩:=k2 i m h;exact⟨o,by simpa using h1,h2⟩) hlen (ah0 (hd rfl)) hQ ops.size (List.range ops.size) _ σ a _ G (r.drawn _) ?_ ?_ (by simp) (by simp) (fun j=>?_) (fun k o ho hk=>?_))
  ·have:=YF (T:=T) ms [] σ;simp only[List.nil_append,List.length_nil,hlen,<-List.range_eq_range'] at this;rw[this];exact hx
  ·exact List.pairwise_lt_range
  ·rw[List.mem_range];constructor
   ·intro h;simp[h]
   ·intro h;rcases Nat.lt_or_ge j ops.size with h'|h'
    ·exact h'
    ·simp[Array.getElem?_eq_none (show(Array.replicate ops.size false).size<=j by simpa using h')] at h
  ·exfalso;have G7:k<ops.size:=(Array.getElem?_eq_some_iff.1 ho).1;simp[G7] at hk
end
theorem T2 (ok:Nat->Bool) (env:Nat->aj):∀(ss:List Nat) (n:Nat),xE ok env ss n=if n∈ss then(env n).dR ok else .one .bq
 |[],n=>by simp[xE,yC]
 |s::ss,n=>by
  simp only[xE,kg,T2 ok env ss,List.mem_cons];by_cases h:n=s
  ·subst h;simp
  ·simp[h]
theorem M4 (ok:Nat->Bool) (h:Nat->Option aq):∀(ss:List Nat) (n:Nat),sT ok h ss n=if n∈ss/\ok n=true then(h n).map (·.dR ok) else none
 |[],n=>by simp[sT,Dn]
 |s::ss,n=>by
  have ih:=M4 ok h ss n;simp only[sT,List.mem_cons];by_cases hn:n=s
  ·subst hn;by_cases hk:ok n=true
   ·rw[if_pos hk];cases hh:h n with
    |some b=>simp[bR,hk]
    |none=>simp only[ih,hh];simp
   ·rw[if_neg hk,ih];simp[hk]
  ·by_cases hk:ok s=true
   ·rw[if_pos hk];cases hh:h s with
    |some b=>simp only[cN _ _ _ _ hn,ih];simp[hn]
    |none=>simp only[ih];simp[hn]
   ·rw[if_neg hk,ih];simp[hn]
theorem adX (ok:Nat->Bool):∀(ss:List Nat) (n:Nat),xF ok ss n=(decide (n∈ss)&&ok n)
 |[],n=>by simp[xF,Yj]
 |s::ss,n=>by
  have ih:=adX ok ss n;simp only[xF];by_cases hn:n=s
  ·subst hn;by_cases hk:ok n=true
   ·rw[if_pos hk];simp[bR,hk]
   ·rw[if_neg hk,ih];simp[hk]
  ·by_cases hk:ok s=true
   ·rw[if_pos hk,cN _ _ _ _ hn,ih];simp[hn]
   ·rw[if_neg hk,ih];simp[hn]
theorem ah.ah2 {ok:Nat->Bool} {c:ah} {m:Nat} (h:(c.fJ ok).hZ m):ok m=true:=by
 cases c<;>simp only[ah.fJ] at h<;>first|exact h.elim|skip
 all_goals
  split at h
  ·rename_i hk;have h':=h;simp only[ah.hZ] at h';subst h';exact hk
  ·exact h.elim
theorem ah.Dh {ok:Nat->Bool} {c:ah} {m:Nat} (h:(c.dR ok).ref m):ok m=true:=by
 cases c with
 |fn f cP=>
  obtain⟨x,hx,h⟩:=h;obtain⟨y,hy,rfl⟩:=List.mem_map.1 hx;exact ah.ah2 h
 |c x=>exact h.elim
 |nil sz=>exact h.elim
 |dg xs off=>exact h.elim
 |bq=>exact h.elim
 |ptr n k sz off=>
  simp only[ah.dR,ah.fJ] at h;split at h
  ·rename_i hk;have h':m=n:=h;subst h';exact hk
  ·exact h.elim
 |sl n sz lo len=>
  simp only[ah.dR,ah.fJ] at h;split at h
  ·rename_i hk;have h':m=n:=h;subst h';exact hk
  ·exact h.elim
 |bC n k aB off sz len=>
  simp only[ah.dR,ah.fJ] at h;split at h
  ·rename_i hk;have h':m=n:=h;subst h';exact hk
  ·exact h.elim
 |db n k aB off sz i=>
  simp only[ah.dR,ah.fJ] at h;split at h
  ·rename_i hk;have h':m=n:=h;subst h';exact hk
  ·exact h.elim
 |cH xs off j n sz len=>
  simp only[ah.dR,ah.fJ] at h;split at h
  ·rename_i hk;have h':m=n:=h;subst h';exact hk
  ·exact h.elim
section
variable {B:Nat} {E:Ex} {w0 w w':World} {G G':Gh} {N:Nat} {h h':Nat->Option aq} {ok:Nat->Bool}
variable {P:Program} {T:aQ} {a:Act} {σ σ':St} {Q:Exit->Act->World->Prop}
structure qx (ok:Nat->Bool) (h h':Nat->Option aq):Prop where
 le:∀n,ok n=true->h' n=(h n).map (·.dR ok)\/h' n=none
 no:∀n,ok n=false->h' n=none
theorem qx.ne (L:qx ok h h') {n:Nat} (hn:h' n≠none):ok n=true/\h n≠none:=by
 cases hk:ok n with
 |false=>exact absurd (L.no n hk) hn
 |true=>
  refine⟨rfl,fun e=>?_⟩;rcases L.le n hk with h1|h1
  ·rw[e] at h1;exact hn h1
  ·exact hn h1
theorem qx.row (L:qx ok h h') {n:Nat} {gr:Bool} {m:Mode} {sz:Nat} {xs:List (List C)} (hn:h' n=some (.row gr m sz xs)):h n=some (.row gr m sz xs):=by
 obtain⟨hk,h0⟩:=L.ne (n:=n) (by rw[hn];simp);rcases L.le n hk with h1|h1
 ·rw[h1] at hn;cases hh:h n with
  |none=>exact absurd hh h0
  |some b=>cases b with
   |box cs=>rw[hh] at hn;simp[aq.dR] at hn
   |row gr m sz xs=>rw[hh] at hn;simp only[Option.map_some,aq.dR] at hn;exact hn
 ·rw[h1] at hn;cases hn
theorem qx.box (L:qx ok h h') {n:Nat} {cs:List ah} (hn:h' n=some (.box cs)):∃gf,h n=some (.box gf)/\cs=gf.map (·.dR ok):=by
 obtain⟨hk,h0⟩:=L.ne (n:=n) (by rw[hn];simp);rcases L.le n hk with h1|h1
 ·rw[h1] at hn;cases hh:h n with
  |none=>exact absurd hh h0
  |some b=>cases b with
   |box gf=>
    rw[hh] at hn;simp only[Option.map_some,aq.dR] at hn;injection hn with hn;injection hn with hn;exact⟨gf,rfl,hn.symm⟩
   |row gr m sz xs=>rw[hh] at hn;simp[aq.dR] at hn
 ·rw[h1] at hn;cases hn
theorem il.less (L:qx ok h h') {c:ah} {v:Value} (hc:il w G h c v):il w G h' (c.fJ ok) v:=by
 cases c with
 |ptr n k sz off=>
  simp only[ah.fJ];split
  ·exact fun hn=>hc (L.ne hn).2
  ·trivial
 |sl n sz lo len=>
  simp only[ah.fJ];split
  ·exact fun hn=>hc (L.ne hn).2
  ·trivial
 |bC n k aB off sz len=>
  simp only[ah.fJ];split
  ·exact fun gr xs hn=>hc gr xs (L.row hn)
  ·trivial
 |db n k aB off sz i=>
  simp only[ah.fJ];split
  ·exact fun gr xs hn=>hc gr xs (L.row hn)
  ·trivial
 |cH xs off j n sz len=>
  simp only[ah.fJ];split
  ·obtain⟨b,o,pe,h1,h2,h3,h4,h5⟩:=hc;obtain⟨u,u1,u2,u3⟩:=h5;exact⟨b,o,pe,h1,h2,h3,h4,u,u1,u2,fun hn=>u3 (L.ne hn).2⟩
  ·trivial
 |c x=>exact hc
 |nil sz=>exact hc
 |dg xs off=>exact hc
 |fn f cP=>exact hc
 |bq=>exact hc
theorem RC.less (L:qx ok h h') {c:ah} {v:Value} (hc:RC w G h c v):RC w G h' (c.dR ok) v:=by
 cases c with
 |fn f cP=>
  obtain⟨vs,h1,h2,h3⟩:=hc;refine⟨vs,h1,by simpa using h2,fun j c u hj hu=>?_⟩;rw[List.getElem?_map] at hj;cases hc:cP[j]? with
  |none=>rw[hc] at hj;cases hj
  |some c0=>
   rw[hc] at hj;simp at hj;subst hj;exact⟨(h3 j c0 u hc hu).1,(h3 j c0 u hc hu).2.less L⟩
 |ptr n k sz off=>
  have:=il.less (w:=w) (G:=G) L (c:=.ptr n k sz off) hc;simp only[ah.dR];rw[uC]
  ·exact this
  ·simp only[ah.fJ];split<;>rfl
 |sl n sz lo len=>
  have:=il.less (w:=w) (G:=G) L (c:=.sl n sz lo len) hc;simp only[ah.dR];rw[uC]
  ·exact this
  ·simp only[ah.fJ];split<;>rfl
 |bC n k aB off sz len=>
  have:=il.less (w:=w) (G:=G) L (c:=.bC n k aB off sz len) hc;simp only[ah.dR];rw[uC]
  ·exact this
  ·simp only[ah.fJ];split<;>rfl
 |db n k aB off sz i=>
  have:=il.less (w:=w) (G:=G) L (c:=.db n k aB off sz i) hc;simp only[ah.dR];rw[uC]
  ·exact this
  ·simp only[ah.fJ];split<;>rfl
 |cH xs off j n sz len=>
  have:=il.less (w:=w) (G:=G) L (c:=.cH xs off j n sz len) hc;simp only[ah.dR];rw[uC]
  ·exact this
  ·simp only[ah.fJ];split<;>rfl
 |c x=>exact hc
 |nil sz=>exact hc
 |dg xs off=>exact hc
 |bq=>exact hc
theorem dj.less (L:qx ok h h') {cs:List ah} {vs:List Value} (hc:dj w G h cs vs):dj w G h' (cs.map (·.dR ok)) vs:=by
 refine⟨by simpa using hc.1,fun j c u hj hu=>?_⟩;rw[List.getElem?_map] at hj;cases dL:cs[j]? with
 |none=>rw[dL] at hj;cases hj
 |some c0=>
  rw[dL] at hj;simp at hj;subst hj;exact⟨(hc.2 j c0 u dL hu).1,(hc.2 j c0 u dL hu).2.less L⟩
theorem RV.less (L:qx ok h h') {ag:Bool} {cs:List ah} {v:Value} (hc:RV w G h ag cs v):RV w G h' ag (cs.map (·.dR ok)) v:=by
 unfold RV at*
 split
 ·rename_i h1;simp only[h1,if_true] at hc;obtain⟨vs,e,hv⟩:=hc;exact⟨vs,e,hv.less L⟩
 ·rename_i h1;simp only[h1] at hc;exact dj.less L hc
theorem RA.less (L:qx ok h h') {x:aj} {v:Value} (hc:RA w G h x v):RA w G h' (x.dR ok) v:=by
 cases x with
 |one c=>
  rcases hc with rfl|hc
  ·exact Or.inl rfl
  ·exact Or.inr (RV.less L hc)
 |agg cs=>exact RV.less L hc
 |bK xs=>
  obtain⟨vs,e,hl,hv⟩:=hc;refine⟨vs,e,by simpa using hl,fun j x u hj hu=>?_⟩;rw[List.getElem?_map] at hj;cases dL:xs[j]? with
  |none=>rw[dL] at hj;cases hj
  |some c0=>
   rw[dL] at hj;simp at hj;subst hj;exact RV.less L (hv j c0 u dL hu)
theorem aj.Dh {x:aj} {m:Nat} (h:(x.dR ok).ref m):ok m=true:=by
 cases x with
 |one c=>exact ah.Dh h
 |agg cs=>
  obtain⟨c,hc,h⟩:=h;obtain⟨c0,dL,rfl⟩:=List.mem_map.1 hc;exact ah.Dh h
 |bK xs=>
  obtain⟨x,hx,c,hc,h⟩:=h;obtain⟨x0,Bf,rfl⟩:=List.mem_map.1 hx;obtain⟨c0,dL,rfl⟩:=List.mem_map.1 hc;exact ah.Dh h
theorem HR.less {used:Nat->Bool} (H:HR B E w G h used []) (L:qx ok h h'):HR B E w G h' ok []:=by
 refine⟨fun n hn=>(L.ne hn).1,fun m cs c n hm hc hr=>?_,fun n cs hn=>?_,fun n gr m sz xs hn=>H.row n gr m sz xs (L.row hn),fun n hn=>H.own n (L.ne hn).2,fun n n' hn bu=>H.inj n n' (L.ne hn).2 (L.ne bu).2,
  H.gH,H.pU,fun n n' gr m sz xs bo m' aF av hn bu=>H.gv n n' gr m sz xs bo m' aF av (L.row hn) (L.row bu),fun n gr sz xs hn b hb n' bu=>H.live n gr sz xs (L.row hn) b hb n' (L.ne bu).2,?_,?_,?_⟩
 ·obtain⟨gf,_,rfl⟩:=L.box hm;obtain⟨c0,_,rfl⟩:=List.mem_map.1 hc;exact ah.Dh hr
 ·obtain⟨gf,h0,rfl⟩:=L.box hn;obtain⟨a1,a2,a3⟩:=H.box n gf h0;refine⟨a1,a2,fun j c hj=>?_⟩;rw[List.getElem?_map] at hj;cases dL:gf[j]? with
  |none=>rw[dL] at hj;cases hj
  |some c0=>
   rw[dL] at hj;simp at hj;subst hj;obtain⟨v,b1,b2,b3⟩:=a3 j c0 dL;exact⟨v,b1,b2,b3.less L⟩
 ·intro i pc hi;simp at hi
 ·intro i j pc dC b _ hi;simp at hi
 ·intro i pc n gr m sz xs b hi;simp at hi
theorem HR.aua {used used':Nat->Bool} (H:HR B E w G h used []) (hu:∀n,used n=true->used' n=true):HR B E w G h used' []:=
 ⟨fun n hn=>hu n (H.jh n hn),fun m cs c n hm hc hr=>hu n (H.ik m cs c n hm hc hr),H.box,H.row,H.own,H.inj,H.gH,H.pU,H.gv,H.live,H.ta,H.xU,H.tc⟩
theorem Tw {ke kh:List Nat} {n:Nat} (hn:σ.j9 ke kh n=true):n∈kh:=by
 simp only[St.j9,Bool.and_eq_true] at hn;simpa using hn.1.1
theorem R.ju (r:R B E w0 N σ a w G) (ke kh:List Nat):R B E w0 N (σ.ju ke kh) a w G:=by
 have L:qx (σ.j9 ke kh) σ.h (σ.ju ke kh).h:=by
  refine⟨fun n hn=>.inl ?_,fun n hn=>?_⟩
  ·show sT _ _ _ n=_;rw[M4,if_pos ⟨Tw hn,hn⟩]
  ·show sT _ _ _ n=_;rw[M4,if_neg (by simp[hn])]
 have hu:∀n,σ.j9 ke kh n=true->(σ.ju ke kh).used n=true:=by
  intro n hk;show(Nat.ble aH n||xF _ _ n)=true;rw[adX];simp[hk,Tw hk]
 refine⟨r.defers,r.size,fun s=>?_,fun s n hn=>?_,?_,r.fr,fun n p b hp hb=>?_,fun n hn=>?_⟩
 ·show RA w G _ (xE _ _ _ s) _;rw[T2];split
  ·exact(r.env s).less L
  ·exact Or.inl rfl
 ·have bu:(xE (σ.j9 ke kh) σ.env ke s).ref n:=hn;rw[T2] at bu;split at bu
  ·exact hu n (aj.Dh bu)
  ·exact absurd bu id
 ·exact(r.hr.less L).aua hu
 ·have h0:(σ.ju ke kh).h n≠none:=by rw[hb];simp
  obtain⟨hk,_⟩:=L.ne h0;have nt:=fun b0 (h1:σ.h n=some b0)=>r.mT n p b0 hp h1;have aL:sT (σ.j9 ke kh) σ.h kh n=some b:=hb;rw[M4,if_pos ⟨Tw hk,hk⟩] at aL;cases h1:σ.h n with
  |none=>rw[h1] at aL;cases aL
  |some b0=>
   obtain⟨p1,p2,p3,p4,p6,p5⟩:=nt b0 h1;refine⟨p1,p2,p3,p4,p6,fun gr sz xs GP=>?_⟩;rw[h1,GP] at aL;cases b0 with
   |box cs=>simp[aq.dR] at aL
   |row bo m' aF av=>
    simp only[aq.dR,Option.map_some,Option.some.injEq,aq.row.injEq] at aL;obtain⟨_,rfl,_,_⟩:=aL;exact p5 bo aF av rfl
 ·show(Nat.ble aH n||_)=true;rw[Nat.ble_eq_true_of_le hn];rfl
end
def back (x c n:Nat):Nat:=if n=c then x else n
theorem Xm {x c n:Nat} (hn:n≠c):back x c (oz x c n)=n:=by
 unfold back oz;by_cases h:n=x
 ·subst h;simp
 ·simp[h,hn]
theorem asz {x c n:Nat} (hx:x≠c) (hn:n≠c):oz x c n≠x:=by
 unfold oz;by_cases h:n=x
 ·simp[h];exact fun e=>hx e.symm
 ·simp[h]
structure pK (x c:Nat) (used:Nat->Bool) (h h':Nat->Option aq):Prop where
 ne:x≠c
 uc:used c=false
 gone:h' x=none
 b:∀n,n≠x->h' n=(h (back x c n)).map (·.bw x c)
section
variable {B:Nat} {E:Ex} {w0 w w':World} {G G':Gh} {N:Nat} {h h':Nat->Option aq} {used:Nat->Bool} {x c:Nat}
variable {P:Program} {T:aQ} {a:Act} {σ σ':St} {Q:Exit->Act->World->Prop}
def uV (G:Gh) (x c:Nat):Gh:=⟨G.Im,fun n=>G.g (back x c n)⟩
theorem pK.at (L:pK x c used h h') {n:Nat} (hn:used n=true):h' (oz x c n)=(h n).map (·.bw x c):=by
 have hc:n≠c:=fun e=>by subst e;rw[L.uc] at hn;cases hn
 rw[L.b _ (asz L.ne hc),Xm hc]
theorem pK.GI (L:pK x c used h h') {n:Nat} (hn:used n=true):(uV G x c).g (oz x c n)=G.g n:=by
 have hc:n≠c:=fun e=>by subst e;rw[L.uc] at hn;cases hn
 show G.g (back x c (oz x c n))=_;rw[Xm hc]
theorem Mn {o:Option aq} (hn:o.map (·.bw x c)≠none):o≠none:=by
 cases o with
 |none=>exact absurd rfl hn
 |some b=>simp
theorem Th {o:Option aq} {gr:Bool} {m:Mode} {sz:Nat} {xs:List (List C)} (hn:o.map (·.bw x c)=some (.row gr m sz xs)):o=some (.row gr m sz xs):=by
 cases o with
 |none=>cases hn
 |some b=>cases b with
  |box cs=>simp[aq.bw] at hn
  |row gr m sz xs=>exact hn
theorem abw {o:Option aq} {cs:List ah} (hn:o.map (·.bw x c)=some (.box cs)):∃gf,o=some (.box gf)/\cs=gf.map (·.bw x c):=by
 cases o with
 |none=>cases hn
 |some b=>cases b with
  |box gf=>
   simp only[Option.map_some,aq.bw] at hn;injection hn with hn;injection hn with hn;exact⟨gf,rfl,hn.symm⟩
  |row gr m sz xs=>simp[aq.bw] at hn
theorem il.bw (L:pK x c used h h') {y:ah} {v:Value} (hr:∀m,y.hZ m->used m=true) (hc:il w G h y v):il w (uV G x c) h' (y.pn x c) v:=by
 cases y with
 |ptr n k sz off=>
  intro hn;rw[L.at (hr n rfl)] at hn;rw[L.GI (hr n rfl)];exact hc (Mn hn)
 |sl n sz lo len=>
  intro hn;rw[L.at (hr n rfl)] at hn;rw[L.GI (hr n rfl)];exact hc (Mn hn)
 |bC n k aB off sz len=>
  intro gr xs hn;rw[L.at (hr n rfl)] at hn;rw[L.GI (hr n rfl)];exact hc gr xs (Th hn)
 |db n k aB off sz i=>
  intro gr xs hn;rw[L.at (hr n rfl)] at hn;rw[L.GI (hr n rfl)];exact hc gr xs (Th hn)
 |cH xs off j n sz len=>
  obtain⟨b,o,pe,h1,h2,h3,h4,h5⟩:=hc;obtain⟨u,u1,u2,u3⟩:=h5;refine⟨b,o,pe,h1,h2,h3,h4,u,u1,u2,fun hn=>?_⟩;rw[L.at (hr n rfl)] at hn;rw[L.GI (hr n rfl)];exact u3 (Mn hn)
 |c x=>exact hc
 |nil sz=>exact hc
 |dg xs off=>exact hc
 |fn f cP=>exact hc
 |bq=>exact hc
theorem RC.bw (L:pK x c used h h') {y:ah} {v:Value} (hr:∀m,y.ref m->used m=true) (hc:RC w G h y v):RC w (uV G x c) h' (y.bw x c) v:=by
 cases y with
 |fn f cP=>
  obtain⟨vs,h1,h2,h3⟩:=hc;refine⟨vs,h1,by simpa using h2,fun j y u hj hu=>?_⟩;rw[List.getElem?_map] at hj;cases hc:cP[j]? with
  |none=>rw[hc] at hj;cases hj
  |some c0=>
   rw[hc] at hj;simp at hj;subst hj;exact⟨(h3 j c0 u hc hu).1,(h3 j c0 u hc hu).2.bw L fun m hm=>hr m ⟨c0,List.mem_of_getElem? hc,hm⟩⟩
 |ptr n k sz off=>exact il.bw (w:=w) (G:=G) L (y:=.ptr n k sz off) hr hc
 |sl n sz lo len=>exact il.bw (w:=w) (G:=G) L (y:=.sl n sz lo len) hr hc
 |bC n k aB off sz len=>exact il.bw (w:=w) (G:=G) L (y:=.bC n k aB off sz len) hr hc
 |db n k aB off sz i=>exact il.bw (w:=w) (G:=G) L (y:=.db n k aB off sz i) hr hc
 |cH xs off j n sz len=>exact il.bw (w:=w) (G:=G) L (y:=.cH xs off j n sz len) hr hc
 |c x=>exact hc
 |nil sz=>exact hc
 |dg xs off=>exact hc
 |bq=>exact hc
theorem dj.bw (L:pK x c used h h') {cs:List ah} {vs:List Value} (hr:∀y∈cs,∀m,y.ref m->used m=true) (hc:dj w G h cs vs):dj w (uV G x c) h' (cs.map (·.bw x c)) vs:=by
 refine⟨by simpa using hc.1,fun j y u hj hu=>?_⟩;rw[List.getElem?_map] at hj;cases dL:cs[j]? with
 |none=>rw[dL] at hj;cases hj
 |some c0=>
  rw[dL] at hj;simp at hj;subst hj;exact⟨(hc.2 j c0 u dL hu).1,(hc.2 j c0 u dL hu).2.bw L (hr c0 (List.mem_of_getElem? dL))⟩
theorem RV.bw (L:pK x c used h h') {ag:Bool} {cs:List ah} {v:Value} (hr:∀y∈cs,∀m,y.ref m->used m=true) (hc:RV w G h ag cs v):RV w (uV G x c) h' ag (cs.map (·.bw x c)) v:=by
 unfold RV at*
 split
 ·rename_i h1;simp only[h1,if_true] at hc;obtain⟨vs,e,hv⟩:=hc;exact⟨vs,e,hv.bw L hr⟩
 ·rename_i h1;simp only[h1] at hc;exact dj.bw L hr hc
theorem RA.bw (L:pK x c used h h') {y:aj} {v:Value} (hr:∀m,y.ref m->used m=true) (hc:RA w G h y v):RA w (uV G x c) h' (y.bw x c) v:=by
 cases y with
 |one y=>
  rcases hc with rfl|hc
  ·exact Or.inl rfl
  ·exact Or.inr (RV.bw L (fun z hz m hm=>hr m (by simp at hz;subst hz;exact hm)) hc)
 |agg cs=>exact RV.bw L (fun z hz m hm=>hr m ⟨z,hz,hm⟩) hc
 |bK xs=>
  obtain⟨vs,e,hl,hv⟩:=hc;refine⟨vs,e,by simpa using hl,fun j y u hj hu=>?_⟩;rw[List.getElem?_map] at hj;cases dL:xs[j]? with
  |none=>rw[dL] at hj;cases hj
  |some c0=>
   rw[dL] at hj;simp at hj;subst hj;exact RV.bw L (fun z hz m hm=>hr m ⟨c0,List.mem_of_getElem? dL,z,hz,hm⟩) (hv j c0 u dL hu)
def zS (used:Nat->Bool) (x c:Nat):Nat->Bool:=fun n=>if n=c then used x else if n=x then false else used n
theorem ah.EN (L:pK x c used h h') {y:ah} {m:Nat} (hr:∀m,y.hZ m->used m=true) (hm:(y.pn x c).hZ m):zS used x c m=true:=by
 have cW:∀n,used n=true->m=oz x c n->zS used x c m=true:=by
  intro n hn e;subst e;have hc:n≠c:=fun e=>by subst e;rw[L.uc] at hn;cases hn
  unfold zS oz;by_cases h1:n=x
  ·subst h1;simp[hn]
  ·simp[h1,hc,hn]
 cases y<;>first|exact absurd hm id|exact cW _ (hr _ rfl) hm
theorem ah.EO (L:pK x c used h h') {y:ah} {m:Nat} (hr:∀m,y.ref m->used m=true) (hm:(y.bw x c).ref m):zS used x c m=true:=by
 cases y with
 |fn f cP=>
  obtain⟨z,hz,hm⟩:=hm;obtain⟨z0,xc,rfl⟩:=List.mem_map.1 hz;exact ah.EN L (fun m hm=>hr m ⟨z0,xc,hm⟩) hm
 |ptr n k sz off=>exact ah.EN L (y:=.ptr n k sz off) hr hm
 |sl n sz lo len=>exact ah.EN L (y:=.sl n sz lo len) hr hm
 |bC n k aB off sz len=>exact ah.EN L (y:=.bC n k aB off sz len) hr hm
 |db n k aB off sz i=>exact ah.EN L (y:=.db n k aB off sz i) hr hm
 |cH xs off j n sz len=>exact ah.EN L (y:=.cH xs off j n sz len) hr hm
 |c x=>exact absurd hm id
 |nil sz=>exact absurd hm id
 |dg xs off=>exact absurd hm id
 |bq=>exact absurd hm id
theorem aj.EO (L:pK x c used h h') {y:aj} {m:Nat} (hr:∀m,y.ref m->used m=true) (hm:(y.bw x c).ref m):zS used x c m=true:=by
 cases y with
 |one y=>exact ah.EO L hr hm
 |agg cs=>
  obtain⟨z,hz,hm⟩:=hm;obtain⟨z0,xc,rfl⟩:=List.mem_map.1 hz;exact ah.EO L (fun m hm=>hr m ⟨z0,xc,hm⟩) hm
 |bK xs=>
  obtain⟨p,hp,z,hz,hm⟩:=hm;obtain⟨p0,He,rfl⟩:=List.mem_map.1 hp;obtain⟨z0,xc,rfl⟩:=List.mem_map.1 hz;exact ah.EO L (fun m hm=>hr m ⟨p0,He,z0,xc,hm⟩) hm
theorem HR.bw (H:HR B E w G h used []) (L:pK x c used h h'):HR B E w (uV G x c) h' (zS used x c) []:=by
 have nx:∀n,h' n≠none->n≠x:=fun n hn e=>by subst e;exact hn L.gone
 have hb:∀n,h' n≠none->h (back x c n)≠none:=fun n hn=>by
  have:=L.b n (nx n hn);rw[this] at hn;exact Mn hn
 have eH:∀{n gr m sz xs},h' n=some (.row gr m sz xs)->h (back x c n)=some (.row gr m sz xs):=by
  intro n gr m sz xs hn;have:=L.b n (nx n (by rw[hn];simp));rw[this] at hn;exact Th hn
 have u5:∀n n',n≠x->n'≠x->n≠n'->back x c n≠back x c n':=by
  intro n n' h1 h2 h3;unfold back;by_cases e1:n=c
  ·by_cases e2:n'=c
   ·omega
   ·simp[e1,e2];omega
  ·by_cases e2:n'=c
   ·simp[e1,e2];omega
   ·simp[e1,e2];omega
 have y3:∀n,n≠x->used (back x c n)=true->zS used x c n=true:=by
  intro n h1 h2;unfold zS;unfold back at h2;by_cases e1:n=c
  ·simp[e1] at h2⊢;exact h2
  ·simp[e1] at h2;simp[e1,h1,h2]
 refine⟨fun n hn=>y3 n (nx n hn) (H.jh _ (hb n hn)),fun m cs y n hm hy hr=>?_,fun n cs hn=>?_,fun n gr m sz xs hn=>?_,fun n hn=>H.own _ (hb n hn),
  fun n n' hn bu aD=>H.inj _ _ (hb n hn) (hb n' bu) (u5 n n' (nx n hn) (nx n' bu) aD),H.gH,H.pU,fun n n' gr m sz xs bo m' aF av hn bu hm bP aD=>H.gv _ _ gr m sz xs bo m' aF av (eH hn) (eH bu) hm bP
   (u5 n n' (nx n (by rw[hn];simp)) (nx n' (by rw[bu];simp)) aD),fun n gr sz xs hn b aL n' bu=>H.live _ gr sz xs (eH hn) b aL _ (hb n' bu),?_,?_,?_⟩
 ·have DV:=nx m (by rw[hm];simp);rw[L.b m DV] at hm;obtain⟨gf,h0,rfl⟩:=abw hm;obtain⟨y0,LI,rfl⟩:=List.mem_map.1 hy;exact ah.EO L (fun q hq=>H.ik _ gf y0 q h0 LI hq) hr
 ·have oT:=nx n (by rw[hn];simp);rw[L.b n oT] at hn;obtain⟨gf,h0,rfl⟩:=abw hn;obtain⟨a1,a2,a3⟩:=H.box _ gf h0;refine⟨a1,a2,fun j y hj=>?_⟩;rw[List.getElem?_map] at hj;cases dL:gf[j]? with
  |none=>rw[dL] at hj;cases hj
  |some y0=>
   rw[dL] at hj;simp at hj;subst hj;obtain⟨v,b1,b2,b3⟩:=a3 j y0 dL;exact⟨v,b1,b2,b3.bw L fun q hq=>H.ik _ gf y0 q h0 (List.mem_of_getElem? dL) hq⟩
 ·have hr:=H.row _ gr m sz xs (eH hn);refine⟨hr.pos,hr.er,hr.nl,hr.eK,hr.room,?_,hr.nr⟩;have hm:=hr.mode;cases m<;>exact hm
 ·intro i pc hi;simp at hi
 ·intro i j pc dC b _ hi;simp at hi
 ·intro i pc n gr m sz xs b hi;simp at hi
theorem R.bw (r:R B E w0 N σ a w G) (hx:σ.bw x c=some σ'):∃G',R B E w0 N σ' a w G':=by
 unfold St.bw at hx;split at hx
 ·injection hx with hx;subst hx;exact⟨G,r⟩
 ·rename_i aD;split at hx
  ·injection hx with hx;subst hx;exact⟨G,r⟩
  rename_i hxp;split at hx
  ·cases hx
  ·rename_i hu;injection hx with hx;subst hx;have DJ:¬aH<=c:=fun hc=>by rw[r.vL c hc] at hu;exact hu rfl
   have aaK:¬aH<=x:=fun hc=>hxp (Nat.ble_eq_true_of_le hc);have LD:σ.used c=false:=by simpa using hu
   have L:pK x c σ.used σ.h (fun n=>if n=c then(σ.h x).map (·.bw x c) else if n=x then none else(σ.h n).map (·.bw x c)):=by
    refine⟨aD,LD,by simp[aD],fun n hn=>?_⟩;unfold back;by_cases h1:n=c
    ·simp[h1]
    ·simp[h1,hn]
   exact⟨uV G x c,r.defers,r.size,fun s=>(r.env s).bw L (fun m hm=>r.pC s m hm),fun s n hn=>aj.EO L (fun m hm=>r.pC s m hm) hn,r.hr.bw L,r.fr,fun n p b hp hb=>by
    have hn:=E.lt n p hp;have tM:n≠c:=fun e=>DJ (e▸hn);have oT:n≠x:=fun e=>aaK (e▸hn);have aL:(if n=c then(σ.h x).map (·.bw x c) else if n=x then none else(σ.h n).map (·.bw x c))=some b:=hb
    rw[if_neg tM,if_neg oT] at aL;have hg:(uV G x c).g n=G.g n:=by simp[uV,back,tM]
    rw[hg];cases h1:σ.h n with
    |none=>rw[h1] at aL;cases aL
    |some b0=>
     obtain⟨p1,p2,p3,p4,p6,p5⟩:=r.mT n p b0 hp h1;refine⟨p1,p2,p3,p4,p6,fun gr sz xs GP=>?_⟩;rw[h1,GP] at aL;cases b0 with
     |box cs=>simp[aq.bw] at aL
     |row bo m' aF av=>
      simp only[aq.bw,Option.map_some,Option.some.injEq,aq.row.injEq] at aL;obtain⟨_,rfl,_,_⟩:=aL;exact p5 bo aF av rfl,fun n hn=>by
    have tM:n≠c:=fun e=>DJ (e▸hn);have oT:n≠x:=fun e=>aaK (e▸hn);show(if n=c then σ.used x else if n=x then false else σ.used n)=true
    rw[if_neg tM,if_neg oT];exact r.vL n hn⟩
theorem R.aaW (r:R B E w0 N σ a w G) {m:Mode} {sz:Nat} (bV:0<sz) (hx:σ.ins c (.row true m sz [])=some σ'):
  ∃G',R B E w0 N σ' a w G'/\RC w G' σ'.h (.sl c sz 0 0) (.slice none 0 0):=by
 obtain⟨hn,rfl⟩:=kx hx;have HV:∀b,¬bh b ([]:List (List PC)):=by rintro b ⟨k,j,q,⟨e,he,_⟩,_⟩;simp at he
 have jY:iO ([]:List (List PC)):=⟨by rintro k j q ⟨e,he,_⟩;simp at he,by rintro k j q k' j' q' b ⟨e,he,_⟩;simp at he⟩;have H:=r.hr.insert (w':=w) (n:=c) (blk:=.row true m sz []) (p:=⟨true,0,0,0,[],none⟩) hn (fun _ _=>rfl) (Nat.le_refl _) (fun hf=>by cases hf) (fun cs y q hb=>by cases hb)
  (by
   refine⟨bV,rfl,fun _=>⟨rfl,fun _=>rfl⟩,(fun hf=>by cases hf),(fun hf=>by cases hf),?_,fun _ _ k pc hk=>by obtain⟨e,he,_⟩:=hk;simp at he⟩;cases m with
   |aJ=>exact fun b hb=>absurd hb (HV b)
   |aN=>exact⟨fun b hb=>absurd hb (HV b),jY⟩
   |live=>exact⟨fun b hb=>absurd hb (HV b),jY⟩)
  (fun gr m' aF av hb hm n' bo jI jd gD h0 iE b cT=>absurd cT (HV b)) (fun gr aF av hb b cT=>absurd cT (HV b)) (fun gr m' aF av hb hm i pc b hi=>by simp at hi)
 refine⟨_,r.step rfl (fun q hq=>oF _ _ hq) (bm.insert r.hr hn (fun _ _=>rfl)) H r.fr,fun _=>?_⟩;simp only[bR];exact Or.inl ⟨rfl,rfl,rfl,rfl⟩
end
theorem ah.Dk (n:Nat) (c:ah):c.iD n=c\/c.iD n=.bq:=by
 cases c<;>first|(exact .inl rfl)|skip
 ·rename_i m k aB off sz len;cases h:Nat.beq m n with
  |true=>exact .inr (by simp[ah.iD,h])
  |false=>exact .inl (by simp[ah.iD,h])
 ·rename_i m k aB off sz i;cases h:Nat.beq m n with
  |true=>exact .inr (by simp[ah.iD,h])
  |false=>exact .inl (by simp[ah.iD,h])
theorem ah.aij (n:Nat) (c:ah):(c.iD n).iD n=c.iD n:=by
 rcases c.Dk n with h|h
 ·rw[h,h]
 ·rw[h];rfl
theorem ah.aik {n m:Nat} {c:ah} (h:(c.iD n).hZ m):c.hZ m:=by
 rcases c.Dk n with h1|h1
 ·rwa[h1] at h
 ·rw[h1] at h;exact h.elim
theorem ah.Gj (n:Nat) (c:ah) (hc:c.j4=false):c.cut n=c.iD n:=by
 cases c<;>first|rfl|(simp[ah.j4] at hc)
theorem ah.Dl (n:Nat) (c:ah):(c.cut n).cut n=c.cut n:=by
 by_cases hc:c.j4=false
 ·rw[ah.Gj n c hc];rcases c.Dk n with h|h
  ·rw[h,ah.Gj n c hc,h]
  ·rw[h];rfl
 ·cases c<;>first|(simp[ah.j4] at hc;done)|skip
  simp only[ah.cut,List.map_map];congr 1;apply List.map_congr_left;intro x _;exact ah.aij n x
theorem ah.Dm {n m:Nat} {c:ah} (h:(c.cut n).ref m):c.ref m:=by
 by_cases hc:c.j4=false
 ·rw[ah.Gj n c hc] at h;rcases c.Dk n with h1|h1
  ·rwa[h1] at h
  ·rw[h1] at h;exact h.elim
 ·cases c<;>first|(simp[ah.j4] at hc;done)|skip
  obtain⟨x,hx,hm⟩:=h;obtain⟨y,hy,rfl⟩:=List.mem_map.1 hx;exact⟨y,hy,ah.aik hm⟩
theorem aj.Dm {n m:Nat} {x:aj} (h:(x.cut n).ref m):x.ref m:=by
 cases x with
 |one c=>exact ah.Dm h
 |agg cs=>
  obtain⟨c,hc,hm⟩:=h;obtain⟨y,hy,rfl⟩:=List.mem_map.1 hc;exact⟨y,hy,ah.Dm hm⟩
 |bK xs=>
  obtain⟨x,hx,c,hc,hm⟩:=h;obtain⟨y,hy,rfl⟩:=List.mem_map.1 hx;obtain⟨z,hz,rfl⟩:=List.mem_map.1 hc;exact⟨y,hy,z,hz,ah.Dm hm⟩
theorem aj.Dl (n:Nat) (x:aj):(x.cut n).cut n=x.cut n:=by
 cases x with
 |one c=>simp only[aj.cut,ah.Dl]
 |agg cs=>
  simp only[aj.cut,List.map_map];congr 1;apply List.map_congr_left;intro x _;exact ah.Dl n x
 |bK xs=>
  simp only[aj.cut,List.map_map];congr 1;apply List.map_congr_left;intro x _;simp only[Function.comp,List.map_map];congr 1;apply List.map_congr_left;intro y _;exact ah.Dl n y
section
variable {B:Nat} {E:Ex} {w0 w w':World} {G G':Gh} {N:Nat} {h h':Nat->Option aq} {used:Nat->Bool}
variable {P:Program} {a:Act} {σ σ':St} {n:Nat}
theorem wv {m:Nat} (hm:(h m).map (aq.cut n)≠none):h m≠none:=by
 intro hh;rw[hh] at hm;exact hm rfl
theorem yB {m:Nat} {gr:Bool} {mo:Mode} {sz:Nat} {xs:List (List C)} (hm:(h m).map (aq.cut n)=some (.row gr mo sz xs)):h m=some (.row gr mo sz xs):=by
 cases hh:h m with
 |none=>rw[hh] at hm;cases hm
 |some b=>
  rw[hh] at hm;cases b with
  |box cs=>simp[aq.cut] at hm
  |row bo jI aF av=>simpa[aq.cut] using hm
theorem Qq {m:Nat} {cs:List ah} (hm:(h m).map (aq.cut n)=some (.box cs)):∃gf,h m=some (.box gf)/\cs=gf.map (·.cut n):=by
 cases hh:h m with
 |none=>rw[hh] at hm;cases hm
 |some b=>
  rw[hh] at hm;cases b with
  |box gf=>simp[aq.cut] at hm;exact⟨gf,rfl,hm.symm⟩
  |row bo jI aF av=>simp[aq.cut] at hm
theorem il.cut {c:ah} {v:Value} (hc:il w G h c v):il w G (fun m=>(h m).map (aq.cut n)) (c.iD n) v:=by
 rcases c.Dk n with e|e
 ·rw[e];cases c with
  |c x=>exact hc
  |nil sz=>exact hc
  |ptr m k sz off=>exact fun hm=>hc (wv hm)
  |dg xs off=>exact hc
  |sl m sz lo len=>exact fun hm=>hc (wv hm)
  |bC m k aB off sz len=>exact fun gr xs hm=>hc gr xs (yB hm)
  |db m k aB off sz i=>exact fun gr xs hm=>hc gr xs (yB hm)
  |cH xs off j m sz len=>
   obtain⟨b,o,pe,h1,h2,h3,h4,u,u1,u2,u3⟩:=hc;exact⟨b,o,pe,h1,h2,h3,h4,u,u1,u2,fun hm=>u3 (wv hm)⟩
  |fn f cP=>exact hc
  |bq=>trivial
 ·rw[e];trivial
theorem RC.cut {c:ah} {v:Value} (hc:RC w G h c v):RC w G (fun m=>(h m).map (aq.cut n)) (c.cut n) v:=by
 by_cases hf:c.j4=false
 ·rw[uC _ _ _ _ _ hf] at hc;rw[ah.Gj n c hf];have h1:=hc.cut (n:=n);rcases c.Dk n with e|e
  ·rw[e] at h1⊢;rw[uC _ _ _ _ _ hf];exact h1
  ·rw[e];trivial
 ·cases c<;>first|(simp[ah.j4] at hf;done)|skip
  obtain⟨vs,h1,h2,h3⟩:=hc;refine⟨vs,h1,by simpa using h2,fun j c u hj hu=>?_⟩;rw[List.getElem?_map] at hj;cases dL:(_:List ah)[j]? with
  |none=>rw[dL] at hj;cases hj
  |some c0=>
   rw[dL] at hj;injection hj with hj;subst hj;exact⟨(h3 j c0 u dL hu).1,(h3 j c0 u dL hu).2.cut⟩
theorem dj.cut {cs:List ah} {vs:List Value} (hc:dj w G h cs vs):dj w G (fun m=>(h m).map (aq.cut n)) (cs.map (·.cut n)) vs:=by
 refine⟨by simpa using hc.1,fun j c u hj hu=>?_⟩;rw[List.getElem?_map] at hj;cases dL:cs[j]? with
 |none=>rw[dL] at hj;cases hj
 |some c0=>
  rw[dL] at hj;injection hj with hj;subst hj;exact⟨(hc.2 j c0 u dL hu).1,(hc.2 j c0 u dL hu).2.cut⟩
theorem RV.cut {ag:Bool} {cs:List ah} {v:Value} (hc:RV w G h ag cs v):RV w G (fun m=>(h m).map (aq.cut n)) ag (cs.map (·.cut n)) v:=by
 unfold RV at*
 split
 ·rename_i h1;simp only[h1,if_true] at hc;obtain⟨vs,e,hv⟩:=hc;exact⟨vs,e,hv.cut⟩
 ·rename_i h1;simp only[h1] at hc;exact dj.cut hc
theorem RA.cut {x:aj} {v:Value} (hc:RA w G h x v):RA w G (fun m=>(h m).map (aq.cut n)) (x.cut n) v:=by
 cases x with
 |one c=>
  rcases hc with rfl|hc
  ·exact .inl rfl
  ·exact .inr (RV.cut (n:=n) hc)
 |agg cs=>exact RV.cut (n:=n) (ag:=true) hc
 |bK xs=>
  obtain⟨vs,e,hl,hv⟩:=hc;refine⟨vs,e,by simpa using hl,fun j x u hj hu=>?_⟩;rw[List.getElem?_map] at hj;cases dL:xs[j]? with
  |none=>rw[dL] at hj;cases hj
  |some x0=>
   rw[dL] at hj;injection hj with hj;subst hj;exact(hv j x0 u dL hu).cut
theorem R.cut (r:R B E w0 N σ a w G) (n:Nat):R B E w0 N (σ.cut n) a w G:=by
 have H:=r.hr;refine⟨r.defers,r.size,fun s=>(r.env s).cut,fun s m hm=>r.pC s m (aj.Dm hm),?_,r.fr,fun m p b hp hb=>?_,r.vL⟩
 ·refine⟨fun m hm=>H.jh m (wv hm),fun m cs c q hm hc hr=>?_,fun m cs hm=>?_,fun m gr mo sz xs hm=>H.row m gr mo sz xs (yB hm),fun m hm=>H.own m (wv hm),
   fun m m' hm bP=>H.inj m m' (wv hm) (wv bP),H.gH,H.pU,fun m m' gr mo sz xs bo jI aF av hm bP=>H.gv m m' gr mo sz xs bo jI aF av (yB hm) (yB bP),
   fun m gr sz xs hm b hb m' bP=>H.live m gr sz xs (yB hm) b hb m' (wv bP),by intro i pc hi;simp at hi,by intro i j pc dC b _ hi;simp at hi,by intro i pc n gr m sz xs b hi;simp at hi⟩
  ·obtain⟨gf,h1,rfl⟩:=Qq hm;obtain⟨c0,dL,rfl⟩:=List.mem_map.1 hc;exact H.ik m gf c0 q h1 dL (ah.Dm hr)
  ·obtain⟨gf,h1,rfl⟩:=Qq hm;obtain⟨a1,a2,a3⟩:=H.box m gf h1;refine⟨a1,a2,fun j c hj=>?_⟩;rw[List.getElem?_map] at hj;cases dL:gf[j]? with
   |none=>rw[dL] at hj;cases hj
   |some c0=>
    rw[dL] at hj;injection hj with hj;subst hj;obtain⟨v,b1,b2,b3⟩:=a3 j c0 dL;exact⟨v,b1,b2,b3.cut⟩
 ·have aL:(σ.h m).map (aq.cut n)=some b:=hb;cases hh:σ.h m with
  |none=>rw[hh] at aL;cases aL
  |some b0=>
   obtain⟨p1,p2,p3,p4,p5,p6⟩:=r.mT m p b0 hp hh;refine⟨p1,p2,p3,p4,p5,fun gr sz xs e=>?_⟩;subst e;have:=yB aL;rw[hh] at this;injection this with this;exact p6 gr sz xs this
structure CM (q:Nat) (w:World) (G:Gh) (h:Nat->Option aq) (used:Nat->Prop) (w':World) (G':Gh) (h':Nat->Option aq):Prop where
 im:∀b,G.Im b->G'.Im b
 cell:∀b,G.Im b->∀o,w'.cell? (ad b o)=w.cell? (ad b o)
 name:∀n,used n->h' n≠none->h n≠none/\(G'.g n).nl=(G.g n).nl/\(G'.g n).b=(G.g n).b/\(G'.g n).o=(G.g n).o/\(G'.g n).cap=(G.g n).cap/\(G'.g n).na=(G.g n).na
 live:∀n gr sz xs,n≠q->used n->h' n=some (.row gr .live sz xs)->(∃qJ jv,h n=some (.row qJ .live sz jv))/\
  ∀k j pc,At (G.g n).px k j pc->pc.ie=true->∃dC,At (G'.g n).px k j dC/\dC.val=pc.val/\dC.ie=true
 box:∀b o v,G.Im b->w.cell? (ad b o)=some v->w'.cell? (ad b o)=some v
theorem il.pZ {q:Nat} {used:Nat->Prop} (K:CM q w G h used w' G' h') {c:ah} {v:Value} (hq:c.iD q=c) (hr:∀m,c.hZ m->used m) (hc:il w G h c v):il w' G' h' c v:=by
 cases c with
 |c x=>
  obtain⟨pc,h1,h2,h3,h4⟩:=hc;exact⟨pc,h1,h2,h3.congr fun b hb o=>K.cell b (h4 b hb) o,fun b hb=>K.im b (h4 b hb)⟩
 |nil sz=>exact hc
 |ptr n k sz off=>
  intro hn;obtain⟨h0,e1,e2,e3,e4,e5⟩:=K.name n (hr n rfl) hn;rw[e1,e2,e3];exact hc h0
 |dg xs off=>
  obtain⟨b,o,pe,h1,h2,h3,h4⟩:=hc;refine⟨b,o,pe,h1,h2,K.im b h3,fun j c hj=>?_⟩;obtain⟨a1,a2,a3⟩:=h4 j c hj;exact⟨(K.cell b h3 _).trans a1,a2.congr fun b' aL o'=>K.cell b' (a3 b' aL) o',fun b' aL=>K.im b' (a3 b' aL)⟩
 |sl n sz lo len=>
  intro hn;obtain⟨h0,e1,e2,e3,e4,e5⟩:=K.name n (hr n rfl) hn;have:=hc h0;unfold gE at*
  rw[e1,e2,e3,e4,e5];exact this
 |bC n k aB off sz len=>
  have aD:n≠q:=by
   rintro rfl;simp[ah.iD,Nat.beq_refl] at hq
  intro gr xs hn;obtain⟨⟨qJ,jv,h0⟩,hl⟩:=K.live n gr aB xs aD (hr n rfl) hn;obtain⟨pc,p1,p2,p3⟩:=hc qJ jv h0;obtain⟨dC,q1,q2,q3⟩:=hl k off pc p1 p3;exact⟨dC,q1,q2.trans p2,q3⟩
 |db n k aB off sz i=>
  have aD:n≠q:=by
   rintro rfl;simp[ah.iD,Nat.beq_refl] at hq
  intro gr xs hn;obtain⟨⟨qJ,jv,h0⟩,hl⟩:=K.live n gr aB xs aD (hr n rfl) hn;obtain⟨pc,b,o,len,cap,p1,p2,p3,p4⟩:=hc qJ jv h0;obtain⟨dC,q1,q2,q3⟩:=hl k off pc p1 p3;exact⟨dC,b,o,len,cap,q1,q2.trans p2,q3,p4⟩
 |cH xs off j n sz len=>
  obtain⟨b,o,pe,h1,h2,h3,h4,h5⟩:=hc;obtain⟨u,u1,u2,u3⟩:=h5;refine⟨b,o,pe,h1,h2,K.im b h3,fun i c iq hi=>?_,u,(K.cell b h3 _).trans u1,u2,fun hn=>?_⟩
  ·obtain⟨a1,a2,a3⟩:=h4 i c iq hi;exact⟨(K.cell b h3 _).trans a1,a2.congr fun b' aL o'=>K.cell b' (a3 b' aL) o',fun b' aL=>K.im b' (a3 b' aL)⟩
  ·obtain⟨h0,e1,e2,e3,e4,e5⟩:=K.name n (hr n rfl) hn;have:=u3 h0;unfold gE at*
   rw[e1,e2,e3,e4,e5];exact this
 |fn f cP=>exact hc
 |bq=>trivial
theorem RC.pZ {q:Nat} {used:Nat->Prop} (K:CM q w G h used w' G' h') {c:ah} {v:Value} (hq:c.cut q=c) (hr:∀m,c.ref m->used m) (hc:RC w G h c v):RC w' G' h' c v:=by
 by_cases hf:c.j4=false
 ·rw[uC _ _ _ _ _ hf] at*
  rw[ah.Gj q c hf] at hq;exact hc.pZ K hq fun m hm=>hr m (by rw[ah.adV c m hf];exact hm)
 ·cases c<;>first|(simp[ah.j4] at hf;done)|skip
  rename_i f cP;obtain⟨vs,h1,h2,h3⟩:=hc;injection hq with _ hq;refine⟨vs,h1,h2,fun j c u hj hu=>⟨(h3 j c u hj hu).1,(h3 j c u hj hu).2.pZ K ?_ fun m hm=>hr m ⟨c,List.mem_of_getElem? hj,hm⟩⟩⟩;have:=congrArg (fun l:List ah=>l[j]?) hq;simp only[List.getElem?_map,hj,Option.map_some,Option.some.injEq] at this;exact this
theorem dj.pZ {q:Nat} {used:Nat->Prop} (K:CM q w G h used w' G' h') {cs:List ah} {vs:List Value} (hq:∀c∈cs,c.cut q=c) (hr:∀c∈cs,∀m,c.ref m->used m) (hc:dj w G h cs vs):dj w' G' h' cs vs:=
 ⟨hc.1,fun j c u hj hu=>⟨(hc.2 j c u hj hu).1,(hc.2 j c u hj hu).2.pZ K (hq c (List.mem_of_getElem? hj)) (hr c (List.mem_of_getElem? hj))⟩⟩
theorem RV.pZ {q:Nat} {used:Nat->Prop} (K:CM q w G h used w' G' h') {ag:Bool} {cs:List ah} {v:Value} (hq:∀c∈cs,c.cut q=c) (hr:∀c∈cs,∀m,c.ref m->used m) (hc:RV w G h ag cs v):RV w' G' h' ag cs v:=by
 unfold RV at*
 split
 ·rename_i h1;simp only[h1,if_true] at hc;obtain⟨vs,e,hv⟩:=hc;exact⟨vs,e,hv.pZ K hq hr⟩
 ·rename_i h1;simp only[h1] at hc;exact dj.pZ K hq hr hc
theorem abx {q:Nat} {cs:List ah} (h:cs.map (·.cut q)=cs):∀c∈cs,c.cut q=c:=by
 intro c hc;obtain⟨j,hj⟩:=List.getElem?_of_mem hc;have:=congrArg (fun l:List ah=>l[j]?) h;simp only[List.getElem?_map,hj,Option.map_some,Option.some.injEq] at this;exact this
theorem RA.pZ {q:Nat} {used:Nat->Prop} (K:CM q w G h used w' G' h') {x:aj} {v:Value} (hq:x.cut q=x) (hr:∀m,x.ref m->used m) (hc:RA w G h x v):RA w' G' h' x v:=by
 cases x with
 |one c=>
  injection hq with hq;exact hc.imp id fun hv=>RV.pZ K (fun c' dt=>by simp at dt;subst dt;exact hq) (fun c' dt m hm=>hr m (by simp at dt;subst dt;exact hm)) hv
 |agg cs=>
  injection hq with hq;exact RV.pZ K (abx hq) (fun c' dt m hm=>hr m ⟨c',dt,hm⟩) hc
 |bK xs=>
  injection hq with hq;obtain⟨vs,e,hl,hv⟩:=hc;refine⟨vs,e,hl,fun j x u hj hu=>RV.pZ K (abx ?_) (fun c' dt m hm=>hr m ⟨x,List.mem_of_getElem? hj,c',dt,hm⟩) (hv j x u hj hu)⟩;have:=congrArg (fun l:List (Bool×List ah)=>l[j]?) hq;simp only[List.getElem?_map,hj,Option.map_some,Option.some.injEq] at this;exact congrArg Prod.snd this
end
section
variable {B:Nat} {E:Ex} {w0 w w':World} {G G':Gh} {N:Nat} {h h':Nat->Option aq} {used:Nat->Bool}
variable {P:Program} {a:Act} {σ σ':St} {n:Nat}
structure I0 (B:Nat) (E:Ex) (w:World) (G:Gh) (h:Nat->Option aq) (n k off:Nat) (q:PC):Prop where
 eG:Good w q
 sep:Sep q
 nr:pI w q
 own:∀b,aZ b q->¬G.Im b/\d9 w b/\(B<=b\/E b)
 name:∀b,aZ b q->∀m,h m≠none->(G.g m).nl=false->b≠(G.g m).b
 row:∀b,aZ b q->∀m gr mo sz xs,m≠n->h m=some (.row gr mo sz xs)->¬bh b (G.g m).px
 rest:∀b,aZ b q->∀k' j' c,At (G.g n).px k' j' c->(k',j')≠(k,off)->¬aZ b c
theorem R.nest (r:R B E w0 N σ a w G) {rs k off:Nat} {xs:List (List C)} (hn:σ.h n=some (.row true .live rs xs)) (nt:n<aH) (ak0:∀s,(σ.env s).cut n=σ.env s)
  (ak1:∀m cs c,σ.h m=some (.box cs)->c∈cs->c.cut n=c) {pe:List PC} (iY:(G.g n).px[k]? =some pe) (nY:off+1=rs) {q:PC} {cur:Array Value} {et:TypeId}
  (hg:w.heap[(G.g n).b]? =some (.cells cur et (0,0))) (hq:I0 B E w G σ.h n k off q):
  R B E w0 N (σ.eE n (.row true .live rs (xs.set k ((pe.map PC.er).set off q.er)))) a (gb w (G.g n).b ((G.g n).o+k*rs+off) [q.val] cur) ⟨G.Im,az G.g n {G.g n with px:=(G.g n).px.set k (pe.set off q)}⟩:=by
 have H:=r.hr;have hr:=H.row n true .live rs xs hn;have bN:σ.h n≠none:=by rw[hn];simp
 have aR:(G.g n).nl=false:=by
  cases hq:(G.g n).nl with
  |false=>rfl
  |true=>rw[(hr.nl hq).1] at iY;simp at iY
 obtain⟨l1,l2,l3⟩:=hr.eK aR;obtain⟨su,qQ,tN⟩:=H.own n bN aR;have wY:pe.length=rs:=l2.1 pe (List.mem_of_getElem? iY);have alw:off<pe.length:=by omega
 have hold:At (G.g n).px k off pe[off]:=⟨pe,iY,List.getElem?_eq_getElem alw⟩;have f0:(G.g n).o+k*rs+off+([q.val]:List Value).length<=cur.size:=by
  have:=Ah hg (l2.2.1 k off _ hold);simp only[List.length_cons,List.length_nil];omega
 generalize mf:gb w (G.g n).b ((G.g n).o+k*rs+off) [q.val] cur=w2;have dM:∀b,b≠(G.g n).b->w2.heap[b]? =w.heap[b]? :=fun b hb=>by rw[<-mf];exact zV b hb
 have pS:∀b,d9 w b->d9 w2 b:=fun b hb=>by rw[<-mf];exact IV hg f0 b hb
 have mM:w2.heap.size=w.heap.size:=by rw[<-mf];exact rJ
 have R5:∀b,aZ b q->b≠(G.g n).b:=fun b hb=>hq.name b hb n bN aR;have iF:∀b,bh b (G.g n).px->b≠(G.g n).b:=fun b hb=>H.qI bN aR hn hb;have lE:∀b,bh b ((G.g n).px.set k (pe.set off q))->aZ b q\/bh b (G.g n).px:=by
  rintro b ⟨k',j',c,bL,hb⟩;rcases oJ iY bL with⟨_,_,rfl⟩|⟨h1,_⟩
  ·exact .inl hb
  ·exact .inr ⟨_,_,_,h1,hb⟩
 have AM:∀b,G.Im b->b≠(G.g n).b:=fun b hb he=>su (he▸hb);have eH:nG w2 (G.g n).b (G.g n).o rs ((G.g n).px.set k (pe.set off q)):=by
  refine⟨fun e he=>?_,fun k' j' c bL=>?_,fun k' j' c bL=>?_⟩
  ·rcases List.mem_or_eq_of_mem_set he with he|rfl
   ·exact l2.1 e he
   ·rw[List.length_set];exact wY
  ·rw[<-mf,zU hg f0];rcases oJ iY bL with⟨rfl,rfl,rfl⟩|⟨h1,aD⟩
   ·rw[if_pos ⟨Nat.le_refl _,by simp⟩];simp
   ·have:=Xi hr.pos l2.1 h1 hold aD;rw[if_neg (by simp only[List.length_cons,List.length_nil];omega)];exact l2.2.1 _ _ _ h1
  ·rcases oJ iY bL with⟨rfl,rfl,rfl⟩|⟨h1,aD⟩
   ·exact hq.eG.congr fun b hb o=>gV (dM b (R5 b hb)) o
   ·exact(l2.2.2 _ _ _ h1).congr fun b hb o=>gV (dM b (iF b ⟨_,_,_,h1,hb⟩)) o
 have K:CM n w G σ.h (fun m=>σ.used m=true) w2 ⟨G.Im,az G.g n {G.g n with px:=(G.g n).px.set k (pe.set off q)}⟩ (az σ.h n (some (.row true .live rs (xs.set k ((pe.map PC.er).set off q.er))))):=by
  refine⟨fun _ h=>h,fun b hb o=>gV (dM b (AM b hb)) o,fun m hm h0=>?_,fun m gr sz av bJ hm h0=>?_,fun b o v hb hv=>(gV (dM b (AM b hb)) o).trans hv⟩
  ·by_cases bJ:m=n
   ·subst bJ;simp only[bR];exact⟨bN,trivial,trivial,trivial,trivial,trivial⟩
   ·rw[cN _ _ _ _ bJ] at h0;simp only[cN _ _ _ _ bJ];exact⟨h0,trivial,trivial,trivial,trivial,trivial⟩
  ·rw[cN _ _ _ _ bJ] at h0;simp only[cN _ _ _ _ bJ];exact⟨⟨gr,av,h0⟩,fun k j pc h1 h2=>⟨pc,h1,rfl,h2⟩⟩
 have Hn:HR B E w2 ⟨G.Im,az G.g n {G.g n with px:=(G.g n).px.set k (pe.set off q)}⟩ (az σ.h n (some (.row true .live rs (xs.set k ((pe.map PC.er).set off q.er))))) σ.used []:=by
  refine H.adF (fun b _ hb=>dM b (hb aR)) (by rw[mM];exact Nat.le_refl _) (fun b _ hb=>pS b hb) (fun _ h=>h) (H.jh n bN) (fun _=>⟨su,qQ,by rw[mM];exact tN⟩)
   (fun _ m hm h0 gX=>H.inj m n h0 bN hm gX aR) (fun _ m gr sz xs hm h0 b hb=>H.live m gr sz xs h0 b hb n bN aR) (fun cs c m hb=>by cases hb)
   (fun m cs c v hm h0 hc hv=>hv.pZ K (ak1 m cs c h0 hc) fun p hp=>H.ik m cs c p h0 hc hp) ?_ ?_ ?_ (fun gr m sz xs _ _ i pc b hi=>by simp at hi) ?_
  ·refine⟨hr.pos,?_,(fun hl=>by rw[aR] at hl;cases hl),fun _=>⟨pS _ l1,eH,by show((G.g n).px.set k _).length<=_;simpa using l3⟩,fun _ _=>?_,?_,fun _ _ k' pc bL=>?_⟩
   ·show xs.set k _=((G.g n).px.set k _).map _;rw[List.map_set,<-hr.er,List.map_set]
   ·obtain⟨r2,jB,e',r3,r4⟩:=hr.room aR rfl;rw[hg] at r3;injection r3 with r3;injection r3 with r3 _ _;subst r3;obtain⟨Qn,c1,c2⟩:=Fu (vs:=[q.val]) (o:=(G.g n).o+k*rs+off) hg f0;rw[mf] at c1;exact⟨r2,Qn,et,c1,by rw[c2];exact r4⟩
   ·have dW:=hr.mode;refine⟨fun b hb=>?_,fun k' j' c bL=>?_,fun k1 j1 c1 k2 j2 c2 b h1 h2 aD hb aL=>?_⟩
    ·rcases lE b hb with h1|h1
     ·exact⟨(hq.own b h1).1,pS b (hq.own b h1).2.1,(hq.own b h1).2.2⟩
     ·exact⟨(dW.1 b h1).1,pS b (dW.1 b h1).2.1,(dW.1 b h1).2.2⟩
    ·rcases oJ iY bL with⟨rfl,rfl,rfl⟩|⟨h1,_⟩
     ·exact hq.sep
     ·exact dW.2.1 _ _ _ h1
    ·rcases oJ iY h1 with⟨rfl,rfl,rfl⟩|⟨g1,n1⟩
     ·rcases oJ iY h2 with⟨rfl,rfl,rfl⟩|⟨g2,n2⟩
      ·exact aD rfl
      ·exact hq.rest b hb _ _ _ g2 n2 aL
     ·rcases oJ iY h2 with⟨rfl,rfl,rfl⟩|⟨g2,n2⟩
      ·exact hq.rest b aL _ _ _ g1 n1 hb
      ·exact dW.2.2 _ _ _ _ _ _ b g1 g2 aD hb aL
   ·have hz:=hr.nr rfl rfl;rcases oJ iY bL with⟨_,_,rfl⟩|⟨h1,_⟩
    ·exact hq.nr.cz fun b hb arr e he=>⟨arr,(dM b (R5 b hb)).trans he,rfl⟩
    ·exact(hz k' pc h1).cz fun b hb arr e he=>⟨arr,(dM b (iF b ⟨_,_,_,h1,hb⟩)).trans he,rfl⟩
  ·intro gr m sz av hb hm n' bo m' aF gD RU h0 bP b cT;rcases lE b cT with h1|h1
   ·exact hq.row b h1 n' bo m' aF gD RU h0
   ·exact H.gv n n' true .live rs xs bo m' aF gD hn h0 (by simp) bP (Ne.symm RU) b h1
  ·intro gr sz av hb b cT;rcases lE b cT with h1|h1
   ·exact⟨fun _=>R5 b h1,fun n' _ h0 hl=>hq.name b h1 n' h0 hl⟩
   ·exact⟨fun _=>iF b h1,fun n' _ h0 hl=>H.live n true rs xs hn b h1 n' h0 hl⟩
  ·intro _ _ b hb;obtain⟨m,gr,mo,sz,av,hm,h0,cT⟩:=hb;exact H.qI bN aR h0 cT
 refine⟨r.defers,r.size,fun s=>(r.env s).pZ K (ak0 s) fun m hm=>r.pC s m hm,r.pC,Hn,r.fr.one qQ (fun b _ aD=>dM b aD) (by rw[mM];exact Nat.le_refl _) (by rw[<-mf];exact Cf hg f0) (by rw[<-mf];rfl) (by rw[<-mf];rfl) (by rw[<-mf];rfl),fun m p b hp hb=>?_,r.vL⟩;have bJ:m≠n:=by
  rintro rfl;have:=E.lt m p hp;omega
 have aL:az σ.h n (some (.row true .live rs (xs.set k ((pe.map PC.er).set off q.er)))) m=some b:=hb;rw[cN _ _ _ _ bJ] at aL;have:=r.mT m p b hp aL;simp only[cN _ _ _ _ bJ];exact this
end
section
variable {B:Nat} {E:Ex} {w0 w w':World} {G G':Gh} {N:Nat} {h h':Nat->Option aq} {used:Nat->Bool}
variable {P:Program} {o:Oper} {a:Act} {σ σ':St} {Q:Exit->Act->World->Prop}
def CP (B:Nat) (E:Ex) (w:World) (G:Gh) (h:Nat->Option aq) (n k off sz:Nat) (zs:List (List C)) (v:Value):Prop:=
 ∃q:PC,q.val=v/\q.er=.list sz zs/\I0 B E w G h n k off q
theorem HR.ac2 (H:HR B E w G h used []) {n k off rs:Nat} {xs:List (List C)} (hn:h n=some (.row true .live rs xs)) (nY:off+1=rs) {pc:PC} (cG:At (G.g n).px k off pc):I0 B E w G h n k off pc:=by
 have hr:=H.row n true .live rs xs hn;have aR:(G.g n).nl=false:=by
  cases hq:(G.g n).nl with
  |false=>rfl
  |true=>obtain⟨e,he,_⟩:=cG;rw[(hr.nl hq).1] at he;simp at he
 obtain⟨l1,l2,l3⟩:=hr.eK aR;have hF:∀b,aZ b pc->bh b (G.g n).px:=fun b hb=>⟨k,off,pc,cG,hb⟩;refine⟨l2.2.2 _ _ _ cG,hr.mode.2.1 _ _ _ cG,hr.nr rfl rfl k pc (by rw[<-nY];exact cG),fun b hb=>hr.mode.1 b (hF b hb),fun b hb m h0 hl=>H.live n true rs xs hn b (hF b hb) m h0 hl,fun b hb m gr mo sz av hm h0 aL=>?_,
  fun b hb k' j' c bL aD aL=>hr.mode.2.2 _ _ _ _ _ _ b bL cG aD aL hb⟩
 by_cases iE:mo=.aJ
 ·subst iE;exact(hr.mode.1 b (hF b hb)).1 ((H.row m gr .aJ sz av h0).mode b aL)
 ·exact H.gv n m true .live rs xs gr mo sz av hn h0 (by simp) iE (Ne.symm hm) b (hF b hb) aL
theorem asN {t ty e:TypeId} {i:TypeInfo} (ht:P.underlying t=some (.slice e)) (hi:P.info? e=some i) (a ya:Option Addr) (c:Nat):
  (Builtin.append_ #[t,t] ty #[.slice a 0 0,.slice ya 0 c]).run P w=.ok (.slice a 0 0) w:=by
 cases ya<;>cases a<;>simp[Builtin.append_,run_underlying ht,sizeOf,typeInfo,hi,Builtin.lenOf,Builtin.firstCells,loadCells,loadCellsFrom,storeCells]
theorem Sep.flat {sz:Nat} {x:Option Addr} {cap:Nat} {px:List (List PC)} (hs:eP (px.map fun e=>e.map PC.er)=true):Sep (.list sz x cap px):=by
 have cm:∀k j c,At px k j c->c.er.fk=true:=by
  rintro k j c ⟨e,he,hj⟩;have h6:=List.all_eq_true.1 hs (e.map PC.er) (by simp only[List.mem_map];exact⟨e,List.mem_of_getElem? he,rfl⟩);exact List.all_eq_true.1 h6 c.er (by simp only[List.mem_map];exact⟨c,List.mem_of_getElem? hj,rfl⟩)
 exact .list _ _ _ _ (fun k j c hk=>(Sep.hY (cm k j c hk)).1) (fun b o k j c _ hk=>(Sep.hY (cm k j c hk)).2 b) (fun k j c k' j' c' b hk _ _ hb=>absurd hb ((Sep.hY (cm k j c hk)).2 b))
theorem aaR {sz:Nat} {x:Option Addr} {cap b:Nat} {px:List (List PC)} (hs:eP (px.map fun e=>e.map PC.er)=true) (hb:aZ b (.list sz x cap px)):∃o,x=some (ad b o):=by
 rw[aZ.kZ] at hb;rcases hb with⟨_,ho⟩|⟨k,j,c,hk,hc⟩
 ·exact ho
 ·exact absurd ⟨k,j,c,hk,hc⟩ (vP hs b)
theorem aiP (r:R B E w0 N σ a w G) {n k rs off sz rG vD by_:Nat} {t e:TypeId} {i:TypeInfo} {z:Value} {x y:Operand} {mx my:MO} {xs ls ys:List (List C)} {yc:ah}
  (ho:o.op=.call {callee:=.builtin .append,args:=#[x,y],argTypes:=#[t,t]}) (fU:bU x mx=true) (fK:bU y my=true)
  (ht:P.underlying t=some (.slice e)) (hi:P.info? e=some i) (hz:i.zero=some z) (bV:i.size=sz) (fV:0<sz) (nU:i.bytes=by_) (wJ:0<by_) (xd:z.cells.size=sz)
  (hn:σ.h n=some (.row true .live rs xs)) (nY:off+1=rs) (hx:σ.ev mx=.one (.bC n k rs off rG vD)) (hl:(xs[k]?).bind (·[off]?)=some (.list sz ls)) (qP:eP ls=true)
  (hy:σ.ev my=.one yc) (hv:cO σ.h yc=some (.list sz ys)) (nu:eP ys=true) (hb:(ls.length+ys.length)*by_<=dX):
  o.wp P a w (fun a' w'=>∃v,a'=a.put o.dst v/\R B E w0 N σ a w' G/\CP B E w' G σ.h n k off sz (ls++ys) v) Q:=by
 have H:=r.hr;obtain⟨x1,_⟩:=r.ev fU;obtain⟨y1,_⟩:=r.ev fK;rw[hx] at x1;rw[hy] at y1;have hyj:yc≠ .bq:=by rintro rfl;simp[Am.cO] at hv
 obtain⟨pc,p1,p2,p3⟩:=(x1.fu (by simp)).1 true xs hn;obtain⟨aR,fO,gJ⟩:=H.HQ hn p1;rw[hl] at gJ;injection gJ with gJ;have iF:=H.ac2 hn nY p1;have hr:=H.row n true .live rs xs hn;obtain⟨yp,e1,e2,e3⟩:=H.cO hv (y1.fu hyj).1;cases pc with
 |int kk nn=>simp[PC.er] at gJ
 |bool bb=>simp[PC.er] at gJ
 |list s' x0 cap fD=>
 rw[PC.dV] at gJ;injection gJ with g1 g2;subst g1;cases yp with
 |int kk nn=>simp[PC.er] at e1
 |bool bb=>simp[PC.er] at e1
 |list s2 ya yc' py=>
 rw[PC.dV] at e1;injection e1 with f1 f2;have f1:=f1.symm;subst f1;have vi:ys.length=py.length:=by rw[<-f2];simp
 have G9:ls.length=fD.length:=by rw[g2];simp
 have Lv:eP (fD.map fun e=>e.map PC.er)=true:=by rw[<-g2];exact qP
 have alR:eP (py.map fun e=>e.map PC.er)=true:=by rw[f2];exact nu
 have gQ:eP ((fD++py).map fun e=>e.map PC.er)=true:=by
  rw[List.map_append];simp only[eP,List.all_append,Bool.and_eq_true];exact⟨Lv,alR⟩
 have aap:(fD++py).map (fun e=>e.map PC.er)=ls++ys:=by rw[List.map_append,<-g2,f2]
 have Rc:uD w sz py (a.eval y):=by rw[<-e2];exact uD.Tt e3
 have eZ:∀e∈fD,e.length=sz:=by
  intro e he;cases fO with
  |nil _ _ _ _=>simp at he
  |cons _ _ _ _ _ _ _ _ h4 _ _=>exact h4 e he
 have alc:∀k j c,At fD k j c->Good w c:=by
  intro k j c hk;cases fO with
  |nil _ _ _ _=>obtain⟨e,he,_⟩:=hk;simp at he
  |cons _ _ _ _ _ _ _ _ _ _ h6=>exact h6 k j c hk
 have DS:∀e∈fD++py,e.length=sz:=fun e he=>(List.mem_append.1 he).elim (eZ e) (Rc.1 e);have auF:∀k j c,At (fD++py) k j c->Good w c:=fun k j c hk=>(rS hk).elim (fun h=>alc _ _ _ h.2) (fun h=>Rc.2.1 _ _ _ h.2);have iH:∀k j c,At (fD++py) k j c->c.er.fk=true:=by
  rintro k j c ⟨e,he,hj⟩;have h6:=List.all_eq_true.1 gQ (e.map PC.er) (by simp only[List.mem_map];exact⟨e,List.mem_of_getElem? he,rfl⟩);exact List.all_eq_true.1 h6 c.er (by simp only[List.mem_map];exact⟨c,List.mem_of_getElem? hj,rfl⟩)
 have wL:cap=0->fD=[]:=by
  intro h0;cases fO with
  |nil _ _ _ _=>rfl
  |cons _ _ _ _ _ h1 h2 _ _ _ _=>subst h0;exact List.eq_nil_of_length_eq_zero (by omega)
 have Sg:∀{u:Value} {w2:World},(Builtin.append_ #[t,t] o.type #[a.eval x,a.eval y]).run P w=.ok u w2->(execOp a.eval o).run P w=.ok (.value u) w2:=by
  intro u w2 bE;simp[execOp,ho,resolve,invoke,builtin,bE]
 have DZ:a.eval x=.slice x0 fD.length cap:=p2.symm;by_cases wN:fD++py=[]
 ·obtain⟨rfl,rfl⟩:=List.append_eq_nil_iff.1 wN;have dL:cap=0:=by
   rcases iF.nr with h0|⟨h0,_⟩
   ·exact h0
   ·exact absurd rfl h0
  subst dL;have alS:ys=[]:=by rw[<-f2];rfl
  have alp:ls=[]:=by rw[g2];rfl
  refine oG (v:=.slice x0 0 0) (w':=w) (Sg ?_) ⟨_,rfl,r,.list sz x0 0 [],rfl,by rw[PC.dV,alS,alp];rfl,iF⟩;rw[DZ,<-e2];exact asN ht hi _ _ _
 ·have L:yh B E w G (az σ.h n none) sz .live fD (a.eval x):=by
   rcases iF.nr with h0|⟨h0,h1,b,ob,cur,et,rfl,h3,h4⟩
   ·subst h0;have:=wL rfl;subst this;exact .inl ⟨x0,DZ,rfl⟩
   ·have dw:aZ b (.list sz (some (ad b ob)) cap fD):=.here _ _ _ _ h0;refine .inr ⟨b,ob,cap,cur,et,DZ,h3,h4,h1,?_,?_,⟨(iF.own b dw).1,fun q hq A8 he=>?_,fun q gr mo aF av hq=>?_⟩,(iF.own b dw).2.2,fun b' aL=>absurd aL (vP Lv b')⟩
    ·cases fO with
     |nil _ _ _ _=>exact absurd rfl h0
     |cons _ _ _ _ _ _ h2 _ _ _ _=>exact h2
    ·generalize gw:PC.list sz (some (ad b ob)) cap fD=p at fO;cases fO with
     |int k n=>cases gw
     |bool b=>cases gw
     |nil _ _ _ _=>injection gw with _ _ _ e4;exact absurd e4 h0
     |cons _ b' Tx _ _ q1 q2 q3 q4 q5 q6=>
      injection gw with f1 f2 f3 f4;injection f2 with f2;obtain⟨rfl,rfl⟩:=lz f2;subst f1 f3 f4;exact⟨q4,q5,q6⟩
    ·obtain⟨q1,q2⟩:=ww hq;exact iF.name b dw q q1 A8 he.symm
    ·obtain⟨q1,q2⟩:=nK hq;exact iF.row b dw q gr mo aF av q2 q1
  obtain⟨r1,r2,Fz,c',hyv,r3⟩:=Rc;have aav:(py.flatten.map PC.val).length=py.length*sz:=Gz r1;have h1:∀u∈py.flatten.map PC.val,u.oneCell'=true:=fun u hu=>by obtain⟨pc,_,rfl⟩:=List.mem_map.1 hu;exact PC.jP pc
  have hB:=r.fr.size;have G8:(fD++py).length=fD.length+py.length:=by simp
  rcases ad9 (P:=P) w (ty:=o.type) (B:=B) (E:=E) ht hi hz bV fV nU wJ eZ L aav r3 h1 (by rw[<-G9,<-vi];exact hb) with⟨a0,k0,_,He,_⟩|⟨b,ob,uI,cur,e',aaF,b2,b3,b4,b5,b6,b7,b8,b9,bE⟩|⟨uI,arr,c1,c2,c3,c4,bE⟩
  ·exact absurd (by rw[He,List.eq_nil_of_length_eq_zero k0];rfl) wN
  ·
   rw[DZ] at aaF;injection aaF with q1 q2 q3;subst q1 q3;have wW:(ob+fD.length*sz)+(py.flatten.map PC.val).length<=cur.size:=by rw[aav,b3,Nat.add_assoc,<-Nat.add_mul];exact Nat.add_le_add_left (Nat.mul_le_mul_right _ b5) _
   generalize mf:gb w b (ob+fD.length*sz) (py.flatten.map PC.val) cur=w2 at bE;have dM:∀x,x≠b->w2.heap[x]? =w.heap[x]? :=fun x hx=>by rw[<-mf];exact zV x hx
   have mM:w2.heap.size=w.heap.size:=by rw[<-mf];exact rJ
   have jE:∀x,Cz w w2 x:=fun x=>by
    by_cases hx:x=b
    ·subst hx;rw[<-mf];exact Cf b2 wW
    ·exact Cz.of_eq (dM x hx)
   have Rk:¬G.Im b:=b7.1;have gW:∀k' j,k'<fD.length->j<sz->w2.cell? (ad b (ob+k'*sz+j))=w.cell? (ad b (ob+k'*sz+j)):=by
    intro k' j bL hj;rw[<-mf,zU b2 wW,if_neg];rintro⟨q1,_⟩;have:(k'+1)*sz<=fD.length*sz:=Nat.mul_le_mul_right _ bL;rw[Nat.add_mul] at this;omega
   have Re:∀{k' j c},At fD k' j c->k'<fD.length/\j<sz:=by
    rintro k' j c ⟨e,he,hj⟩;refine⟨(List.getElem?_eq_some_iff.1 he).1,?_⟩;have:=eZ e (List.mem_of_getElem? he);have:=(List.getElem?_eq_some_iff.1 hj).1;omega
   have alb:Good w2 (.list sz (some (ad b ob)) cap fD):=by
    by_cases h0:fD=[]
    ·subst h0;exact .nil _ _ _ fV
    ·refine .cons _ _ _ _ _ h0 (by omega) fV eZ (fun k' j c hk=>?_) (fun k' j c hk=>Good.hY (iH k' j c ?_))
     ·rw[gW k' j (Re hk).1 (Re hk).2];exact b6.2.1 k' j c hk
     ·obtain⟨e,he,hj⟩:=hk;exact⟨e,by rw[List.getElem?_append_left (List.getElem?_eq_some_iff.1 he).1];exact he,hj⟩
   have bN:σ.h n≠none:=by rw[hn];simp
   have gK:∀m,σ.h m≠none->(G.g m).nl=false->(G.g m).b≠b:=by
    intro m hm hl;by_cases bJ:m=n
    ·subst bJ;by_cases h0:fD=[]
     ·intro he;subst he;rcases iF.nr with hc|⟨hc,_⟩
      ·have:=b7.2.1;subst hc;simp at b5;subst h0;have:py=[]:=by
        apply List.eq_nil_of_length_eq_zero;simpa using b5
       exact wN (by rw[this];rfl)
      ·exact hc h0
     ·exact fun he=>iF.name b (.here _ _ _ _ h0) m hm hl he.symm
    ·exact b7.2.1 m (by rw[cN _ _ _ _ bJ];exact hm) hl
   have alG:∀m gr mo aF av,m≠n->σ.h m=some (.row gr mo aF av)->¬bh b (G.g m).px:=fun m gr mo aF av bJ hm=>b7.2.2 m gr mo aF av (by rw[cN _ _ _ _ bJ];exact hm);have yX:∀k' j' c,At (G.g n).px k' j' c->(k',j')≠(k,off)->¬aZ b c:=by
    intro k' j' c bL aD;by_cases h0:fD=[]
    ·intro hbc;rcases iF.nr with hc|⟨hc,_⟩
     ·subst hc;subst h0;have:py=[]:=by
       apply List.eq_nil_of_length_eq_zero;simpa using b5
      exact wN (by rw[this];rfl)
     ·exact hc h0
    ·exact iF.rest b (.here _ _ _ _ h0) k' j' c bL aD
   obtain⟨l1,l2,l3⟩:=hr.eK aR;have GS:FF w2 (G.g n) (G.g n) true .live rs xs:=by
    refine⟨by simp,.inr rfl,rfl,rfl,rfl,rfl,rfl,hr.er,fun h=>(by rw[aR] at h;cases h),fun _=>⟨⟨l2.1,fun k' j' c bL=>?_,fun k' j' c bL=>?_⟩,l3⟩,hr.mode.2,fun b h=>h,fun _ k' j' pc bL hL=>⟨pc,bL,rfl,hL⟩,fun _ _=>?_⟩
    ·rw[gV (dM _ (gK n bN aR))];exact l2.2.1 _ _ _ bL
    ·by_cases eS:(k',j')=(k,off)
     ·have h1:k'=k:=congrArg Prod.fst eS;have h2:j'=off:=congrArg Prod.snd eS;subst h1 h2;obtain⟨ea,hea,hja⟩:=bL;obtain⟨eb,Lj,Lp⟩:=p1;rw[hea] at Lj;injection Lj with Lj;subst Lj;rw[hja] at Lp;injection Lp with Lp;subst Lp;exact alb
     ·exact(l2.2.2 _ _ _ bL).congr fun x hx o=>gV (dM x (by rintro rfl;exact yX k' j' c bL eS hx)) o
    ·exact(hr.nr rfl rfl).cz fun x _ arr e he=>jE x arr e he
   obtain⟨tg,K,_⟩:=H.HO (G':=G) (h':=σ.h) (w':=w2) (S:=fun m=>m=n) (by rw[mM];exact Nat.le_refl _) (fun x hx cm=>by
     by_cases D2:x=b
     ·subst D2;by_cases h0:fD=[]
      ·rcases iF.nr with hc|⟨hc,_⟩
       ·subst hc;subst h0;exact absurd (by rw[List.eq_nil_of_length_eq_zero (by simpa using b5:py.length=0)];rfl) wN
       ·exact absurd h0 hc
      ·exact absurd (.inr ⟨k,off,_,p1,.here _ _ _ _ h0⟩) (cm n rfl)
     ·exact dM x D2) (fun x _=>jE x) rfl (fun m hm=>by
     subst hm;exact⟨true,.live,rs,xs,xs,hn,hn,GS⟩) (fun m _=>⟨rfl,rfl⟩)
   have r':R B E w0 N σ a w2 G:=r.step rfl (fun _ h=>h) K tg (r.fr.one b8 (fun x _ hx=>dM x hx) (by rw[mM];exact Nat.le_refl _) (jE b) (by rw[<-mf];rfl) (by rw[<-mf];rfl) (by rw[<-mf];rfl));refine oG (v:=.slice (some (ad b ob)) (fD.length+py.length) cap) (w':=w2) (Sg ?_) ⟨_,rfl,r',.list sz (some (ad b ob)) cap (fD++py),by simp[PC.val],by rw[PC.dV,aap],?_⟩
   ·rw[DZ,hyv];rw[DZ] at bE;exact bE
   ·have wX:∀x,aZ x (.list sz (some (ad b ob)) cap (fD++py))->x=b:=fun x hx=>by
     obtain⟨o',fE⟩:=aaR gQ hx;injection fE with fE;exact(lz fE).1.symm
    refine⟨.cons _ _ _ _ _ wN (by rw[G8];exact b5) fV DS (fun k' j c hk=>?_) (fun k' j c hk=>Good.hY (iH k' j c hk)),Sep.flat gQ,?_,fun x hx=>?_,fun x hx m hm hl=>?_,fun x hx m gr mo aF av bJ hm=>?_,fun x hx k' j' c bL aD=>?_⟩
    ·rw[<-mf,zU b2 wW];have hf:=tq DS hk;rw[List.flatten_append] at hf;have kv:fD.flatten.length=fD.length*sz:=by have:=Gz eZ;rwa[List.length_map] at this
     rcases rS hk with⟨nk,bL⟩|⟨nk,bL⟩
     ·rw[if_neg ?_]
      ·exact b6.2.1 k' j c bL
      ·rintro⟨q1,_⟩;have:=(Re bL).2;have:(k'+1)*sz<=fD.length*sz:=Nat.mul_le_mul_right _ nk;rw[Nat.add_mul] at this;omega
     ·have AX:fD.length*sz<=k'*sz+j:=Nat.le_trans (Nat.mul_le_mul_right _ nk) (Nat.le_add_right _ _);have cu:=(List.getElem?_eq_some_iff.1 hf).1;rw[List.length_append,kv] at cu;rw[List.getElem?_append_right (by rw[kv];exact AX),kv] at hf;rw[if_pos ⟨by omega,by simp only[List.length_map];omega⟩];rw[List.getElem?_map,show ob+k'*sz+j - (ob+fD.length*sz)=k'*sz+j - fD.length*sz by omega,hf];rfl
    ·obtain⟨jB,q1,q2⟩:=Fu (vs:=py.flatten.map PC.val) (o:=ob+fD.length*sz) b2 wW;rw[mf] at q1;exact .inr ⟨wN,b4,b,ob,jB,e',rfl,q1,by rw[q2,b3]⟩
    ·rw[wX x hx];exact⟨Rk,(jE b).jO ⟨cur,e',b2⟩,b8⟩
    ·rw[wX x hx];exact(gK m hm hl).symm
    ·rw[wX x hx];exact alG m gr mo aF av bJ hm
    ·rw[wX x hx];exact yX k' j' c bL aD
  ·
   have hd:∀x:Nat,x<w.heap.size->(w.drew.alloc (.cells arr e)).heap[x]? =w.heap[x]? :=fun x hx=>heap_alloc_old w.drew _ x hx;have aaD:w.heap.size<=(w.drew.alloc (.cells arr e)).heap.size:=by
    have:(w.drew.alloc (.cells arr e)).heap.size=w.drew.heap.size+1:=by simp
    have h2:w.drew.heap.size=w.heap.size:=rfl;omega
   have r':R B E w0 N σ a (w.drew.alloc (.cells arr e)) G:=r.step rfl (fun _ h=>h) (bm.world (fun x hx=>hd x (H.gH x hx)) _) (H.grow hd aaD) (r.fr.grow hd aaD rfl rfl rfl);have mM:arr.size=uI*sz:=by rw[c3,xd];omega
   refine oG (v:=.slice (some (ad w.heap.size 0)) (fD.length+py.length) uI) (w':=w.drew.alloc (.cells arr e)) (Sg ?_) ⟨_,rfl,r',.list sz (some (ad w.heap.size 0)) uI (fD++py),by simp[PC.val],by rw[PC.dV,aap],?_⟩
   ·rw[hyv];exact bE
   ·have wX:∀x,aZ x (.list sz (some (ad w.heap.size 0)) uI (fD++py))->x=w.heap.size:=fun x hx=>by
     obtain⟨o',fE⟩:=aaR gQ hx;injection fE with fE;exact(lz fE).1.symm
    refine⟨.cons _ _ _ _ _ wN (by rw[G8];exact c1) fV DS (fun k' j c hk=>?_) (fun k' j c hk=>Good.hY (iH k' j c hk)),Sep.flat gQ,?_,fun x hx=>?_,fun x hx m hm hl=>?_,fun x hx m gr mo aF av bJ hm aL=>?_,fun x hx k' j' c bL aD aL=>?_⟩
    ·have hf:=tq DS hk;have hc:=c4 _ _ (by rw[<-List.map_append,<-List.flatten_append,List.getElem?_map,hf];rfl);simp only[Nat.zero_add];unfold ad;have Hc:=World.cell?_alloc_new w.drew arr e (k'*sz+j);exact Hc.trans hc
    ·exact .inr ⟨wN,c2,w.heap.size,0,arr,e,rfl,heap_alloc_new w.drew _,by rw[mM,Nat.zero_add]⟩
    ·rw[wX x hx];refine⟨fun hi=>?_,d9.alloc w.drew arr e,.inl hB⟩;have:=H.gH _ hi;omega
    ·rw[wX x hx];have:=(H.own m hm hl).2.2;omega
    ·rw[wX x hx] at aL;have:=H.po hm aL;omega
    ·rw[wX x hx] at aL;have:=H.po hn ⟨k',j',c,bL,aL⟩;omega
end
def CO (B:Nat) (E:Ex) (w0:World) (N:Nat) (a:Act) (w:World) (G:Gh) (d:Option Nat) (σ:St):Act->World->Prop:=
 fun a' w'=>w'=w/\(∃v,a'=a.put d v)/\R B E w0 N σ a' w G
section
variable {B:Nat} {E:Ex} {w0 w w':World} {G G':Gh} {N:Nat} {h h':Nat->Option aq} {used:Nat->Bool}
variable {P:Program} {T:aQ} {o:Oper} {a:Act} {σ σ':St} {Q:Exit->Act->World->Prop}
theorem AF (r:R B E w0 N σ a w G) {x:aj} {v:Value} (bE:(execOp a.eval o).run P w=.ok (.value v) w) (hv:RA w G σ.h x v) (hr:∀m,x.ref m->σ.used m=true) (hN:∀n,o.dst=some n->n<N):
  o.wp P a w (CO B E w0 N a w G o.dst (σ.put o.dst x)) Q:=oG bE ⟨rfl,⟨v,rfl⟩,r.put hv hr hN⟩
theorem YB (r:R B E w0 N σ a w G) {x:Operand} {m:MO} (ho:o.op=.move x\/o.op=.assign x) (hN:∀n,o.dst=some n->n<N) (hm:bU x m=true):
  o.wp P a w (CO B E w0 N a w G o.dst (σ.put o.dst (σ.ev m))) Q:=by
 obtain⟨h1,h2⟩:=r.ev hm;refine AF r ?_ h1 h2 hN;rcases ho with ho|ho<;>simp[execOp,ho]
theorem QA (r:R B E w0 N σ a w G) {s:TypeId} {f off:Nat} {x:Operand} {mx:MO} {y:aj} (ho:o.op=.fieldAddr s x f) (hN:∀n,o.dst=some n->n<N) (hx:bU x mx=true) (hc:Ga P s f off=true)
  (hy:(∃n k sz q,σ.ev mx=.one (.ptr n k sz q)/\(σ.h n).isSome=true/\y=.one (.ptr n k sz (q+off)))\/(∃xs q,σ.ev mx=.one (.dg xs q)/\y=.one (.dg xs (q+off)))\/(∃xs q j n s len,σ.ev mx=.one (.cH xs q j n s len)/\y=.one (.cH xs (q+off) j n s len))):
  o.wp P a w (CO B E w0 N a w G o.dst (σ.put o.dst y)) Q:=by
 obtain⟨x1,x2⟩:=r.ev hx;rcases hy with⟨n,k,sz,q,e1,hs,rfl⟩|⟨xs,q,e1,rfl⟩|⟨xs,q,j,n,s',len,e1,rfl⟩
 ·rw[e1] at x1 x2;have hp:σ.h n≠none:=by intro hh;rw[hh] at hs;cases hs
  obtain⟨h1,h2⟩:=(x1.fu (by simp)).1 hp;refine AF r (v:=.pointer (some (ad (G.g n).b ((G.g n).o+k*sz+q+off)))) ?_ ?_ (fun m hm=>x2 m hm) hN
  ·simp only[execOp,ho,h2];simp[EU hc]
  ·exact RA.fC rfl fun _=>⟨h1,by rw[Nat.add_assoc]⟩
 ·rw[e1] at x1;obtain⟨b,o',pe,p1,p2,p3,p4⟩:=(x1.fu (by simp)).1;refine AF r (v:=.pointer (some (ad b (o'+q+off)))) ?_ ?_ (fun m hm=>absurd hm (by simp[aj.ref,ah.ref,ah.hZ])) hN
  ·simp only[execOp,ho,p1];simp[EU hc]
  ·exact RA.fC rfl ⟨b,o',pe,by rw[Nat.add_assoc],p2,p3,p4⟩
 ·rw[e1] at x1 x2;obtain⟨b,o',pe,p1,p2,p3,p4,p5⟩:=(x1.fu (by simp)).1;refine AF r (v:=.pointer (some (ad b (o'+q+off)))) ?_ ?_ (fun m hm=>x2 m hm) hN
  ·simp only[execOp,ho,p1];simp[EU hc]
  ·exact RA.fC rfl ⟨b,o',pe,by rw[Nat.add_assoc],p2,p3,p4,p5⟩
theorem Yz (r:R B E w0 N σ a w G) {t e:TypeId} {i:TypeInfo} {x y:Operand} {mx my:MO} {sz:Nat} {q:Int} {z:aj} (ho:o.op=.indexAddr t x y) (hN:∀n,o.dst=some n->n<N) (fU:bU x mx=true) (fK:bU y my=true)
  (ht:P.underlying t=some (.slice e)) (hi:P.info? e=some i) (bV:i.size=sz) (hq:(σ.ev my).dZ=some q) (h0:0<=q)
  (hz:(∃n lo len,σ.ev mx=.one (.sl n sz lo len)/\q<(len:Int)/\(σ.h n).isSome=true/\z=.one (.ptr n (lo+q.toNat) sz 0))\/(∃xs el,σ.ev mx=.one (.c (.list sz xs))/\xs[q.toNat]? =some el/\z=.one (.dg el 0))):
  o.wp P a w (CO B E w0 N a w G o.dst (σ.put o.dst z)) Q:=by
 obtain⟨x1,x2⟩:=r.ev fU;obtain⟨kk,ey⟩:=(r.ev fK).1.int hq;rcases hz with⟨n,lo,len,e1,h1,hs,rfl⟩|⟨xs,el,e1,h1,rfl⟩
 ·rw[e1] at x1 x2;have gY:gE (G.g n) sz lo len (a.eval x):=(x1.fu (by simp)).1 (LZ hs);rcases gY with⟨_,_,_,hl⟩|⟨aR,a',hv,io,ha⟩
  ·omega
  ·have pP:=ha (.inl (by omega));subst pP;refine AF r (v:=.pointer (some (ad (G.g n).b ((G.g n).o+lo*sz+q.toNat*sz)))) ?_ ?_ (fun m hm=>x2 m hm) hN
   ·simp only[execOp,ho,hv,ey];simp[EV ht hi bV h0 h1]
   ·exact RA.fC rfl fun _=>⟨aR,by rw[Nat.add_mul];congr 3;omega⟩
 ·rw[e1] at x1;obtain⟨pc,p1,p2,p3,p4⟩:=x1.c;cases pc with
  |int k n=>simp[PC.er] at p1
  |bool b=>simp[PC.er] at p1
  |list s' ya c py=>
   rw[PC.dV] at p1;injection p1 with p0 p1;subst p0;have iY:∃pe,py[q.toNat]? =some pe/\pe.map PC.er=el:=by
    rw[<-p1,List.getElem?_map] at h1;cases hp:py[q.toNat]? with
    |none=>rw[hp] at h1;cases h1
    |some pe=>rw[hp] at h1;simp at h1;exact⟨pe,rfl,h1⟩
   obtain⟨pe,qT,qU⟩:=iY;have cu:q.toNat<py.length:=(List.getElem?_eq_some_iff.1 qT).1;cases p3 with
   |nil _ _ _ _=>simp at cu
   |cons _ b oo _ _ g1 g2 g3 g4 g5 g6=>
    have fc:q<(py.length:Int):=by omega
    refine AF r (v:=.pointer (some (ad b (oo+q.toNat*s')))) ?_ ?_ (fun m hm=>absurd hm (by simp[aj.ref,ah.ref,ah.hZ])) hN
    ·simp only[execOp,ho,<-p2,PC.val,ey];simp[EV ht hi bV h0 fc]
    ·refine RA.fC rfl ⟨b,oo+q.toNat*s',pe,by simp,qU,p4 b (.here _ _ _ _ g1),fun j c hj=>?_⟩;exact⟨g5 _ _ _ ⟨pe,qT,hj⟩,g6 _ _ _ ⟨pe,qT,hj⟩,fun b' aL=>p4 b' (.there _ _ _ _ _ _ c ⟨pe,qT,hj⟩ aL)⟩
theorem ajg (r:R B E w0 N σ a w G) {t e:TypeId} {i:TypeInfo} {x y:Operand} {mx my:MO} {n k aB off sz aF len:Nat} {q:Int} {ys:List (List C)} (ho:o.op=.indexAddr t x y) (hN:∀n,o.dst=some n->n<N) (fU:bU x mx=true) (fK:bU y my=true)
  (ht:P.underlying t=some (.slice e)) (hi:P.info? e=some i) (bV:i.size=sz) (hq:(σ.ev my).dZ=some q) (h0:0<=q) (h1:q<(ys.length:Int))
  (hx:σ.ev mx=.one (.bC n k aB off aF len)) (hv:cO σ.h (.bC n k aB off aF len)=some (.list sz ys)):
  o.wp P a w (CO B E w0 N a w G o.dst (σ.put o.dst (.one (.db n k aB off sz q.toNat)))) Q:=by
 obtain⟨x1,x2⟩:=r.ev fU;obtain⟨kk,ey⟩:=(r.ev fK).1.int hq;rw[hx] at x1 x2;obtain⟨gr,xs,hn,hb⟩:=ag6 hv;obtain⟨pc,p1,p2,p3⟩:=(x1.fu (by simp)).1 gr xs hn;obtain⟨g1,g2,g3⟩:=r.hr.HQ hn p1;rw[hb] at g3;injection g3 with g3;cases pc with
 |int k n=>simp[PC.er] at g3
 |bool b=>simp[PC.er] at g3
 |list s' ya c py=>
  rw[PC.dV] at g3;injection g3 with e1 e2;subst e1;have hl:ys.length=py.length:=by rw[e2];simp
  have fc:q<(py.length:Int):=by omega
  have w9:PC.val (.list sz ya c py)=.slice ya py.length c:=rfl;generalize gw:PC.list sz ya c py=p at g2;cases g2 with
  |int k n=>cases gw
  |bool b=>cases gw
  |nil _ _ _ _=>injection gw with _ _ _ e4;subst e4;simp at fc;omega
  |cons _ b oo _ _ q1 q2 q3 q4 q5 q6=>
   injection gw with f1 f2 f3 f4;subst f1 f2 f3 f4;refine AF r (v:=.pointer (some (ad b (oo+q.toNat*sz)))) ?_ ?_ (fun m hm=>x2 m hm) hN
   ·simp only[execOp,ho,<-p2,PC.val,ey];simp[EV ht hi bV h0 fc]
   ·refine RA.fC rfl fun bo av bu=>?_;exact⟨_,b,oo,py.length,c,p1,rfl,rfl,rfl⟩
end
end Go.Am
