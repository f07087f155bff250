/- AmS: pointers into lists of live rows. No condition. -/
import Derived.Test.YtifmggmhdcdgbaaAmO
set_option linter.unusedVariables false
namespace Go.Am
section
variable {B:Nat} {E:Ex} {w0 w w':World} {G G':Gh} {N:Nat} {h h':Nat->Option aq} {used:Nat->Bool}
variable {P:Program} {o:Oper} {a:Act} {σ σ':St} {Q:Exit->Act->World->Prop}
theorem ale {n k ax off sz len:Nat} {x:C} (hx:bU h (.bx n k ax off sz len)=some x):∃gr xs,h n=some (.row gr .live ax xs)/\(xs[k]?).bind (·[off]?)=some x:=by
 simp only[Am.bU] at hx
 split at hx
 ·rename_i gr rs xs hn
  split at hx
  ·rename_i hc
   subst hc
   exact⟨gr,xs,hn,hx⟩
  ·cases hx
 ·cases hx
theorem HR.XU (H:HR B E w G h used []) {n k off ax:Nat} {gr:Bool} {xs:List (List C)} (hn:h n=some (.row gr .live ax xs)) {pc:PC} (bO:At (G.g n).px k off pc):
  (G.g n).nl=false/\Good w pc/\(xs[k]?).bind (·[off]?)=some pc.er:=by
 have hr:=H.row n gr .live ax xs hn
 have aK:(G.g n).nl=false:=by
  cases hq:(G.g n).nl with
  |false=>rfl
  |true=>obtain⟨e,he,_⟩:=bO;rw[(hr.nl hq).1] at he;simp at he
 refine⟨aK,(hr.dB aK).2.1.2.2 _ _ _ bO,?_⟩
 obtain⟨e,he,hj⟩:=bO
 rw[hr.er]
 simp[he,hj]
theorem abG (r:R B E w0 N σ a w G) {t e:TypeId} {i:TypeInfo} {x y:Operand} {mx my:MO} {n k ax off sz aG len:Nat} {q:Int} {ys:List (List C)} (ho:o.op=.indexAddr t x y) (hN:∀n,o.dst=some n->n<N) (iQ:bw x mx=true) (jm:bw y my=true)
  (ht:P.underlying t=some (.slice e)) (hi:P.info? e=some i) (bE:i.size=sz) (hq:(σ.ev my).cX=some q) (h0:0<=q) (h1:q<(ys.length:Int))
  (hx:σ.ev mx=.one (.bx n k ax off aG len)) (hv:bU σ.h (.bx n k ax off aG len)=some (.list sz ys)):
  o.wp P a w (Nx B E w0 N (σ.put o.dst (.one (.cD n k ax off sz q.toNat)))) Q:=by
 obtain⟨x1,x2⟩:=r.ev iQ
 obtain⟨kk,ey⟩:=(r.ev jm).1.int hq
 rw[hx] at x1 x2
 obtain⟨gr,xs,hn,hb⟩:=ale hv
 obtain⟨pc,p1,p2,p3⟩:=(x1.fb (by simp)).1 gr xs hn
 obtain⟨g1,g2,g3⟩:=r.hr.XU hn p1
 rw[hb] at g3
 injection g3 with g3
 cases pc with
 |int k n=>simp[PC.er] at g3
 |bool b=>simp[PC.er] at g3
 |list s' ya c py=>
  rw[PC.dr] at g3
  injection g3 with e1 e2
  subst e1
  have hl:ys.length=py.length:=by rw[e2];simp
  have dM:q<(py.length:Int):=by omega
  have He:PC.val (.list sz ya c py)=.slice ya py.length c:=rfl
  generalize np:PC.list sz ya c py=p at g2
  cases g2 with
  |int k n=>cases np
  |bool b=>cases np
  |nil _ _ _ _=>injection np with _ _ _ e4;subst e4;simp at dM;omega
  |cons _ b oo _ _ q1 q2 q3 q4 q5 q6=>
   injection np with f1 f2 f3 f4
   subst f1 f2 f3 f4
   refine fV r (v:=.pointer (some (ad b (oo+q.toNat*sz)))) ?_ ?_ (fun m hm=>x2 m hm) hN
   ·simp only[execOp,ho,<-p2,PC.val,ey]
    simp[Qw ht hi bE h0 dM]
   ·refine RA.fR rfl fun bh ar bk=>?_
    exact⟨_,b,oo,py.length,c,p1,rfl,rfl,rfl⟩
theorem TY:∀{vs:List ai} {cs:List C} {us:List Value},kT vs=some cs->cA w G h vs us->∃pe:List PC,pe.map PC.er=cs/\pe.map PC.val=us/\pe.length=vs.length/\∀c∈pe,c.er.dT=true
 |[],cs,us,hx,hr=>by
  simp only[kT] at hx
  injection hx with hx
  subst hx
  have:us=[]:=List.eq_nil_of_length_eq_zero hr.1
  subst this
  exact⟨[],rfl,rfl,rfl,by simp⟩
 |c::vs,cs,us,hx,hr=>by
  match us,hr with
  |[],hr=>exact absurd hr.1 (by simp)
  |u::us,hr=>
  cases c with
  |c x=>
   simp only[kT] at hx
   split at hx
   ·rename_i hs
    cases hd:kT vs with
    |none=>rw[hd] at hx;cases hx
    |some l=>
     rw[hd] at hx
     injection hx with hx
     subst hx
     obtain⟨pe,e1,e2,e3,e4⟩:=TY (us:=us) hd ⟨by have:=hr.1;simpa using this,fun j c u hj hu=>hr.2 (j+1) c u (by simpa using hj) (by simpa using hu)⟩
     obtain⟨_,pc,q1,q2,_⟩:=hr.2 0 _ u rfl rfl
     refine⟨pc::pe,by simp[e1,q1],by simp[e2,q2],by simp[e3],fun c hc=>?_⟩
     rcases List.mem_cons.1 hc with rfl|hc
     ·rw[q1];exact hs
     ·exact e4 c hc
   ·cases hx
  |nil _=>simp[kT] at hx
  |ptr _ _ _ _=>simp[kT] at hx
  |cd _ _=>simp[kT] at hx
  |sl _ _ _ _=>simp[kT] at hx
  |bx _ _ _ _ _ _=>simp[kT] at hx
  |cD _ _ _ _ _ _=>simp[kT] at hx
  |fn _ _=>simp[kT] at hx
  |bf=>simp[kT] at hx
theorem Good.kA {c:PC} (hs:c.er.dT=true):Good w c:=by
 cases c with
 |int k n=>exact .int k n
 |bool b=>exact .bool b
 |list s a cap xs=>rw[PC.dr] at hs;cases hs
theorem abN (r:R B E w0 N σ a w G) {t:TypeId} {i:TypeInfo} {x y:Operand} {mx my:MO} {sz n k rs off s j:Nat} {ag gr:Bool} {xs ar:List (List C)} {vs:List ai} (ho:o.op=.store t x y) (hd:o.dst=none) (iQ:bw x mx=true) (jm:bw y my=true)
  (hi:P.info? t=some i) (bE:i.size=sz) (iE:0<sz) (hp:σ.ev mx=.one (.cD n k rs off s j)) (hv:(σ.ev my).cells?=some (ag,vs)) (hl:vs.length=sz) (hn:σ.h n=some (.row gr .live rs xs))
  (hx:ua xs k off s j vs=some ar):o.wp P a w (Nx B E w0 N (σ.dd n (.row gr .live rs ar))) Q:=by
 have H:=r.hr
 obtain⟨x1,_⟩:=r.ev iQ
 obtain⟨y1,y2⟩:=r.ev jm
 rw[hp] at x1
 obtain⟨pc,b,oo,len,cap,p1,p2,p3,p4⟩:=(x1.fb (by simp)).1 gr xs hn
 obtain⟨aK,g2,g3⟩:=H.XU hn p1
 have hr:=H.row n gr .live rs xs hn
 unfold ua at hx
 rw[g3] at hx
 have bP:=y1.cells hv
 have C0:(a.eval y).cells.toList.length=sz:=by rw[bP.1,hl]
 cases pc with
 |int kk nn=>simp[PC.er] at hx
 |bool bb=>simp[PC.er] at hx
 |list s' ya c py=>
 rw[PC.dr] at hx
 simp only at hx
 split at hx
 ·rename_i cz
  obtain⟨rfl,ig,hj,rW⟩:=cz
  cases xw:kT vs with
  |none=>rw[xw] at hx;cases hx
  |some cs=>
  rw[xw] at hx
  injection hx with hx
  obtain⟨pe,e1,e2,e3,e4⟩:=TY xw bP
  have hj:j<py.length:=by simpa using hj
  have G5:pe.length=s':=by omega
  have C1:PC.val (.list s' ya c py)=.slice ya py.length c:=rfl
  rw[C1] at p2
  injection p2 with f1 f2 f3
  subst f1 f2 f3
  generalize np:PC.list s' (some (ad b oo)) c py=p at g2
  cases g2 with
  |int k n=>cases np
  |bool b=>cases np
  |nil _ _ _ _=>injection np with _ _ _ e4;subst e4;simp at hj
  |cons _ b' oo' _ _ q1 q2 q3 q4 q5 q6=>
  injection np with f1 f2 f3 f4
  injection f2 with f2
  obtain⟨rfl,rfl⟩:=nb f2
  subst f1 f3 f4
  have eo:aM b (PC.list s' (some (ad b oo)) c py):=.here _ _ _ _ q1
  have hF:aP b (G.g n).px:=⟨k,off,_,p1,eo⟩
  obtain⟨alw,⟨cur,et,hg⟩,hBE⟩:=hr.mode.1 b hF
  have gD:oo+j*s'+(a.eval y).cells.toList.length<=cur.size:=by
   have h2:(py[j]'hj).length=s':=q4 _ (List.getElem_mem hj)
   have hc:=q5 j (s' - 1) ((py[j]'hj)[s' - 1]'(by omega)) ⟨_,List.getElem?_eq_getElem hj,List.getElem?_eq_getElem _⟩
   have:=B1 hg hc
   omega
  have iD:∀k' j' c',At (py.set j pe) k' j' c'->c'.er.dT=true:=by
   intro k' j' c' h
   rcases FQ hj h with⟨rfl,h1⟩|⟨_,h1⟩
   ·exact e4 c' (List.mem_of_getElem? h1)
   ·obtain⟨e,he,jl⟩:=h1
    have h6:=List.all_eq_true.1 rW (e.map PC.er) (by simp only[List.mem_map];exact⟨e,List.mem_of_getElem? he,rfl⟩)
    exact List.all_eq_true.1 h6 c'.er (by simp only[List.mem_map];exact⟨c',List.mem_of_getElem? jl,rfl⟩)
  have aw:py.set j pe≠[]:=by
   intro h
   have:=congrArg List.length h
   simp at this
   rw[this] at hj
   simp at hj
  have mG:∀e∈py.set j pe,e.length=s':=by
   intro e he
   rcases List.mem_or_eq_of_mem_set he with he|rfl
   ·exact q4 e he
   ·exact G5
  generalize lP:dU w b (oo+j*s') (a.eval y).cells.toList cur=w'
  have A:uz w' .ae (PC.list s' (some (ad b oo)) c py) (PC.list s' (some (ad b oo)) c (py.set j pe)):=by
   refine⟨by simp[PC.val],.cons _ _ _ _ _ aw (by simpa using q2) q3 mG (fun k' j' c' h=>?_) (fun k' j' c' h=>Good.kA (iD k' j' c' h)),.list _ _ _ _ (fun k' j' c' h=>(Sep.kA (iD k' j' c' h)).1) (fun b' o' k' j' c' _ h=>(Sep.kA (iD k' j' c' h)).2 b')
    (fun k1 j1 c1 k2 j2 c2 b' h _ _ hb=>absurd hb ((Sep.kA (iD k1 j1 c1 h)).2 b')),fun b' aR=>?_,?_,fun sK a0 uL kb wq a1 J7 uk h1 h2=>?_⟩
   ·have ko:j'<s':=by
     obtain⟨e,he,jl⟩:=h
     have:=mG e (List.mem_of_getElem? he)
     have:=(List.getElem?_eq_some_iff.1 jl).1
     omega
    rw[<-lP,BD hg gD]
    rcases FQ hj h with⟨rfl,h1⟩|⟨rR,h1⟩
    ·rw[if_pos (by omega),show oo+k'*s'+j' - (oo+k'*s')=j' by omega,<-e2,List.getElem?_map,h1]
     rfl
    ·rw[if_neg]
     ·exact q5 _ _ _ h1
     ·rintro⟨u1,u2⟩
      rcases Nat.lt_or_gt_of_ne rR with bL|xC
      ·have:(k'+1)*s'<=j*s':=Nat.mul_le_mul_right _ bL
       rw[Nat.add_mul] at this
       omega
      ·have:(j+1)*s'<=k'*s':=Nat.mul_le_mul_right _ xC
       rw[Nat.add_mul] at this
       omega
   ·rw[aM.jZ] at aR⊢
    rcases aR with⟨_,h2⟩|⟨k',j',c',h1,h2⟩
    ·exact .inl ⟨q1,h2⟩
    ·exact absurd h2 ((Sep.kA (iD k' j' c' h1)).2 b')
   ·rw[PC.dr]
    show fB _=true
    rw[fB,List.all_eq_true]
    intro e he
    obtain⟨e0,km,rfl⟩:=List.mem_map.1 he
    rw[eW,List.all_eq_true]
    intro c0 dS
    obtain⟨c1,CJ,rfl⟩:=List.mem_map.1 dS
    obtain⟨k',cW⟩:=List.getElem?_of_mem km
    obtain⟨j',jl⟩:=List.getElem?_of_mem CJ
    exact iD k' j' c1 ⟨e0,cW,jl⟩
   ·injection h1 with a1 a2 a3 a4
    injection h2 with b1 b2 b3 b4
    subst a1 a2 a3 a4 b1 b2 b3 b4
    exact⟨rfl,rfl,rfl,by simp,fun h=>by cases h⟩
  have ez:∀b',b'≠b->w'.heap[b']? =w.heap[b']? :=fun b' aR=>by rw[<-lP];exact yP b' aR
  have kZ:∀b',Cz w w' b':=fun b'=>by
   by_cases hb:b'=b
   ·subst hb;rw[<-lP];exact BE hg gD
   ·exact Cz.of_eq (ez b' hb)
  have tE:w.heap.size<=w'.heap.size:=by rw[<-lP,qe];exact Nat.le_refl _
  have bM:σ.h n≠none:=by rw[hn];simp
  have Lx:(G.g n).b≠b:=fun h=>H.live n gr rs xs hn b hF n bM aK h.symm
  obtain⟨ex,rP⟩:∃ex,xs[k]? =some ex:=by
   cases h:xs[k]? with
   |none=>rw[h] at g3;cases g3
   |some ex=>exact⟨ex,rfl⟩
  have adO:ar=xs.set k (ex.set off (PC.list s' (some (ad b oo)) c (py.set j pe)).er):=by
   rw[<-hx,PC.dr,List.map_set,e1,List.getD_eq_getElem?_getD,rP]
   rfl
  have LD:=Tz H hn p1 rfl (fun _=>ez _ Lx) (fun k' j' c' h1 h2 b' aR=>ez b' (by rintro rfl;exact hr.mode.2.2 _ _ _ _ _ _ b' h1 p1 h2 aR eo)) A rP
  obtain⟨wJ,K,_⟩:=H.Pj (G':=⟨G.Im,au G.g n (yl (G.g n) (.nest n k off) (PC.list s' (some (ad b oo)) c (py.set j pe)))⟩) (h':=au σ.h n (some (.row gr .live rs ar))) (w':=w') (S:=fun m=>m=n) tE
   (fun b' aR cf=>ez b' (by rintro rfl;exact cf n rfl (.inr hF))) (fun b' _=>kZ b') rfl
   (fun m hm=>by subst hm;exact⟨gr,.live,rs,xs,ar,hn,bC _ _ _,by simp only[bC];rw[adO];exact LD⟩)
   (fun m hm=>⟨cb _ _ _ _ hm,cb _ _ _ _ hm⟩)
  have r':=r.step (σ':=σ.dd n (.row gr .live rs ar)) rfl (fun _ h=>h) K wJ (r.fr.one hBE (fun b' _ aw=>ez b' aw) tE (kZ b) (by rw[<-lP];rfl) (by rw[<-lP];rfl) (by rw[<-lP];rfl))
  have bK:=Iw (P:=P) (w:=w) (t:=t) (i:=i) (b:=b) (off:=oo+j*s') (v:=a.eval y) (cur:=cur) (e:=et) hi (by rw[bE,<-C0];simp) hg (by simpa using gD) (fun u hu=>by
   obtain⟨j,hj,CO⟩:=List.getElem_of_mem hu
   have tt:j<vs.length:=by omega
   exact(bP.2 j _ u (List.getElem?_eq_getElem tt) (by rw[List.getElem?_eq_getElem hj,CO])).1)
  refine Jk (w':=w') ?_ ⟨_,by rw[hd];exact r'⟩
  rw[<-lP]
  simp only[execOp,ho,p4]
  simp[Instr.storeAt,Instr.sureAddr,bK]
 ·cases hx
end
end Go.Am
