/- AmS: pointers into lists of live rows. No condition. -/
import Derived.Test.YtbgmbplglejidaaAmO
set_option linter.unusedVariables false
namespace Go.Am
section
variable {B:Nat} {E:Ex} {w0 w w':World} {G G':Gh} {N:Nat} {h h':Nat->Option ao} {used:Nat->Bool}
variable {P:Program} {o:Oper} {a:Act} {σ σ':St} {Q:Exit->Act->World->Prop}
theorem apz {n k az off sz len:Nat} {x:C} (hx:cg h (.bz n k az off sz len)=some x):∃gr xs,h n=some (.row gr .live az xs)/\(xs[k]?).bind (·[off]?)=some x:=by
 simp only[Am.cg] at hx
 split at hx
 ·rename_i gr rs xs hn
  split at hx
  ·rename_i hc
   subst hc
   exact⟨gr,xs,hn,hx⟩
  ·cases hx
 ·cases hx
theorem HR.aax (H:HR B E w G h used []) {n k off az:Nat} {gr:Bool} {xs:List (List C)} (hn:h n=some (.row gr .live az xs)) {pc:PC} (bQ:At (G.g n).px k off pc):
  (G.g n).nl=false/\Good w pc/\(xs[k]?).bind (·[off]?)=some pc.er:=by
 have hr:=H.row n gr .live az xs hn
 have aL:(G.g n).nl=false:=by
  cases hq:(G.g n).nl with
  |false=>rfl
  |true=>obtain⟨e,he,_⟩:=bQ;rw[(hr.nl hq).1] at he;simp at he
 refine⟨aL,(hr.dR aL).2.1.2.2 _ _ _ bQ,?_⟩
 obtain⟨e,he,hj⟩:=bQ
 rw[hr.er]
 simp[he,hj]
theorem afd (r:R B E w0 N σ a w G) {t e:TypeId} {i:TypeInfo} {x y:Operand} {mx my:MO} {n k az off sz aJ len:Nat} {q:Int} {ys:List (List C)} (ho:o.op=.indexAddr t x y) (hN:∀n,o.dst=some n->n<N) (gY:bB x mx=true) (jQ:bB y my=true)
  (ht:P.underlying t=some (.slice e)) (hi:P.info? e=some i) (bD:i.size=sz) (hq:(σ.ev my).df=some q) (h0:0<=q) (h1:q<(ys.length:Int))
  (hx:σ.ev mx=.one (.bz n k az off aJ len)) (hv:cg σ.h (.bz n k az off aJ len)=some (.list sz ys)):
  o.wp P a w (Nx B E w0 N (σ.put o.dst (.one (.cQ n k az off sz q.toNat)))) Q:=by
 obtain⟨x1,x2⟩:=r.ev gY
 obtain⟨kk,ey⟩:=(r.ev jQ).1.int hq
 rw[hx] at x1 x2
 obtain⟨gr,xs,hn,hb⟩:=apz hv
 obtain⟨pc,p1,p2,p3⟩:=(x1.fH (by simp)).1 gr xs hn
 obtain⟨g1,g2,g3⟩:=r.hr.aax hn p1
 rw[hb] at g3
 injection g3 with g3
 cases pc with
 |int k n=>simp[PC.er] at g3
 |bool b=>simp[PC.er] at g3
 |list s' ya c py=>
  rw[PC.dJ] at g3
  injection g3 with e1 e2
  subst e1
  have hl:ys.length=py.length:=by rw[e2];simp
  have eA:q<(py.length:Int):=by omega
  have wj:PC.val (.list sz ya c py)=.slice ya py.length c:=rfl
  generalize nW:PC.list sz ya c py=p at g2
  cases g2 with
  |int k n=>cases nW
  |bool b=>cases nW
  |nil _ _ _ _=>injection nW with _ _ _ e4;subst e4;simp at eA;omega
  |cons _ b oo _ _ q1 q2 q3 q4 q5 q6=>
   injection nW with f1 f2 f3 f4
   subst f1 f2 f3 f4
   refine gz r (v:=.pointer (some (ad b (oo+q.toNat*sz)))) ?_ ?_ (fun m hm=>x2 m hm) hN
   ·simp only[execOp,ho,<-p2,PC.val,ey]
    simp[SZ ht hi bD h0 eA]
   ·refine RA.ga rfl fun bk aq bj=>?_
    exact⟨_,b,oo,py.length,c,p1,rfl,rfl,rfl⟩
theorem W9:∀{vs:List ah} {cs:List C} {us:List Value},lz vs=some cs->cN w G h vs us->∃pe:List PC,pe.map PC.er=cs/\pe.map PC.val=us/\pe.length=vs.length/\∀c∈pe,c.er.eN=true
 |[],cs,us,hx,hr=>by
  simp only[lz] at hx
  injection hx with hx
  subst hx
  have:us=[]:=List.eq_nil_of_length_eq_zero hr.1
  subst this
  exact⟨[],rfl,rfl,rfl,by simp⟩
 |c::vs,cs,us,hx,hr=>by
  match us,hr with
  |[],hr=>exact absurd hr.1 (by simp)
  |u::us,hr=>
  cases c with
  |c x=>
   simp only[lz] at hx
   split at hx
   ·rename_i hs
    cases hd:lz vs with
    |none=>rw[hd] at hx;cases hx
    |some l=>
     rw[hd] at hx
     injection hx with hx
     subst hx
     obtain⟨pe,e1,e2,e3,e4⟩:=W9 (us:=us) hd ⟨by have:=hr.1;simpa using this,fun j c u hj hu=>hr.2 (j+1) c u (by simpa using hj) (by simpa using hu)⟩
     obtain⟨_,pc,q1,q2,_⟩:=hr.2 0 _ u rfl rfl
     refine⟨pc::pe,by simp[e1,q1],by simp[e2,q2],by simp[e3],fun c hc=>?_⟩
     rcases List.mem_cons.1 hc with rfl|hc
     ·rw[q1];exact hs
     ·exact e4 c hc
   ·cases hx
  |nil _=>simp[lz] at hx
  |ptr _ _ _ _=>simp[lz] at hx
  |cu _ _=>simp[lz] at hx
  |sl _ _ _ _=>simp[lz] at hx
  |bz _ _ _ _ _ _=>simp[lz] at hx
  |cQ _ _ _ _ _ _=>simp[lz] at hx
  |fn _ _=>simp[lz] at hx
  |bm=>simp[lz] at hx
theorem Good.kP {c:PC} (hs:c.er.eN=true):Good w c:=by
 cases c with
 |int k n=>exact .int k n
 |bool b=>exact .bool b
 |list s a cap xs=>rw[PC.dJ] at hs;cases hs
theorem afn (r:R B E w0 N σ a w G) {t:TypeId} {i:TypeInfo} {x y:Operand} {mx my:MO} {sz n k rs off s j:Nat} {ag gr:Bool} {xs aq:List (List C)} {vs:List ah} (ho:o.op=.store t x y) (hd:o.dst=none) (gY:bB x mx=true) (jQ:bB y my=true)
  (hi:P.info? t=some i) (bD:i.size=sz) (jb:0<sz) (hp:σ.ev mx=.one (.cQ n k rs off s j)) (hv:(σ.ev my).cells?=some (ag,vs)) (hl:vs.length=sz) (hn:σ.h n=some (.row gr .live rs xs))
  (hx:u4 xs k off s j vs=some aq):o.wp P a w (Nx B E w0 N (σ.dn n (.row gr .live rs aq))) Q:=by
 have H:=r.hr
 obtain⟨x1,_⟩:=r.ev gY
 obtain⟨y1,y2⟩:=r.ev jQ
 rw[hp] at x1
 obtain⟨pc,b,oo,len,cap,p1,p2,p3,p4⟩:=(x1.fH (by simp)).1 gr xs hn
 obtain⟨aL,g2,g3⟩:=H.aax hn p1
 have hr:=H.row n gr .live rs xs hn
 unfold u4 at hx
 rw[g3] at hx
 have bL:=y1.cells hv
 have D5:(a.eval y).cells.toList.length=sz:=by rw[bL.1,hl]
 cases pc with
 |int kk nn=>simp[PC.er] at hx
 |bool bb=>simp[PC.er] at hx
 |list s' ya c py=>
 rw[PC.dJ] at hx
 simp only at hx
 split at hx
 ·rename_i cI
  obtain⟨rfl,iJ,hj,sM⟩:=cI
  cases N9:lz vs with
  |none=>rw[N9] at hx;cases hx
  |some cs=>
  rw[N9] at hx
  injection hx with hx
  obtain⟨pe,e1,e2,e3,e4⟩:=W9 N9 bL
  have hj:j<py.length:=by simpa using hj
  have IW:pe.length=s':=by omega
  have uv:PC.val (.list s' ya c py)=.slice ya py.length c:=rfl
  rw[uv] at p2
  injection p2 with f1 f2 f3
  subst f1 f2 f3
  generalize nW:PC.list s' (some (ad b oo)) c py=p at g2
  cases g2 with
  |int k n=>cases nW
  |bool b=>cases nW
  |nil _ _ _ _=>injection nW with _ _ _ e4;subst e4;simp at hj
  |cons _ b' oo' _ _ q1 q2 q3 q4 q5 q6=>
  injection nW with f1 f2 f3 f4
  injection f2 with f2
  obtain⟨rfl,rfl⟩:=m4 f2
  subst f1 f3 f4
  have fx:aS b (PC.list s' (some (ad b oo)) c py):=.here _ _ _ _ q1
  have hF:aV b (G.g n).px:=⟨k,off,_,p1,fx⟩
  obtain⟨apP,⟨cur,et,hg⟩,hBE⟩:=hr.mode.1 b hF
  have gh:oo+j*s'+(a.eval y).cells.toList.length<=cur.size:=by
   have h2:(py[j]'hj).length=s':=q4 _ (List.getElem_mem hj)
   have hc:=q5 j (s' - 1) ((py[j]'hj)[s' - 1]'(by omega)) ⟨_,List.getElem?_eq_getElem hj,List.getElem?_eq_getElem _⟩
   have:=CY hg hc
   omega
  have ja:∀k' j' c',At (py.set j pe) k' j' c'->c'.er.eN=true:=by
   intro k' j' c' h
   rcases Ht hj h with⟨rfl,h1⟩|⟨_,h1⟩
   ·exact e4 c' (List.mem_of_getElem? h1)
   ·obtain⟨e,he,ir⟩:=h1
    have h6:=List.all_eq_true.1 sM (e.map PC.er) (by simp only[List.mem_map];exact⟨e,List.mem_of_getElem? he,rfl⟩)
    exact List.all_eq_true.1 h6 c'.er (by simp only[List.mem_map];exact⟨c',List.mem_of_getElem? ir,rfl⟩)
  have aB:py.set j pe≠[]:=by
   intro h
   have:=congrArg List.length h
   simp at this
   rw[this] at hj
   simp at hj
  have lF:∀e∈py.set j pe,e.length=s':=by
   intro e he
   rcases List.mem_or_eq_of_mem_set he with he|rfl
   ·exact q4 e he
   ·exact IW
  generalize mH:eO w b (oo+j*s') (a.eval y).cells.toList cur=w'
  have A:tA w' .ae (PC.list s' (some (ad b oo)) c py) (PC.list s' (some (ad b oo)) c (py.set j pe)):=by
   refine⟨by simp[PC.val],.cons _ _ _ _ _ aB (by simpa using q2) q3 lF (fun k' j' c' h=>?_) (fun k' j' c' h=>Good.kP (ja k' j' c' h)),.list _ _ _ _ (fun k' j' c' h=>(Sep.kP (ja k' j' c' h)).1) (fun b' o' k' j' c' _ h=>(Sep.kP (ja k' j' c' h)).2 b')
    (fun k1 j1 c1 k2 j2 c2 b' h _ _ hb=>absurd hb ((Sep.kP (ja k1 j1 c1 h)).2 b')),fun b' aY=>?_,?_,fun tm a0 vE kA r5 a1 An qT h1 h2=>?_⟩
   ·have kE:j'<s':=by
     obtain⟨e,he,ir⟩:=h
     have:=lF e (List.mem_of_getElem? he)
     have:=(List.getElem?_eq_some_iff.1 ir).1
     omega
    rw[<-mH,Cx hg gh]
    rcases Ht hj h with⟨rfl,h1⟩|⟨v5,h1⟩
    ·rw[if_pos (by omega),show oo+k'*s'+j' - (oo+k'*s')=j' by omega,<-e2,List.getElem?_map,h1]
     rfl
    ·rw[if_neg]
     ·exact q5 _ _ _ h1
     ·rintro⟨u1,u2⟩
      rcases Nat.lt_or_gt_of_ne v5 with bG|yj
      ·have:(k'+1)*s'<=j*s':=Nat.mul_le_mul_right _ bG
       rw[Nat.add_mul] at this
       omega
      ·have:(j+1)*s'<=k'*s':=Nat.mul_le_mul_right _ yj
       rw[Nat.add_mul] at this
       omega
   ·rw[aS.kq] at aY⊢
    rcases aY with⟨_,h2⟩|⟨k',j',c',h1,h2⟩
    ·exact .inl ⟨q1,h2⟩
    ·exact absurd h2 ((Sep.kP (ja k' j' c' h1)).2 b')
   ·rw[PC.dJ]
    show fZ _=true
    rw[fZ,List.all_eq_true]
    intro e he
    obtain⟨e0,kD,rfl⟩:=List.mem_map.1 he
    rw[fA,List.all_eq_true]
    intro c0 eJ
    obtain⟨c1,DK,rfl⟩:=List.mem_map.1 eJ
    obtain⟨k',cW⟩:=List.getElem?_of_mem kD
    obtain⟨j',ir⟩:=List.getElem?_of_mem DK
    exact ja k' j' c1 ⟨e0,cW,ir⟩
   ·injection h1 with a1 a2 a3 a4
    injection h2 with b1 b2 b3 b4
    subst a1 a2 a3 a4 b1 b2 b3 b4
    exact⟨rfl,rfl,rfl,by simp,fun h=>by cases h⟩
  have dN:∀b',b'≠b->w'.heap[b']? =w.heap[b']? :=fun b' aY=>by rw[<-mH];exact zx b' aY
  have lE:∀b',Cz w w' b':=fun b'=>by
   by_cases hb:b'=b
   ·subst hb;rw[<-mH];exact Cy hg gh
   ·exact Cz.of_eq (dN b' hb)
  have uo:w.heap.size<=w'.heap.size:=by rw[<-mH,qS];exact Nat.le_refl _
  have bM:σ.h n≠none:=by rw[hn];simp
  have hbn:(G.g n).b≠b:=fun h=>H.live n gr rs xs hn b hF n bM aL h.symm
  obtain⟨ex,qd⟩:∃ex,xs[k]? =some ex:=by
   cases h:xs[k]? with
   |none=>rw[h] at g3;cases g3
   |some ex=>exact⟨ex,rfl⟩
  have ahH:aq=xs.set k (ex.set off (PC.list s' (some (ad b oo)) c (py.set j pe)).er):=by
   rw[<-hx,PC.dJ,List.map_set,e1,List.getD_eq_getElem?_getD,qd]
   rfl
  have N6:=WB H hn p1 rfl (fun _=>dN _ hbn) (fun k' j' c' h1 h2 b' aY=>dN b' (by rintro rfl;exact hr.mode.2.2 _ _ _ _ _ _ b' h1 p1 h2 aY fx)) A qd
  obtain⟨tx,K,_⟩:=H.Jw (G':=⟨G.Im,au G.g n (wL (G.g n) (.nest n k off) (PC.list s' (some (ad b oo)) c (py.set j pe)))⟩) (h':=au σ.h n (some (.row gr .live rs aq))) (w':=w') (S:=fun m=>m=n) uo
   (fun b' aY ca=>dN b' (by rintro rfl;exact ca n rfl (.inr hF))) (fun b' _=>lE b') rfl
   (fun m hm=>by subst hm;exact⟨gr,.live,rs,xs,aq,hn,bF _ _ _,by simp only[bF];rw[ahH];exact N6⟩)
   (fun m hm=>⟨cq _ _ _ _ hm,cq _ _ _ _ hm⟩)
  have r':=r.step (σ':=σ.dn n (.row gr .live rs aq)) rfl (fun _ h=>h) K tx (r.fr.one hBE (fun b' _ aB=>dN b' aB) uo (lE b) (by rw[<-mH];rfl) (by rw[<-mH];rfl) (by rw[<-mH];rfl))
  have bU:=JX (P:=P) (w:=w) (t:=t) (i:=i) (b:=b) (off:=oo+j*s') (v:=a.eval y) (cur:=cur) (e:=et) hi (by rw[bD,<-D5];simp) hg (by simpa using gh) (fun u hu=>by
   obtain⟨j,hj,DR⟩:=List.getElem_of_mem hu
   have uh:j<vs.length:=by omega
   exact(bL.2 j _ u (List.getElem?_eq_getElem uh) (by rw[List.getElem?_eq_getElem hj,DR])).1)
  refine KL (w':=w') ?_ ⟨_,by rw[hd];exact r'⟩
  rw[<-mH]
  simp only[execOp,ho,p4]
  simp[Instr.storeAt,Instr.sureAddr,bU]
 ·cases hx
end
end Go.Am
