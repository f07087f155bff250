/- AmS: pointers into lists of live rows. No condition. -/
import Derived.Test.YtifmggmhdcdgbaaAmO
set_option linter.unusedVariables false
namespace Go.Am
section
variable {B:Nat} {E:Ex} {w0 w w':World} {G G':Gh} {N:Nat} {h h':Nat->Option ar} {used:Nat->Bool}
variable {P:Program} {o:Oper} {a:Act} {σ σ':St} {Q:Exit->Act->World->Prop}
theorem aon {n k ax off sz len:Nat} {x:C} (hx:bM h (.br n k ax off sz len)=some x):∃gr xs,h n=some (.row gr .live ax xs)/\(xs[k]?).bind (·[off]?)=some x:=by
 simp only[Am.bM] at hx
 split at hx
 ·rename_i gr rs xs hn
  split at hx
  ·rename_i hc
   subst hc
   exact⟨gr,xs,hn,hx⟩
  ·cases hx
 ·cases hx
theorem HR.ZN (H:HR B E w G h used []) {n k off ax:Nat} {gr:Bool} {xs:List (List C)} (hn:h n=some (.row gr .live ax xs)) {pc:PC} (bZ:At (G.g n).px k off pc):
  (G.g n).nl=false/\Good w pc/\(xs[k]?).bind (·[off]?)=some pc.er:=by
 have hr:=H.row n gr .live ax xs hn
 have aL:(G.g n).nl=false:=by
  cases hq:(G.g n).nl with
  |false=>rfl
  |true=>obtain⟨e,he,_⟩:=bZ;rw[(hr.nl hq).1] at he;simp at he
 refine⟨aL,(hr.dq aL).2.1.2.2 _ _ _ bZ,?_⟩
 obtain⟨e,he,hj⟩:=bZ
 rw[hr.er]
 simp[he,hj]
theorem adK (r:R B E w0 N σ a w G) {t e:TypeId} {i:TypeInfo} {x y:Operand} {mx my:MO} {n k ax off sz aK len:Nat} {q:Int} {ys:List (List C)} (ho:o.op=.indexAddr t x y) (hN:∀n,o.dst=some n->n<N) (ir:bq x mx=true) (gY:bq y my=true)
  (ht:P.underlying t=some (.slice e)) (hi:P.info? e=some i) (bA:i.size=sz) (hq:(σ.ev my).cN=some q) (h0:0<=q) (h1:q<(ys.length:Int))
  (hx:σ.ev mx=.one (.br n k ax off aK len)) (hv:bM σ.h (.br n k ax off aK len)=some (.list sz ys)):
  o.wp P a w (Nx B E w0 N (σ.put o.dst (.one (.cr n k ax off sz q.toNat)))) Q:=by
 obtain⟨x1,x2⟩:=r.ev ir
 obtain⟨kk,ey⟩:=(r.ev gY).1.int hq
 rw[hx] at x1 x2
 obtain⟨gr,xs,hn,hb⟩:=aon hv
 obtain⟨pc,p1,p2,p3⟩:=(x1.eX (by simp)).1 gr xs hn
 obtain⟨g1,g2,g3⟩:=r.hr.ZN hn p1
 rw[hb] at g3
 injection g3 with g3
 cases pc with
 |int k n=>simp[PC.er] at g3
 |bool b=>simp[PC.er] at g3
 |list s' ya c py=>
  rw[PC.df] at g3
  injection g3 with e1 e2
  subst e1
  have hl:ys.length=py.length:=by rw[e2];simp
  have dH:q<(py.length:Int):=by omega
  have Ik:PC.val (.list sz ya c py)=.slice ya py.length c:=rfl
  generalize nr:PC.list sz ya c py=p at g2
  cases g2 with
  |int k n=>cases nr
  |bool b=>cases nr
  |nil _ _ _ _=>injection nr with _ _ _ e4;subst e4;simp at dH;omega
  |cons _ b oo _ _ q1 q2 q3 q4 q5 q6=>
   injection nr with f1 f2 f3 f4
   subst f1 f2 f3 f4
   refine fT r (v:=.pointer (some (ad b (oo+q.toNat*sz)))) ?_ ?_ (fun m hm=>x2 m hm) hN
   ·simp only[execOp,ho,<-p2,PC.val,ey]
    simp[Sr ht hi bA h0 dH]
   ·refine RA.fQ rfl fun bf au bh=>?_
    exact⟨_,b,oo,py.length,c,p1,rfl,rfl,rfl⟩
theorem VU:∀{vs:List ah} {cs:List C} {us:List Value},kN vs=some cs->cj w G h vs us->∃pe:List PC,pe.map PC.er=cs/\pe.map PC.val=us/\pe.length=vs.length/\∀c∈pe,c.er.dR=true
 |[],cs,us,hx,hr=>by
  simp only[kN] at hx
  injection hx with hx
  subst hx
  have:us=[]:=List.eq_nil_of_length_eq_zero hr.1
  subst this
  exact⟨[],rfl,rfl,rfl,by simp⟩
 |c::vs,cs,us,hx,hr=>by
  match us,hr with
  |[],hr=>exact absurd hr.1 (by simp)
  |u::us,hr=>
  cases c with
  |c x=>
   simp only[kN] at hx
   split at hx
   ·rename_i hs
    cases hd:kN vs with
    |none=>rw[hd] at hx;cases hx
    |some l=>
     rw[hd] at hx
     injection hx with hx
     subst hx
     obtain⟨pe,e1,e2,e3,e4⟩:=VU (us:=us) hd ⟨by have:=hr.1;simpa using this,fun j c u hj hu=>hr.2 (j+1) c u (by simpa using hj) (by simpa using hu)⟩
     obtain⟨_,pc,q1,q2,_⟩:=hr.2 0 _ u rfl rfl
     refine⟨pc::pe,by simp[e1,q1],by simp[e2,q2],by simp[e3],fun c hc=>?_⟩
     rcases List.mem_cons.1 hc with rfl|hc
     ·rw[q1];exact hs
     ·exact e4 c hc
   ·cases hx
  |nil _=>simp[kN] at hx
  |ptr _ _ _ _=>simp[kN] at hx
  |bT _ _=>simp[kN] at hx
  |sl _ _ _ _=>simp[kN] at hx
  |br _ _ _ _ _ _=>simp[kN] at hx
  |cr _ _ _ _ _ _=>simp[kN] at hx
  |fn _ _=>simp[kN] at hx
  |bg=>simp[kN] at hx
theorem Good.kx {c:PC} (hs:c.er.dR=true):Good w c:=by
 cases c with
 |int k n=>exact .int k n
 |bool b=>exact .bool b
 |list s a cap xs=>rw[PC.df] at hs;cases hs
theorem adR (r:R B E w0 N σ a w G) {t:TypeId} {i:TypeInfo} {x y:Operand} {mx my:MO} {sz n k rs off s j:Nat} {ag gr:Bool} {xs au:List (List C)} {vs:List ah} (ho:o.op=.store t x y) (hd:o.dst=none) (ir:bq x mx=true) (gY:bq y my=true)
  (hi:P.info? t=some i) (bA:i.size=sz) (iw:0<sz) (hp:σ.ev mx=.one (.cr n k rs off s j)) (hv:(σ.ev my).cells?=some (ag,vs)) (hl:vs.length=sz) (hn:σ.h n=some (.row gr .live rs xs))
  (hx:uD xs k off s j vs=some au):o.wp P a w (Nx B E w0 N (σ.cX n (.row gr .live rs au))) Q:=by
 have H:=r.hr
 obtain⟨x1,_⟩:=r.ev ir
 obtain⟨y1,y2⟩:=r.ev gY
 rw[hp] at x1
 obtain⟨pc,b,oo,len,cap,p1,p2,p3,p4⟩:=(x1.eX (by simp)).1 gr xs hn
 obtain⟨aL,g2,g3⟩:=H.ZN hn p1
 have hr:=H.row n gr .live rs xs hn
 unfold uD at hx
 rw[g3] at hx
 have bI:=y1.cells hv
 have Dy:(a.eval y).cells.toList.length=sz:=by rw[bI.1,hl]
 cases pc with
 |int kk nn=>simp[PC.er] at hx
 |bool bb=>simp[PC.er] at hx
 |list s' ya c py=>
 rw[PC.df] at hx
 simp only at hx
 split at hx
 ·rename_i cd
  obtain⟨rfl,g8,hj,r6⟩:=cd
  cases ND:kN vs with
  |none=>rw[ND] at hx;cases hx
  |some cs=>
  rw[ND] at hx
  injection hx with hx
  obtain⟨pe,e1,e2,e3,e4⟩:=VU ND bI
  have hj:j<py.length:=by simpa using hj
  have Ic:pe.length=s':=by omega
  have Dz:PC.val (.list s' ya c py)=.slice ya py.length c:=rfl
  rw[Dz] at p2
  injection p2 with f1 f2 f3
  subst f1 f2 f3
  generalize nr:PC.list s' (some (ad b oo)) c py=p at g2
  cases g2 with
  |int k n=>cases nr
  |bool b=>cases nr
  |nil _ _ _ _=>injection nr with _ _ _ e4;subst e4;simp at hj
  |cons _ b' oo' _ _ q1 q2 q3 q4 q5 q6=>
  injection nr with f1 f2 f3 f4
  injection f2 with f2
  obtain⟨rfl,rfl⟩:=nc f2
  subst f1 f3 f4
  have fH:aN b (PC.list s' (some (ad b oo)) c py):=.here _ _ _ _ q1
  have hF:aR b (G.g n).px:=⟨k,off,_,p1,fH⟩
  obtain⟨aoK,⟨cur,et,hg⟩,hBE⟩:=hr.mode.1 b hF
  have gz:oo+j*s'+(a.eval y).cells.toList.length<=cur.size:=by
   have h2:(py[j]'hj).length=s':=q4 _ (List.getElem_mem hj)
   have hc:=q5 j (s' - 1) ((py[j]'hj)[s' - 1]'(by omega)) ⟨_,List.getElem?_eq_getElem hj,List.getElem?_eq_getElem _⟩
   have:=Cv hg hc
   omega
  have iv:∀k' j' c',At (py.set j pe) k' j' c'->c'.er.dR=true:=by
   intro k' j' c' h
   rcases GQ hj h with⟨rfl,h1⟩|⟨_,h1⟩
   ·exact e4 c' (List.mem_of_getElem? h1)
   ·obtain⟨e,he,jD⟩:=h1
    have h6:=List.all_eq_true.1 r6 (e.map PC.er) (by simp only[List.mem_map];exact⟨e,List.mem_of_getElem? he,rfl⟩)
    exact List.all_eq_true.1 h6 c'.er (by simp only[List.mem_map];exact⟨c',List.mem_of_getElem? jD,rfl⟩)
  have aA:py.set j pe≠[]:=by
   intro h
   have:=congrArg List.length h
   simp at this
   rw[this] at hj
   simp at hj
  have mF:∀e∈py.set j pe,e.length=s':=by
   intro e he
   rcases List.mem_or_eq_of_mem_set he with he|rfl
   ·exact q4 e he
   ·exact Ic
  generalize lJ:dS w b (oo+j*s') (a.eval y).cells.toList cur=w'
  have A:u5 w' .aa (PC.list s' (some (ad b oo)) c py) (PC.list s' (some (ad b oo)) c (py.set j pe)):=by
   refine⟨by simp[PC.val],.cons _ _ _ _ _ aA (by simpa using q2) q3 mF (fun k' j' c' h=>?_) (fun k' j' c' h=>Good.kx (iv k' j' c' h)),.list _ _ _ _ (fun k' j' c' h=>(Sep.kx (iv k' j' c' h)).1) (fun b' o' k' j' c' _ h=>(Sep.kx (iv k' j' c' h)).2 b')
    (fun k1 j1 c1 k2 j2 c2 b' h _ _ hb=>absurd hb ((Sep.kx (iv k1 j1 c1 h)).2 b')),fun b' aU=>?_,?_,fun ta a0 vi jX wW a1 LM uN h1 h2=>?_⟩
   ·have ka:j'<s':=by
     obtain⟨e,he,jD⟩:=h
     have:=mF e (List.mem_of_getElem? he)
     have:=(List.getElem?_eq_some_iff.1 jD).1
     omega
    rw[<-lJ,B7 hg gz]
    rcases GQ hj h with⟨rfl,h1⟩|⟨vE,h1⟩
    ·rw[if_pos (by omega),show oo+k'*s'+j' - (oo+k'*s')=j' by omega,<-e2,List.getElem?_map,h1]
     rfl
    ·rw[if_neg]
     ·exact q5 _ _ _ h1
     ·rintro⟨u1,u2⟩
      rcases Nat.lt_or_gt_of_ne vE with bN|x8
      ·have:(k'+1)*s'<=j*s':=Nat.mul_le_mul_right _ bN
       rw[Nat.add_mul] at this
       omega
      ·have:(j+1)*s'<=k'*s':=Nat.mul_le_mul_right _ x8
       rw[Nat.add_mul] at this
       omega
   ·rw[aN.jP] at aU⊢
    rcases aU with⟨_,h2⟩|⟨k',j',c',h1,h2⟩
    ·exact .inl ⟨q1,h2⟩
    ·exact absurd h2 ((Sep.kx (iv k' j' c' h1)).2 b')
   ·rw[PC.df]
    show ft _=true
    rw[ft,List.all_eq_true]
    intro e he
    obtain⟨e0,j9,rfl⟩:=List.mem_map.1 he
    rw[eO,List.all_eq_true]
    intro c0 dQ
    obtain⟨c1,C9,rfl⟩:=List.mem_map.1 dQ
    obtain⟨k',cM⟩:=List.getElem?_of_mem j9
    obtain⟨j',jD⟩:=List.getElem?_of_mem C9
    exact iv k' j' c1 ⟨e0,cM,jD⟩
   ·injection h1 with a1 a2 a3 a4
    injection h2 with b1 b2 b3 b4
    subst a1 a2 a3 a4 b1 b2 b3 b4
    exact⟨rfl,rfl,rfl,by simp,fun h=>by cases h⟩
  have ed:∀b',b'≠b->w'.heap[b']? =w.heap[b']? :=fun b' aU=>by rw[<-lJ];exact zb b' aU
  have kU:∀b',Cz w w' b':=fun b'=>by
   by_cases hb:b'=b
   ·subst hb;rw[<-lJ];exact B8 hg gz
   ·exact Cz.of_eq (ed b' hb)
  have tS:w.heap.size<=w'.heap.size:=by rw[<-lJ,qk];exact Nat.le_refl _
  have bF:σ.h n≠none:=by rw[hn];simp
  have hbn:(G.g n).b≠b:=fun h=>H.live n gr rs xs hn b hF n bF aL h.symm
  obtain⟨ex,rV⟩:∃ex,xs[k]? =some ex:=by
   cases h:xs[k]? with
   |none=>rw[h] at g3;cases g3
   |some ex=>exact⟨ex,rfl⟩
  have aga:au=xs.set k (ex.set off (PC.list s' (some (ad b oo)) c (py.set j pe)).er):=by
   rw[<-hx,PC.df,List.map_set,e1,List.getD_eq_getElem?_getD,rV]
   rfl
  have NA:=Vs H hn p1 rfl (fun _=>ed _ hbn) (fun k' j' c' h1 h2 b' aU=>ed b' (by rintro rfl;exact hr.mode.2.2 _ _ _ _ _ _ b' h1 p1 h2 aU fH)) A rV
  obtain⟨xk,K,_⟩:=H.QS (G':=⟨G.Im,av G.g n (yJ (G.g n) (.nest n k off) (PC.list s' (some (ad b oo)) c (py.set j pe)))⟩) (h':=av σ.h n (some (.row gr .live rs au))) (w':=w') (S:=fun m=>m=n) tS
   (fun b' aU ca=>ed b' (by rintro rfl;exact ca n rfl (.inr hF))) (fun b' _=>kU b') rfl
   (fun m hm=>by subst hm;exact⟨gr,.live,rs,xs,au,hn,bw _ _ _,by simp only[bw];rw[aga];exact NA⟩)
   (fun m hm=>⟨bS _ _ _ _ hm,bS _ _ _ _ hm⟩)
  have r':=r.step (σ':=σ.cX n (.row gr .live rs au)) rfl (fun _ h=>h) K xk (r.fr.one hBE (fun b' _ aA=>ed b' aA) tS (kU b) (by rw[<-lJ];rfl) (by rw[<-lJ];rfl) (by rw[<-lJ];rfl))
  have bm:=J7 (P:=P) (w:=w) (t:=t) (i:=i) (b:=b) (off:=oo+j*s') (v:=a.eval y) (cur:=cur) (e:=et) hi (by rw[bA,<-Dy];simp) hg (by simpa using gz) (fun u hu=>by
   obtain⟨j,hj,Dg⟩:=List.getElem_of_mem hu
   have tN:j<vs.length:=by omega
   exact(bI.2 j _ u (List.getElem?_eq_getElem tN) (by rw[List.getElem?_eq_getElem hj,Dg])).1)
  refine KM (w':=w') ?_ ⟨_,by rw[hd];exact r'⟩
  rw[<-lJ]
  simp only[execOp,ho,p4]
  simp[Instr.storeAt,Instr.sureAddr,bm]
 ·cases hx
end
end Go.Am
