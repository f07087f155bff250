/- AmS: pointers into lists of live rows. No condition. -/
import Derived.Test.YtbgmbplglejidaaAmO
set_option linter.unusedVariables false
namespace Go.Am
section
variable {B:Nat} {E:Ex} {w0 w w':World} {G G':Gh} {N:Nat} {h h':Nat->Option ao} {used:Nat->Bool}
variable {P:Program} {o:Oper} {a:Act} {σ σ':St} {Q:Exit->Act->World->Prop}
theorem apY {n k aA off sz len:Nat} {x:C} (hx:cq h (.bx n k aA off sz len)=some x):∃gr xs,h n=some (.row gr .live aA xs)/\(xs[k]?).bind (·[off]?)=some x:=by
 simp only[Am.cq] at hx
 split at hx
 ·rename_i gr rs xs hn
  split at hx
  ·rename_i hc
   subst hc
   exact⟨gr,xs,hn,hx⟩
  ·cases hx
 ·cases hx
theorem HR.abg (H:HR B E w G h used []) {n k off aA:Nat} {gr:Bool} {xs:List (List C)} (hn:h n=some (.row gr .live aA xs)) {pc:PC} (bU:At (G.g n).px k off pc):
  (G.g n).nl=false/\Good w pc/\(xs[k]?).bind (·[off]?)=some pc.er:=by
 have hr:=H.row n gr .live aA xs hn
 have aL:(G.g n).nl=false:=by
  cases hq:(G.g n).nl with
  |false=>rfl
  |true=>obtain⟨e,he,_⟩:=bU;rw[(hr.nl hq).1] at he;simp at he
 refine⟨aL,(hr.dV aL).2.1.2.2 _ _ _ bU,?_⟩
 obtain⟨e,he,hj⟩:=bU
 rw[hr.er]
 simp[he,hj]
theorem afZ (r:R B E w0 N σ a w G) {t e:TypeId} {i:TypeInfo} {x y:Operand} {mx my:MO} {n k aA off sz aJ len:Nat} {q:Int} {ys:List (List C)} (ho:o.op=.indexAddr t x y) (hN:∀n,o.dst=some n->n<N) (ij:bz x mx=true) (jY:bz y my=true)
  (ht:P.underlying t=some (.slice e)) (hi:P.info? e=some i) (bI:i.size=sz) (hq:(σ.ev my).dj=some q) (h0:0<=q) (h1:q<(ys.length:Int))
  (hx:σ.ev mx=.one (.bx n k aA off aJ len)) (hv:cq σ.h (.bx n k aA off aJ len)=some (.list sz ys)):
  o.wp P a w (Nx B E w0 N (σ.put o.dst (.one (.cV n k aA off sz q.toNat)))) Q:=by
 obtain⟨x1,x2⟩:=r.ev ij
 obtain⟨kk,ey⟩:=(r.ev jY).1.int hq
 rw[hx] at x1 x2
 obtain⟨gr,xs,hn,hb⟩:=apY hv
 obtain⟨pc,p1,p2,p3⟩:=(x1.fH (by simp)).1 gr xs hn
 obtain⟨g1,g2,g3⟩:=r.hr.abg hn p1
 rw[hb] at g3
 injection g3 with g3
 cases pc with
 |int k n=>simp[PC.er] at g3
 |bool b=>simp[PC.er] at g3
 |list s' ya c py=>
  rw[PC.dO] at g3
  injection g3 with e1 e2
  subst e1
  have hl:ys.length=py.length:=by rw[e2];simp
  have eD:q<(py.length:Int):=by omega
  have wG:PC.val (.list sz ya c py)=.slice ya py.length c:=rfl
  generalize oC:PC.list sz ya c py=p at g2
  cases g2 with
  |int k n=>cases oC
  |bool b=>cases oC
  |nil _ _ _ _=>injection oC with _ _ _ e4;subst e4;simp at eD;omega
  |cons _ b oo _ _ q1 q2 q3 q4 q5 q6=>
   injection oC with f1 f2 f3 f4
   subst f1 f2 f3 f4
   refine gI r (v:=.pointer (some (ad b (oo+q.toNat*sz)))) ?_ ?_ (fun m hm=>x2 m hm) hN
   ·simp only[execOp,ho,<-p2,PC.val,ey]
    simp[TN ht hi bI h0 eD]
   ·refine RA.gu rfl fun bm aq bk=>?_
    exact⟨_,b,oo,py.length,c,p1,rfl,rfl,rfl⟩
theorem XR:∀{vs:List ah} {cs:List C} {us:List Value},me vs=some cs->cT w G h vs us->∃pe:List PC,pe.map PC.er=cs/\pe.map PC.val=us/\pe.length=vs.length/\∀c∈pe,c.er.eR=true
 |[],cs,us,hx,hr=>by
  simp only[me] at hx
  injection hx with hx
  subst hx
  have:us=[]:=List.eq_nil_of_length_eq_zero hr.1
  subst this
  exact⟨[],rfl,rfl,rfl,by simp⟩
 |c::vs,cs,us,hx,hr=>by
  match us,hr with
  |[],hr=>exact absurd hr.1 (by simp)
  |u::us,hr=>
  cases c with
  |c x=>
   simp only[me] at hx
   split at hx
   ·rename_i hs
    cases hd:me vs with
    |none=>rw[hd] at hx;cases hx
    |some l=>
     rw[hd] at hx
     injection hx with hx
     subst hx
     obtain⟨pe,e1,e2,e3,e4⟩:=XR (us:=us) hd ⟨by have:=hr.1;simpa using this,fun j c u hj hu=>hr.2 (j+1) c u (by simpa using hj) (by simpa using hu)⟩
     obtain⟨_,pc,q1,q2,_⟩:=hr.2 0 _ u rfl rfl
     refine⟨pc::pe,by simp[e1,q1],by simp[e2,q2],by simp[e3],fun c hc=>?_⟩
     rcases List.mem_cons.1 hc with rfl|hc
     ·rw[q1];exact hs
     ·exact e4 c hc
   ·cases hx
  |nil _=>simp[me] at hx
  |ptr _ _ _ _=>simp[me] at hx
  |cB _ _=>simp[me] at hx
  |sl _ _ _ _=>simp[me] at hx
  |bx _ _ _ _ _ _=>simp[me] at hx
  |cV _ _ _ _ _ _=>simp[me] at hx
  |fn _ _=>simp[me] at hx
  |bn=>simp[me] at hx
theorem Good.lF {c:PC} (hs:c.er.eR=true):Good w c:=by
 cases c with
 |int k n=>exact .int k n
 |bool b=>exact .bool b
 |list s a cap xs=>rw[PC.dO] at hs;cases hs
theorem af9 (r:R B E w0 N σ a w G) {t:TypeId} {i:TypeInfo} {x y:Operand} {mx my:MO} {sz n k rs off s j:Nat} {ag gr:Bool} {xs aq:List (List C)} {vs:List ah} (ho:o.op=.store t x y) (hd:o.dst=none) (ij:bz x mx=true) (jY:bz y my=true)
  (hi:P.info? t=some i) (bI:i.size=sz) (ji:0<sz) (hp:σ.ev mx=.one (.cV n k rs off s j)) (hv:(σ.ev my).cells?=some (ag,vs)) (hl:vs.length=sz) (hn:σ.h n=some (.row gr .live rs xs))
  (hx:vk xs k off s j vs=some aq):o.wp P a w (Nx B E w0 N (σ.dB n (.row gr .live rs aq))) Q:=by
 have H:=r.hr
 obtain⟨x1,_⟩:=r.ev ij
 obtain⟨y1,y2⟩:=r.ev jY
 rw[hp] at x1
 obtain⟨pc,b,oo,len,cap,p1,p2,p3,p4⟩:=(x1.fH (by simp)).1 gr xs hn
 obtain⟨aL,g2,g3⟩:=H.abg hn p1
 have hr:=H.row n gr .live rs xs hn
 unfold vk at hx
 rw[g3] at hx
 have bO:=y1.cells hv
 have EI:(a.eval y).cells.toList.length=sz:=by rw[bO.1,hl]
 cases pc with
 |int kk nn=>simp[PC.er] at hx
 |bool bb=>simp[PC.er] at hx
 |list s' ya c py=>
 rw[PC.dO] at hx
 simp only at hx
 split at hx
 ·rename_i cM
  obtain⟨rfl,iP,hj,tm⟩:=cM
  cases O2:me vs with
  |none=>rw[O2] at hx;cases hx
  |some cs=>
  rw[O2] at hx
  injection hx with hx
  obtain⟨pe,e1,e2,e3,e4⟩:=XR O2 bO
  have hj:j<py.length:=by simpa using hj
  have JC:pe.length=s':=by omega
  have EJ:PC.val (.list s' ya c py)=.slice ya py.length c:=rfl
  rw[EJ] at p2
  injection p2 with f1 f2 f3
  subst f1 f2 f3
  generalize oC:PC.list s' (some (ad b oo)) c py=p at g2
  cases g2 with
  |int k n=>cases oC
  |bool b=>cases oC
  |nil _ _ _ _=>injection oC with _ _ _ e4;subst e4;simp at hj
  |cons _ b' oo' _ _ q1 q2 q3 q4 q5 q6=>
  injection oC with f1 f2 f3 f4
  injection f2 with f2
  obtain⟨rfl,rfl⟩:=nD f2
  subst f1 f3 f4
  have fT:aT b (PC.list s' (some (ad b oo)) c py):=.here _ _ _ _ q1
  have hF:aX b (G.g n).px:=⟨k,off,_,p1,fT⟩
  obtain⟨aqe,⟨cur,et,hg⟩,hBE⟩:=hr.mode.1 b hF
  have fJ:oo+j*s'+(a.eval y).cells.toList.length<=cur.size:=by
   have h2:(py[j]'hj).length=s':=q4 _ (List.getElem_mem hj)
   have hc:=q5 j (s' - 1) ((py[j]'hj)[s' - 1]'(by omega)) ⟨_,List.getElem?_eq_getElem hj,List.getElem?_eq_getElem _⟩
   have:=Dy hg hc
   omega
  have jh:∀k' j' c',At (py.set j pe) k' j' c'->c'.er.eR=true:=by
   intro k' j' c' h
   rcases Ie hj h with⟨rfl,h1⟩|⟨_,h1⟩
   ·exact e4 c' (List.mem_of_getElem? h1)
   ·obtain⟨e,he,iC⟩:=h1
    have h6:=List.all_eq_true.1 tm (e.map PC.er) (by simp only[List.mem_map];exact⟨e,List.mem_of_getElem? he,rfl⟩)
    exact List.all_eq_true.1 h6 c'.er (by simp only[List.mem_map];exact⟨c',List.mem_of_getElem? iC,rfl⟩)
  have aC:py.set j pe≠[]:=by
   intro h
   have:=congrArg List.length h
   simp at this
   rw[this] at hj
   simp at hj
  have mr:∀e∈py.set j pe,e.length=s':=by
   intro e he
   rcases List.mem_or_eq_of_mem_set he with he|rfl
   ·exact q4 e he
   ·exact JC
  generalize m7:eS w b (oo+j*s') (a.eval y).cells.toList cur=w'
  have A:tS w' .ab (PC.list s' (some (ad b oo)) c py) (PC.list s' (some (ad b oo)) c (py.set j pe)):=by
   refine⟨by simp[PC.val],.cons _ _ _ _ _ aC (by simpa using q2) q3 mr (fun k' j' c' h=>?_) (fun k' j' c' h=>Good.lF (jh k' j' c' h)),.list _ _ _ _ (fun k' j' c' h=>(Sep.lF (jh k' j' c' h)).1) (fun b' o' k' j' c' _ h=>(Sep.lF (jh k' j' c' h)).2 b')
    (fun k1 j1 c1 k2 j2 c2 b' h _ _ hb=>absurd hb ((Sep.lF (jh k1 j1 c1 h)).2 b')),fun b' aY=>?_,?_,fun tM a0 vU kR sG a1 AQ rG h1 h2=>?_⟩
   ·have lk:j'<s':=by
     obtain⟨e,he,iC⟩:=h
     have:=mr e (List.mem_of_getElem? he)
     have:=(List.getElem?_eq_some_iff.1 iC).1
     omega
    rw[<-m7,C4 hg fJ]
    rcases Ie hj h with⟨rfl,h1⟩|⟨wv,h1⟩
    ·rw[if_pos (by omega),show oo+k'*s'+j' - (oo+k'*s')=j' by omega,<-e2,List.getElem?_map,h1]
     rfl
    ·rw[if_neg]
     ·exact q5 _ _ _ h1
     ·rintro⟨u1,u2⟩
      rcases Nat.lt_or_gt_of_ne wv with bH|yE
      ·have:(k'+1)*s'<=j*s':=Nat.mul_le_mul_right _ bH
       rw[Nat.add_mul] at this
       omega
      ·have:(j+1)*s'<=k'*s':=Nat.mul_le_mul_right _ yE
       rw[Nat.add_mul] at this
       omega
   ·rw[aT.kI] at aY⊢
    rcases aY with⟨_,h2⟩|⟨k',j',c',h1,h2⟩
    ·exact .inl ⟨q1,h2⟩
    ·exact absurd h2 ((Sep.lF (jh k' j' c' h1)).2 b')
   ·rw[PC.dO]
    show ga _=true
    rw[ga,List.all_eq_true]
    intro e he
    obtain⟨e0,lg,rfl⟩:=List.mem_map.1 he
    rw[fA,List.all_eq_true]
    intro c0 eP
    obtain⟨c1,En,rfl⟩:=List.mem_map.1 eP
    obtain⟨k',cO⟩:=List.getElem?_of_mem lg
    obtain⟨j',iC⟩:=List.getElem?_of_mem En
    exact jh k' j' c1 ⟨e0,cO,iC⟩
   ·injection h1 with a1 a2 a3 a4
    injection h2 with b1 b2 b3 b4
    subst a1 a2 a3 a4 b1 b2 b3 b4
    exact⟨rfl,rfl,rfl,by simp,fun h=>by cases h⟩
  have dQ:∀b',b'≠b->w'.heap[b']? =w.heap[b']? :=fun b' aY=>by rw[<-m7];exact zY b' aY
  have mq:∀b',Cz w w' b':=fun b'=>by
   by_cases hb:b'=b
   ·subst hb;rw[<-m7];exact C5 hg fJ
   ·exact Cz.of_eq (dQ b' hb)
  have uL:w.heap.size<=w'.heap.size:=by rw[<-m7,rF];exact Nat.le_refl _
  have bP:σ.h n≠none:=by rw[hn];simp
  have hbn:(G.g n).b≠b:=fun h=>H.live n gr rs xs hn b hF n bP aL h.symm
  obtain⟨ex,qN⟩:∃ex,xs[k]? =some ex:=by
   cases h:xs[k]? with
   |none=>rw[h] at g3;cases g3
   |some ex=>exact⟨ex,rfl⟩
  have aiq:aq=xs.set k (ex.set off (PC.list s' (some (ad b oo)) c (py.set j pe)).er):=by
   rw[<-hx,PC.dO,List.map_set,e1,List.getD_eq_getElem?_getD,qN]
   rfl
  have OZ:=Xn H hn p1 rfl (fun _=>dQ _ hbn) (fun k' j' c' h1 h2 b' aY=>dQ b' (by rintro rfl;exact hr.mode.2.2 _ _ _ _ _ _ b' h1 p1 h2 aY fT)) A qN
  obtain⟨tQ,K,_⟩:=H.Km (G':=⟨G.Im,av G.g n (wY (G.g n) (.nest n k off) (PC.list s' (some (ad b oo)) c (py.set j pe)))⟩) (h':=av σ.h n (some (.row gr .live rs aq))) (w':=w') (S:=fun m=>m=n) uL
   (fun b' aY cf=>dQ b' (by rintro rfl;exact cf n rfl (.inr hF))) (fun b' _=>mq b') rfl
   (fun m hm=>by subst hm;exact⟨gr,.live,rs,xs,aq,hn,bG _ _ _,by simp only[bG];rw[aiq];exact OZ⟩)
   (fun m hm=>⟨cz _ _ _ _ hm,cz _ _ _ _ hm⟩)
  have r':=r.step (σ':=σ.dB n (.row gr .live rs aq)) rfl (fun _ h=>h) K tQ (r.fr.one hBE (fun b' _ aC=>dQ b' aC) uL (mq b) (by rw[<-m7];rfl) (by rw[<-m7];rfl) (by rw[<-m7];rfl))
  have bX:=KN (P:=P) (w:=w) (t:=t) (i:=i) (b:=b) (off:=oo+j*s') (v:=a.eval y) (cur:=cur) (e:=et) hi (by rw[bI,<-EI];simp) hg (by simpa using fJ) (fun u hu=>by
   obtain⟨j,hj,Ev⟩:=List.getElem_of_mem hu
   have uG:j<vs.length:=by omega
   exact(bO.2 j _ u (List.getElem?_eq_getElem uG) (by rw[List.getElem?_eq_getElem hj,Ev])).1)
  refine Lz (w':=w') ?_ ⟨_,by rw[hd];exact r'⟩
  rw[<-m7]
  simp only[execOp,ho,p4]
  simp[Instr.storeAt,Instr.sureAddr,bX]
 ·cases hx
end
end Go.Am
