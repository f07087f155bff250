/- AmS: pointers into lists of live rows. No condition. -/
import Derived.Test.YtbgmbplglejidaaAmO
set_option linter.unusedVariables false
namespace Go.Am
section
variable {B:Nat} {E:Ex} {w0 w w':World} {G G':Gh} {N:Nat} {h h':Nat->Option ar} {used:Nat->Bool}
variable {P:Program} {o:Oper} {a:Act} {σ σ':St} {Q:Exit->Act->World->Prop}
theorem as4 {n k aE off sz len:Nat} {x:C} (hx:cq h (.bE n k aE off sz len)=some x):∃gr xs,h n=some (.row gr .live aE xs)/\(xs[k]?).bind (·[off]?)=some x:=by
 simp only[Am.cq] at hx
 split at hx
 ·rename_i gr rs xs hn
  split at hx
  ·rename_i hc
   subst hc
   exact⟨gr,xs,hn,hx⟩
  ·cases hx
 ·cases hx
theorem HR.aca (H:HR B E w G h used []) {n k off aE:Nat} {gr:Bool} {xs:List (List C)} (hn:h n=some (.row gr .live aE xs)) {pc:PC} (bU:At (G.g n).px k off pc):
  (G.g n).nl=false/\Good w pc/\(xs[k]?).bind (·[off]?)=some pc.er:=by
 have hr:=H.row n gr .live aE xs hn
 have aN:(G.g n).nl=false:=by
  cases hq:(G.g n).nl with
  |false=>rfl
  |true=>obtain⟨e,he,_⟩:=bU;rw[(hr.nl hq).1] at he;simp at he
 refine⟨aN,(hr.dW aN).2.1.2.2 _ _ _ bU,?_⟩
 obtain⟨e,he,hj⟩:=bU
 rw[hr.er]
 simp[he,hj]
theorem agU (r:R B E w0 N σ a w G) {t e:TypeId} {i:TypeInfo} {x y:Operand} {mx my:MO} {n k aE off sz aJ len:Nat} {q:Int} {ys:List (List C)} (ho:o.op=.indexAddr t x y) (hN:∀n,o.dst=some n->n<N) (iy:bF x mx=true) (ku:bF y my=true)
  (ht:P.underlying t=some (.slice e)) (hi:P.info? e=some i) (bP:i.size=sz) (hq:(σ.ev my).dn=some q) (h0:0<=q) (h1:q<(ys.length:Int))
  (hx:σ.ev mx=.one (.bE n k aE off aJ len)) (hv:cq σ.h (.bE n k aE off aJ len)=some (.list sz ys)):
  o.wp P a w (Nx B E w0 N (σ.put o.dst (.one (.c7 n k aE off sz q.toNat)))) Q:=by
 obtain⟨x1,x2⟩:=r.ev iy
 obtain⟨kk,ey⟩:=(r.ev ku).1.int hq
 rw[hx] at x1 x2
 obtain⟨gr,xs,hn,hb⟩:=as4 hv
 obtain⟨pc,p1,p2,p3⟩:=(x1.fS (by simp)).1 gr xs hn
 obtain⟨g1,g2,g3⟩:=r.hr.aca hn p1
 rw[hb] at g3
 injection g3 with g3
 cases pc with
 |int k n=>simp[PC.er] at g3
 |bool b=>simp[PC.er] at g3
 |list s' ya c py=>
  rw[PC.dR] at g3
  injection g3 with e1 e2
  subst e1
  have hl:ys.length=py.length:=by rw[e2];simp
  have d9:q<(py.length:Int):=by omega
  have w9:PC.val (.list sz ya c py)=.slice ya py.length c:=rfl
  generalize oO:PC.list sz ya c py=p at g2
  cases g2 with
  |int k n=>cases oO
  |bool b=>cases oO
  |nil _ _ _ _=>injection oO with _ _ _ e4;subst e4;simp at d9;omega
  |cons _ b oo _ _ q1 q2 q3 q4 q5 q6=>
   injection oO with f1 f2 f3 f4
   subst f1 f2 f3 f4
   refine gS r (v:=.pointer (some (ad b (oo+q.toNat*sz)))) ?_ ?_ (fun m hm=>x2 m hm) hN
   ·simp only[execOp,ho,<-p2,PC.val,ey]
    simp[UP ht hi bP h0 d9]
   ·refine RA.gD rfl fun bo au bm=>?_
    exact⟨_,b,oo,py.length,c,p1,rfl,rfl,rfl⟩
theorem YY:∀{vs:List aj} {cs:List C} {us:List Value},mC vs=some cs->cZ w G h vs us->∃pe:List PC,pe.map PC.er=cs/\pe.map PC.val=us/\pe.length=vs.length/\∀c∈pe,c.er.eV=true
 |[],cs,us,hx,hr=>by
  simp only[mC] at hx
  injection hx with hx
  subst hx
  have:us=[]:=List.eq_nil_of_length_eq_zero hr.1
  subst this
  exact⟨[],rfl,rfl,rfl,by simp⟩
 |c::vs,cs,us,hx,hr=>by
  match us,hr with
  |[],hr=>exact absurd hr.1 (by simp)
  |u::us,hr=>
  cases c with
  |c x=>
   simp only[mC] at hx
   split at hx
   ·rename_i hs
    cases hd:mC vs with
    |none=>rw[hd] at hx;cases hx
    |some l=>
     rw[hd] at hx
     injection hx with hx
     subst hx
     obtain⟨pe,e1,e2,e3,e4⟩:=YY (us:=us) hd ⟨by have:=hr.1;simpa using this,fun j c u hj hu=>hr.2 (j+1) c u (by simpa using hj) (by simpa using hu)⟩
     obtain⟨_,pc,q1,q2,_⟩:=hr.2 0 _ u rfl rfl
     refine⟨pc::pe,by simp[e1,q1],by simp[e2,q2],by simp[e3],fun c hc=>?_⟩
     rcases List.mem_cons.1 hc with rfl|hc
     ·rw[q1];exact hs
     ·exact e4 c hc
   ·cases hx
  |nil _=>simp[mC] at hx
  |ptr _ _ _ _=>simp[mC] at hx
  |cH _ _=>simp[mC] at hx
  |sl _ _ _ _=>simp[mC] at hx
  |bE _ _ _ _ _ _=>simp[mC] at hx
  |c7 _ _ _ _ _ _=>simp[mC] at hx
  |fn _ _=>simp[mC] at hx
  |bq=>simp[mC] at hx
theorem Good.lS {c:PC} (hs:c.er.eV=true):Good w c:=by
 cases c with
 |int k n=>exact .int k n
 |bool b=>exact .bool b
 |list s a cap xs=>rw[PC.dR] at hs;cases hs
theorem ag4 (r:R B E w0 N σ a w G) {t:TypeId} {i:TypeInfo} {x y:Operand} {mx my:MO} {sz n k rs off s j:Nat} {ag gr:Bool} {xs au:List (List C)} {vs:List aj} (ho:o.op=.store t x y) (hd:o.dst=none) (iy:bF x mx=true) (ku:bF y my=true)
  (hi:P.info? t=some i) (bP:i.size=sz) (jB:0<sz) (hp:σ.ev mx=.one (.c7 n k rs off s j)) (hv:(σ.ev my).cells?=some (ag,vs)) (hl:vs.length=sz) (hn:σ.h n=some (.row gr .live rs xs))
  (hx:vI xs k off s j vs=some au):o.wp P a w (Nx B E w0 N (σ.dB n (.row gr .live rs au))) Q:=by
 have H:=r.hr
 obtain⟨x1,_⟩:=r.ev iy
 obtain⟨y1,y2⟩:=r.ev ku
 rw[hp] at x1
 obtain⟨pc,b,oo,len,cap,p1,p2,p3,p4⟩:=(x1.fS (by simp)).1 gr xs hn
 obtain⟨aN,g2,g3⟩:=H.aca hn p1
 have hr:=H.row n gr .live rs xs hn
 unfold vI at hx
 rw[g3] at hx
 have bT:=y1.cells hv
 have Ft:(a.eval y).cells.toList.length=sz:=by rw[bT.1,hl]
 cases pc with
 |int kk nn=>simp[PC.er] at hx
 |bool bb=>simp[PC.er] at hx
 |list s' ya c py=>
 rw[PC.dR] at hx
 simp only at hx
 split at hx
 ·rename_i cV
  obtain⟨rfl,jg,hj,tA⟩:=cV
  cases Pz:mC vs with
  |none=>rw[Pz] at hx;cases hx
  |some cs=>
  rw[Pz] at hx
  injection hx with hx
  obtain⟨pe,e1,e2,e3,e4⟩:=YY Pz bT
  have hj:j<py.length:=by simpa using hj
  have Kf:pe.length=s':=by omega
  have Fu:PC.val (.list s' ya c py)=.slice ya py.length c:=rfl
  rw[Fu] at p2
  injection p2 with f1 f2 f3
  subst f1 f2 f3
  generalize oO:PC.list s' (some (ad b oo)) c py=p at g2
  cases g2 with
  |int k n=>cases oO
  |bool b=>cases oO
  |nil _ _ _ _=>injection oO with _ _ _ e4;subst e4;simp at hj
  |cons _ b' oo' _ _ q1 q2 q3 q4 q5 q6=>
  injection oO with f1 f2 f3 f4
  injection f2 with f2
  obtain⟨rfl,rfl⟩:=nG f2
  subst f1 f3 f4
  have gf:aX b (PC.list s' (some (ad b oo)) c py):=.here _ _ _ _ q1
  have hF:aZ b (G.g n).px:=⟨k,off,_,p1,gf⟩
  obtain⟨atr,⟨cur,et,hg⟩,hBE⟩:=hr.mode.1 b hF
  have fW:oo+j*s'+(a.eval y).cells.toList.length<=cur.size:=by
   have h2:(py[j]'hj).length=s':=q4 _ (List.getElem_mem hj)
   have hc:=q5 j (s' - 1) ((py[j]'hj)[s' - 1]'(by omega)) ⟨_,List.getElem?_eq_getElem hj,List.getElem?_eq_getElem _⟩
   have:=Em hg hc
   omega
  have jA:∀k' j' c',At (py.set j pe) k' j' c'->c'.er.eV=true:=by
   intro k' j' c' h
   rcases I0 hj h with⟨rfl,h1⟩|⟨_,h1⟩
   ·exact e4 c' (List.mem_of_getElem? h1)
   ·obtain⟨e,he,iO⟩:=h1
    have h6:=List.all_eq_true.1 tA (e.map PC.er) (by simp only[List.mem_map];exact⟨e,List.mem_of_getElem? he,rfl⟩)
    exact List.all_eq_true.1 h6 c'.er (by simp only[List.mem_map];exact⟨c',List.mem_of_getElem? iO,rfl⟩)
  have aD:py.set j pe≠[]:=by
   intro h
   have:=congrArg List.length h
   simp at this
   rw[this] at hj
   simp at hj
  have nU:∀e∈py.set j pe,e.length=s':=by
   intro e he
   rcases List.mem_or_eq_of_mem_set he with he|rfl
   ·exact q4 e he
   ·exact Kf
  generalize nd:eX w b (oo+j*s') (a.eval y).cells.toList cur=w'
  have A:ur w' .ae (PC.list s' (some (ad b oo)) c py) (PC.list s' (some (ad b oo)) c (py.set j pe)):=by
   refine⟨by simp[PC.val],.cons _ _ _ _ _ aD (by simpa using q2) q3 nU (fun k' j' c' h=>?_) (fun k' j' c' h=>Good.lS (jA k' j' c' h)),.list _ _ _ _ (fun k' j' c' h=>(Sep.lS (jA k' j' c' h)).1) (fun b' o' k' j' c' _ h=>(Sep.lS (jA k' j' c' h)).2 b')
    (fun k1 j1 c1 k2 j2 c2 b' h _ _ hb=>absurd hb ((Sep.lS (jA k1 j1 c1 h)).2 b')),fun b' be=>?_,?_,fun uf a0 ww lB sM a1 BB rK h1 h2=>?_⟩
   ·have lJ:j'<s':=by
     obtain⟨e,he,iO⟩:=h
     have:=nU e (List.mem_of_getElem? he)
     have:=(List.getElem?_eq_some_iff.1 iO).1
     omega
    rw[<-nd,DP hg fW]
    rcases I0 hj h with⟨rfl,h1⟩|⟨wW,h1⟩
    ·rw[if_pos (by omega),show oo+k'*s'+j' - (oo+k'*s')=j' by omega,<-e2,List.getElem?_map,h1]
     rfl
    ·rw[if_neg]
     ·exact q5 _ _ _ h1
     ·rintro⟨u1,u2⟩
      rcases Nat.lt_or_gt_of_ne wW with bK|zf
      ·have:(k'+1)*s'<=j*s':=Nat.mul_le_mul_right _ bK
       rw[Nat.add_mul] at this
       omega
      ·have:(j+1)*s'<=k'*s':=Nat.mul_le_mul_right _ zf
       rw[Nat.add_mul] at this
       omega
   ·rw[aX.lm] at be⊢
    rcases be with⟨_,h2⟩|⟨k',j',c',h1,h2⟩
    ·exact .inl ⟨q1,h2⟩
    ·exact absurd h2 ((Sep.lS (jA k' j' c' h1)).2 b')
   ·rw[PC.dR]
    show gv _=true
    rw[gv,List.all_eq_true]
    intro e he
    obtain⟨e0,lI,rfl⟩:=List.mem_map.1 he
    rw[fK,List.all_eq_true]
    intro c0 eR
    obtain⟨c1,E4,rfl⟩:=List.mem_map.1 eR
    obtain⟨k',cI⟩:=List.getElem?_of_mem lI
    obtain⟨j',iO⟩:=List.getElem?_of_mem E4
    exact jA k' j' c1 ⟨e0,cI,iO⟩
   ·injection h1 with a1 a2 a3 a4
    injection h2 with b1 b2 b3 b4
    subst a1 a2 a3 a4 b1 b2 b3 b4
    exact⟨rfl,rfl,rfl,by simp,fun h=>by cases h⟩
  have dS:∀b',b'≠b->w'.heap[b']? =w.heap[b']? :=fun b' be=>by rw[<-nd];exact AJ b' be
  have mH:∀b',Cz w w' b':=fun b'=>by
   by_cases hb:b'=b
   ·subst hb;rw[<-nd];exact DQ hg fW
   ·exact Cz.of_eq (dS b' hb)
  have vd:w.heap.size<=w'.heap.size:=by rw[<-nd,rJ];exact Nat.le_refl _
  have bS:σ.h n≠none:=by rw[hn];simp
  have hbn:(G.g n).b≠b:=fun h=>H.live n gr rs xs hn b hF n bS aN h.symm
  obtain⟨ex,qT⟩:∃ex,xs[k]? =some ex:=by
   cases h:xs[k]? with
   |none=>rw[h] at g3;cases g3
   |some ex=>exact⟨ex,rfl⟩
  have ajB:au=xs.set k (ex.set off (PC.list s' (some (ad b oo)) c (py.set j pe)).er):=by
   rw[<-hx,PC.dR,List.map_set,e1,List.getD_eq_getElem?_getD,qT]
   rfl
  have Px:=Yv H hn p1 rfl (fun _=>dS _ hbn) (fun k' j' c' h1 h2 b' be=>dS b' (by rintro rfl;exact hr.mode.2.2 _ _ _ _ _ _ b' h1 p1 h2 be gf)) A qT
  obtain⟨uo,K,_⟩:=H.KQ (G':=⟨G.Im,aA G.g n (xB (G.g n) (.nest n k off) (PC.list s' (some (ad b oo)) c (py.set j pe)))⟩) (h':=aA σ.h n (some (.row gr .live rs au))) (w':=w') (S:=fun m=>m=n) vd
   (fun b' be cm=>dS b' (by rintro rfl;exact cm n rfl (.inr hF))) (fun b' _=>mH b') rfl
   (fun m hm=>by subst hm;exact⟨gr,.live,rs,xs,au,hn,bN _ _ _,by simp only[bN];rw[ajB];exact Px⟩)
   (fun m hm=>⟨cE _ _ _ _ hm,cE _ _ _ _ hm⟩)
  have r':=r.step (σ':=σ.dB n (.row gr .live rs au)) rfl (fun _ h=>h) K uo (r.fr.one hBE (fun b' _ aD=>dS b' aD) vd (mH b) (by rw[<-nd];rfl) (by rw[<-nd];rfl) (by rw[<-nd];rfl))
  have bY:=Lm (P:=P) (w:=w) (t:=t) (i:=i) (b:=b) (off:=oo+j*s') (v:=a.eval y) (cur:=cur) (e:=et) hi (by rw[bP,<-Ft];simp) hg (by simpa using fW) (fun u hu=>by
   obtain⟨j,hj,Fc⟩:=List.getElem_of_mem hu
   have u6:j<vs.length:=by omega
   exact(bT.2 j _ u (List.getElem?_eq_getElem u6) (by rw[List.getElem?_eq_getElem hj,Fc])).1)
  refine Mb (w':=w') ?_ ⟨_,by rw[hd];exact r'⟩
  rw[<-nd]
  simp only[execOp,ho,p4]
  simp[Instr.storeAt,Instr.sureAddr,bY]
 ·cases hx
end
end Go.Am
