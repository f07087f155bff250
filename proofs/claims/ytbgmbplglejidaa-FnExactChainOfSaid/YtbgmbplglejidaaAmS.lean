/- AmS: pointers into lists of live rows. No condition. -/
import Derived.Test.YtbgmbplglejidaaAmO
set_option linter.unusedVariables false
namespace Go.Am
section
variable {B:Nat} {E:Ex} {w0 w w':World} {G G':Gh} {N:Nat} {h h':Nat->Option aq} {used:Nat->Bool}
variable {P:Program} {o:Oper} {a:Act} {σ σ':St} {Q:Exit->Act->World->Prop}
theorem aqC {n k aD off sz len:Nat} {x:C} (hx:bU h (.bx n k aD off sz len)=some x):∃gr xs,h n=some (.row gr .live aD xs)/\(xs[k]?).bind (·[off]?)=some x:=by
 simp only[Am.bU] at hx
 split at hx
 ·rename_i gr rs xs hn
  split at hx
  ·rename_i hc
   subst hc
   exact⟨gr,xs,hn,hx⟩
  ·cases hx
 ·cases hx
theorem HR.abj (H:HR B E w G h used []) {n k off aD:Nat} {gr:Bool} {xs:List (List C)} (hn:h n=some (.row gr .live aD xs)) {pc:PC} (cg:At (G.g n).px k off pc):
  (G.g n).nl=false/\Good w pc/\(xs[k]?).bind (·[off]?)=some pc.er:=by
 have hr:=H.row n gr .live aD xs hn
 have aR:(G.g n).nl=false:=by
  cases hq:(G.g n).nl with
  |false=>rfl
  |true=>obtain⟨e,he,_⟩:=cg;rw[(hr.nl hq).1] at he;simp at he
 refine⟨aR,(hr.dT aR).2.1.2.2 _ _ _ cg,?_⟩
 obtain⟨e,he,hj⟩:=cg
 rw[hr.er]
 simp[he,hj]
theorem afS (r:R B E w0 N σ a w G) {t e:TypeId} {i:TypeInfo} {x y:Operand} {mx my:MO} {n k aD off sz aL len:Nat} {q:Int} {ys:List (List C)} (ho:o.op=.indexAddr t x y) (hN:∀n,o.dst=some n->n<N) (fR:bz x mx=true) (jO:bz y my=true)
  (ht:P.underlying t=some (.slice e)) (hi:P.info? e=some i) (bF:i.size=sz) (hq:(σ.ev my).dh=some q) (h0:0<=q) (h1:q<(ys.length:Int))
  (hx:σ.ev mx=.one (.bx n k aD off aL len)) (hv:bU σ.h (.bx n k aD off aL len)=some (.list sz ys)):
  o.wp P a w (Nx B E w0 N (σ.put o.dst (.one (.cN n k aD off sz q.toNat)))) Q:=by
 obtain⟨x1,x2⟩:=r.ev fR
 obtain⟨kk,ey⟩:=(r.ev jO).1.int hq
 rw[hx] at x1 x2
 obtain⟨gr,xs,hn,hb⟩:=aqC hv
 obtain⟨pc,p1,p2,p3⟩:=(x1.fz (by simp)).1 gr xs hn
 obtain⟨g1,g2,g3⟩:=r.hr.abj hn p1
 rw[hb] at g3
 injection g3 with g3
 cases pc with
 |int k n=>simp[PC.er] at g3
 |bool b=>simp[PC.er] at g3
 |list s' ya c py=>
  rw[PC.dG] at g3
  injection g3 with e1 e2
  subst e1
  have hl:ys.length=py.length:=by rw[e2];simp
  have ez:q<(py.length:Int):=by omega
  have ww:PC.val (.list sz ya c py)=.slice ya py.length c:=rfl
  generalize nR:PC.list sz ya c py=p at g2
  cases g2 with
  |int k n=>cases nR
  |bool b=>cases nR
  |nil _ _ _ _=>injection nR with _ _ _ e4;subst e4;simp at ez;omega
  |cons _ b oo _ _ q1 q2 q3 q4 q5 q6=>
   injection nR with f1 f2 f3 f4
   subst f1 f2 f3 f4
   refine gk r (v:=.pointer (some (ad b (oo+q.toNat*sz)))) ?_ ?_ (fun m hm=>x2 m hm) hN
   ·simp only[execOp,ho,<-p2,PC.val,ey]
    simp[T1 ht hi bF h0 ez]
   ·refine RA.fZ rfl fun bj ar bk=>?_
    exact⟨_,b,oo,py.length,c,p1,rfl,rfl,rfl⟩
theorem X7:∀{vs:List ah} {cs:List C} {us:List Value},lC vs=some cs->cJ w G h vs us->∃pe:List PC,pe.map PC.er=cs/\pe.map PC.val=us/\pe.length=vs.length/\∀c∈pe,c.er.eF=true
 |[],cs,us,hx,hr=>by
  simp only[lC] at hx
  injection hx with hx
  subst hx
  have:us=[]:=List.eq_nil_of_length_eq_zero hr.1
  subst this
  exact⟨[],rfl,rfl,rfl,by simp⟩
 |c::vs,cs,us,hx,hr=>by
  match us,hr with
  |[],hr=>exact absurd hr.1 (by simp)
  |u::us,hr=>
  cases c with
  |c x=>
   simp only[lC] at hx
   split at hx
   ·rename_i hs
    cases hd:lC vs with
    |none=>rw[hd] at hx;cases hx
    |some l=>
     rw[hd] at hx
     injection hx with hx
     subst hx
     obtain⟨pe,e1,e2,e3,e4⟩:=X7 (us:=us) hd ⟨by have:=hr.1;simpa using this,fun j c u hj hu=>hr.2 (j+1) c u (by simpa using hj) (by simpa using hu)⟩
     obtain⟨_,pc,q1,q2,_⟩:=hr.2 0 _ u rfl rfl
     refine⟨pc::pe,by simp[e1,q1],by simp[e2,q2],by simp[e3],fun c hc=>?_⟩
     rcases List.mem_cons.1 hc with rfl|hc
     ·rw[q1];exact hs
     ·exact e4 c hc
   ·cases hx
  |nil _=>simp[lC] at hx
  |ptr _ _ _ _=>simp[lC] at hx
  |cj _ _=>simp[lC] at hx
  |sl _ _ _ _=>simp[lC] at hx
  |bx _ _ _ _ _ _=>simp[lC] at hx
  |cN _ _ _ _ _ _=>simp[lC] at hx
  |fn _ _=>simp[lC] at hx
  |bn=>simp[lC] at hx
theorem Good.kP {c:PC} (hs:c.er.eF=true):Good w c:=by
 cases c with
 |int k n=>exact .int k n
 |bool b=>exact .bool b
 |list s a cap xs=>rw[PC.dG] at hs;cases hs
theorem af2 (r:R B E w0 N σ a w G) {t:TypeId} {i:TypeInfo} {x y:Operand} {mx my:MO} {sz n k rs off s j:Nat} {ag gr:Bool} {xs ar:List (List C)} {vs:List ah} (ho:o.op=.store t x y) (hd:o.dst=none) (fR:bz x mx=true) (jO:bz y my=true)
  (hi:P.info? t=some i) (bF:i.size=sz) (iY:0<sz) (hp:σ.ev mx=.one (.cN n k rs off s j)) (hv:(σ.ev my).cells?=some (ag,vs)) (hl:vs.length=sz) (hn:σ.h n=some (.row gr .live rs xs))
  (hx:vc xs k off s j vs=some ar):o.wp P a w (Nx B E w0 N (σ.du n (.row gr .live rs ar))) Q:=by
 have H:=r.hr
 obtain⟨x1,_⟩:=r.ev fR
 obtain⟨y1,y2⟩:=r.ev jO
 rw[hp] at x1
 obtain⟨pc,b,oo,len,cap,p1,p2,p3,p4⟩:=(x1.fz (by simp)).1 gr xs hn
 obtain⟨aR,g2,g3⟩:=H.abj hn p1
 have hr:=H.row n gr .live rs xs hn
 unfold vc at hx
 rw[g3] at hx
 have bG:=y1.cells hv
 have D9:(a.eval y).cells.toList.length=sz:=by rw[bG.1,hl]
 cases pc with
 |int kk nn=>simp[PC.er] at hx
 |bool bb=>simp[PC.er] at hx
 |list s' ya c py=>
 rw[PC.dG] at hx
 simp only at hx
 split at hx
 ·rename_i cF
  obtain⟨rfl,iE,hj,sW⟩:=cF
  cases IP:lC vs with
  |none=>rw[IP] at hx;cases hx
  |some cs=>
  rw[IP] at hx
  injection hx with hx
  obtain⟨pe,e1,e2,e3,e4⟩:=X7 IP bG
  have hj:j<py.length:=by simpa using hj
  have I6:pe.length=s':=by omega
  have Ea:PC.val (.list s' ya c py)=.slice ya py.length c:=rfl
  rw[Ea] at p2
  injection p2 with f1 f2 f3
  subst f1 f2 f3
  generalize nR:PC.list s' (some (ad b oo)) c py=p at g2
  cases g2 with
  |int k n=>cases nR
  |bool b=>cases nR
  |nil _ _ _ _=>injection nR with _ _ _ e4;subst e4;simp at hj
  |cons _ b' oo' _ _ q1 q2 q3 q4 q5 q6=>
  injection nR with f1 f2 f3 f4
  injection f2 with f2
  obtain⟨rfl,rfl⟩:=mX f2
  subst f1 f3 f4
  have ga:aT b (PC.list s' (some (ad b oo)) c py):=.here _ _ _ _ q1
  have hF:aX b (G.g n).px:=⟨k,off,_,p1,ga⟩
  obtain⟨aqW,⟨cur,et,hg⟩,hBE⟩:=hr.mode.1 b hF
  have g0:oo+j*s'+(a.eval y).cells.toList.length<=cur.size:=by
   have h2:(py[j]'hj).length=s':=q4 _ (List.getElem_mem hj)
   have hc:=q5 j (s' - 1) ((py[j]'hj)[s' - 1]'(by omega)) ⟨_,List.getElem?_eq_getElem hj,List.getElem?_eq_getElem _⟩
   have:=CY hg hc
   omega
  have iW:∀k' j' c',At (py.set j pe) k' j' c'->c'.er.eF=true:=by
   intro k' j' c' h
   rcases HH hj h with⟨rfl,h1⟩|⟨_,h1⟩
   ·exact e4 c' (List.mem_of_getElem? h1)
   ·obtain⟨e,he,jn⟩:=h1
    have h6:=List.all_eq_true.1 sW (e.map PC.er) (by simp only[List.mem_map];exact⟨e,List.mem_of_getElem? he,rfl⟩)
    exact List.all_eq_true.1 h6 c'.er (by simp only[List.mem_map];exact⟨c',List.mem_of_getElem? jn,rfl⟩)
  have aE:py.set j pe≠[]:=by
   intro h
   have:=congrArg List.length h
   simp at this
   rw[this] at hj
   simp at hj
  have lJ:∀e∈py.set j pe,e.length=s':=by
   intro e he
   rcases List.mem_or_eq_of_mem_set he with he|rfl
   ·exact q4 e he
   ·exact I6
  generalize mF:eG w b (oo+j*s') (a.eval y).cells.toList cur=w'
  have A:tH w' .ab (PC.list s' (some (ad b oo)) c py) (PC.list s' (some (ad b oo)) c (py.set j pe)):=by
   refine⟨by simp[PC.val],.cons _ _ _ _ _ aE (by simpa using q2) q3 lJ (fun k' j' c' h=>?_) (fun k' j' c' h=>Good.kP (iW k' j' c' h)),.list _ _ _ _ (fun k' j' c' h=>(Sep.kP (iW k' j' c' h)).1) (fun b' o' k' j' c' _ h=>(Sep.kP (iW k' j' c' h)).2 b')
    (fun k1 j1 c1 k2 j2 c2 b' h _ _ hb=>absurd hb ((Sep.kP (iW k1 j1 c1 h)).2 b')),fun b' aW=>?_,?_,fun tx a0 vJ kz r5 a1 Ar qV h1 h2=>?_⟩
   ·have kE:j'<s':=by
     obtain⟨e,he,jn⟩:=h
     have:=lJ e (List.mem_of_getElem? he)
     have:=(List.getElem?_eq_some_iff.1 jn).1
     omega
    rw[<-mF,CA hg g0]
    rcases HH hj h with⟨rfl,h1⟩|⟨wc,h1⟩
    ·rw[if_pos (by omega),show oo+k'*s'+j' - (oo+k'*s')=j' by omega,<-e2,List.getElem?_map,h1]
     rfl
    ·rw[if_neg]
     ·exact q5 _ _ _ h1
     ·rintro⟨u1,u2⟩
      rcases Nat.lt_or_gt_of_ne wc with bB|yu
      ·have:(k'+1)*s'<=j*s':=Nat.mul_le_mul_right _ bB
       rw[Nat.add_mul] at this
       omega
      ·have:(j+1)*s'<=k'*s':=Nat.mul_le_mul_right _ yu
       rw[Nat.add_mul] at this
       omega
   ·rw[aT.ko] at aW⊢
    rcases aW with⟨_,h2⟩|⟨k',j',c',h1,h2⟩
    ·exact .inl ⟨q1,h2⟩
    ·exact absurd h2 ((Sep.kP (iW k' j' c' h1)).2 b')
   ·rw[PC.dG]
    show fQ _=true
    rw[fQ,List.all_eq_true]
    intro e he
    obtain⟨e0,kD,rfl⟩:=List.mem_map.1 he
    rw[fq,List.all_eq_true]
    intro c0 eD
    obtain⟨c1,DJ,rfl⟩:=List.mem_map.1 eD
    obtain⟨k',cY⟩:=List.getElem?_of_mem kD
    obtain⟨j',jn⟩:=List.getElem?_of_mem DJ
    exact iW k' j' c1 ⟨e0,cY,jn⟩
   ·injection h1 with a1 a2 a3 a4
    injection h2 with b1 b2 b3 b4
    subst a1 a2 a3 a4 b1 b2 b3 b4
    exact⟨rfl,rfl,rfl,by simp,fun h=>by cases h⟩
  have dJ:∀b',b'≠b->w'.heap[b']? =w.heap[b']? :=fun b' aW=>by rw[<-mF];exact zz b' aW
  have lI:∀b',Cz w w' b':=fun b'=>by
   by_cases hb:b'=b
   ·subst hb;rw[<-mF];exact CB hg g0
   ·exact Cz.of_eq (dJ b' hb)
  have uC:w.heap.size<=w'.heap.size:=by rw[<-mF,qU];exact Nat.le_refl _
  have bJ:σ.h n≠none:=by rw[hn];simp
  have hbn:(G.g n).b≠b:=fun h=>H.live n gr rs xs hn b hF n bJ aR h.symm
  obtain⟨ex,qb⟩:∃ex,xs[k]? =some ex:=by
   cases h:xs[k]? with
   |none=>rw[h] at g3;cases g3
   |some ex=>exact⟨ex,rfl⟩
  have aiv:ar=xs.set k (ex.set off (PC.list s' (some (ad b oo)) c (py.set j pe)).er):=by
   rw[<-hx,PC.dG,List.map_set,e1,List.getD_eq_getElem?_getD,qb]
   rfl
  have OR:=Xz H hn p1 rfl (fun _=>dJ _ hbn) (fun k' j' c' h1 h2 b' aW=>dJ b' (by rintro rfl;exact hr.mode.2.2 _ _ _ _ _ _ b' h1 p1 h2 aW ga)) A qb
  obtain⟨tE,K,_⟩:=H.JK (G':=⟨G.Im,ax G.g n (wV (G.g n) (.nest n k off) (PC.list s' (some (ad b oo)) c (py.set j pe)))⟩) (h':=ax σ.h n (some (.row gr .live rs ar))) (w':=w') (S:=fun m=>m=n) uC
   (fun b' aW bS=>dJ b' (by rintro rfl;exact bS n rfl (.inr hF))) (fun b' _=>lI b') rfl
   (fun m hm=>by subst hm;exact⟨gr,.live,rs,xs,ar,hn,bE _ _ _,by simp only[bE];rw[aiv];exact OR⟩)
   (fun m hm=>⟨cb _ _ _ _ hm,cb _ _ _ _ hm⟩)
  have r':=r.step (σ':=σ.du n (.row gr .live rs ar)) rfl (fun _ h=>h) K tE (r.fr.one hBE (fun b' _ aE=>dJ b' aE) uC (lI b) (by rw[<-mF];rfl) (by rw[<-mF];rfl) (by rw[<-mF];rfl))
  have bO:=J8 (P:=P) (w:=w) (t:=t) (i:=i) (b:=b) (off:=oo+j*s') (v:=a.eval y) (cur:=cur) (e:=et) hi (by rw[bF,<-D9];simp) hg (by simpa using g0) (fun u hu=>by
   obtain⟨j,hj,DR⟩:=List.getElem_of_mem hu
   have uz:j<vs.length:=by omega
   exact(bG.2 j _ u (List.getElem?_eq_getElem uz) (by rw[List.getElem?_eq_getElem hj,DR])).1)
  refine KT (w':=w') ?_ ⟨_,by rw[hd];exact r'⟩
  rw[<-mF]
  simp only[execOp,ho,p4]
  simp[Instr.storeAt,Instr.sureAddr,bO]
 ·cases hx
end
end Go.Am
