/- AmS: pointers into lists of live rows. No condition. -/
import Derived.Test.YthildlkhnnogiaaAmO
set_option linter.unusedVariables false
namespace Go.Am
section
variable {B:Nat} {E:Ex} {w0 w w':World} {G G':Gh} {N:Nat} {h h':Nat->Option aj} {used:Nat->Bool}
variable {P:Program} {o:Oper} {a:Act} {σ σ':St} {Q:Exit->Act->World->Prop}
theorem abP {n k au off sz len:Nat} {x:C} (hx:bQ h (.bf n k au off sz len)=some x):∃gr xs,h n=some (.row gr .live au xs)/\(xs[k]?).bind (·[off]?)=some x:=by
 simp only[Am.bQ] at hx
 split at hx
 ·rename_i gr rs xs hn
  split at hx
  ·rename_i hc
   subst hc
   exact⟨gr,xs,hn,hx⟩
  ·cases hx
 ·cases hx
theorem HR.Fs (H:HR B E w G h used []) {n k off au:Nat} {gr:Bool} {xs:List (List C)} (hn:h n=some (.row gr .live au xs)) {pc:PC} (bO:At (G.g n).px k off pc):
  (G.g n).nl=false/\Good w pc/\(xs[k]?).bind (·[off]?)=some pc.er:=by
 have hr:=H.row n gr .live au xs hn
 have aD:(G.g n).nl=false:=by
  cases hq:(G.g n).nl with
  |false=>rfl
  |true=>obtain⟨e,he,_⟩:=bO;rw[(hr.nl hq).1] at he;simp at he
 refine⟨aD,(hr.cZ aD).2.1.2.2 _ _ _ bO,?_⟩
 obtain⟨e,he,hj⟩:=bO
 rw[hr.er]
 simp[he,hj]
theorem adM (r:R B E w0 N σ a w G) {t e:TypeId} {i:TypeInfo} {x y:Operand} {mx my:MO} {n k au off sz ax len:Nat} {q:Int} {ys:List (List C)} (ho:o.op=.indexAddr t x y) (hN:∀n,o.dst=some n->n<N) (eR:bd x mx=true) (fo:bd y my=true)
  (ht:P.underlying t=some (.slice e)) (hi:P.info? e=some i) (bn:i.size=sz) (hq:(σ.ev my).cJ=some q) (h0:0<=q) (h1:q<(ys.length:Int))
  (hx:σ.ev mx=.one (.bf n k au off ax len)) (hv:bQ σ.h (.bf n k au off ax len)=some (.list sz ys)):
  o.wp P a w (Nx B E w0 N (σ.put o.dst (.one (.bX n k au off sz q.toNat)))) Q:=by
 obtain⟨x1,x2⟩:=r.ev eR
 obtain⟨kk,ey⟩:=(r.ev fo).1.int hq
 rw[hx] at x1 x2
 obtain⟨gr,xs,hn,hb⟩:=abP hv
 obtain⟨pc,p1,p2,p3⟩:=(x1.dB (by simp)).1 gr xs hn
 obtain⟨g1,g2,g3⟩:=r.hr.Fs hn p1
 rw[hb] at g3
 injection g3 with g3
 cases pc with
 |int k n=>simp[PC.er] at g3
 |bool b=>simp[PC.er] at g3
 |list s' ya c py=>
  rw[PC.cN] at g3
  injection g3 with e1 e2
  subst e1
  have hl:ys.length=py.length:=by rw[e2];simp
  have db:q<(py.length:Int):=by omega
  have vr:PC.val (.list sz ya c py)=.slice ya py.length c:=rfl
  generalize e9:PC.list sz ya c py=p at g2
  cases g2 with
  |int k n=>cases e9
  |bool b=>cases e9
  |nil _ _ _ _=>injection e9 with _ _ _ e4;subst e4;simp at db;omega
  |cons _ b oo _ _ q1 q2 q3 q4 q5 q6=>
   injection e9 with f1 f2 f3 f4
   subst f1 f2 f3 f4
   refine gf r (v:=.pointer (some (ad b (oo+q.toNat*sz)))) ?_ ?_ (fun m hm=>x2 m hm) hN
   ·simp only[execOp,ho,<-p2,PC.val,ey]
    simp[CS ht hi bn h0 db]
   ·refine RA.dS rfl fun aW ak bh=>?_
    exact⟨_,b,oo,py.length,c,p1,rfl,rfl,rfl⟩
theorem V6:∀{vs:List ab} {cs:List C} {us:List Value},kt vs=some cs->cb w G h vs us->∃pe:List PC,pe.map PC.er=cs/\pe.map PC.val=us/\pe.length=vs.length/\∀c∈pe,c.er.dL=true
 |[],cs,us,hx,hr=>by
  simp only[kt] at hx
  injection hx with hx
  subst hx
  have:us=[]:=List.eq_nil_of_length_eq_zero hr.1
  subst this
  exact⟨[],rfl,rfl,rfl,by simp⟩
 |c::vs,cs,us,hx,hr=>by
  match us,hr with
  |[],hr=>exact absurd hr.1 (by simp)
  |u::us,hr=>
  cases c with
  |c x=>
   simp only[kt] at hx
   split at hx
   ·rename_i hs
    cases hd:kt vs with
    |none=>rw[hd] at hx;cases hx
    |some l=>
     rw[hd] at hx
     injection hx with hx
     subst hx
     obtain⟨pe,e1,e2,e3,e4⟩:=V6 (us:=us) hd ⟨by have:=hr.1;simpa using this,fun j c u hj hu=>hr.2 (j+1) c u (by simpa using hj) (by simpa using hu)⟩
     obtain⟨_,pc,q1,q2,_⟩:=hr.2 0 _ u rfl rfl
     refine⟨pc::pe,by simp[e1,q1],by simp[e2,q2],by simp[e3],fun c hc=>?_⟩
     rcases List.mem_cons.1 hc with rfl|hc
     ·rw[q1];exact hs
     ·exact e4 c hc
   ·cases hx
  |nil _=>simp[kt] at hx
  |ptr _ _ _ _=>simp[kt] at hx
  |cd _ _=>simp[kt] at hx
  |bK _ _ _ _ _ _=>simp[kt] at hx
  |sl _ _ _ _=>simp[kt] at hx
  |bf _ _ _ _ _ _=>simp[kt] at hx
  |bX _ _ _ _ _ _=>simp[kt] at hx
  |fn _ _=>simp[kt] at hx
  |aX=>simp[kt] at hx
theorem Good.fT {c:PC} (hs:c.er.dL=true):Good w c:=by
 cases c with
 |int k n=>exact .int k n
 |bool b=>exact .bool b
 |list s a cap xs=>rw[PC.cN] at hs;cases hs
theorem ad0 (r:R B E w0 N σ a w G) {t:TypeId} {i:TypeInfo} {x y:Operand} {mx my:MO} {sz n k rs off s j:Nat} {ag gr:Bool} {xs ak:List (List C)} {vs:List ab} (ho:o.op=.store t x y) (hd:o.dst=none) (eR:bd x mx=true) (fo:bd y my=true)
  (hi:P.info? t=some i) (bn:i.size=sz) (eC:0<sz) (hp:σ.ev mx=.one (.bX n k rs off s j)) (hv:(σ.ev my).cells?=some (ag,vs)) (hl:vs.length=sz) (hn:σ.h n=some (.row gr .live rs xs)) (vd:gr=false)
  (hx:wc xs k off s j vs=some ak):o.wp P a w (Nx B E w0 N (σ.cW n (.row gr .live rs ak))) Q:=by
 have H:=r.hr
 obtain⟨x1,_⟩:=r.ev eR
 obtain⟨y1,y2⟩:=r.ev fo
 rw[hp] at x1
 obtain⟨pc,b,oo,len,cap,p1,p2,p3,p4⟩:=(x1.dB (by simp)).1 gr xs hn
 obtain⟨aD,g2,g3⟩:=H.Fs hn p1
 have hr:=H.row n gr .live rs xs hn
 unfold wc at hx
 rw[g3] at hx
 have bA:=y1.cells hv
 have EM:(a.eval y).cells.toList.length=sz:=by rw[bA.1,hl]
 cases pc with
 |int kk nn=>simp[PC.er] at hx
 |bool bb=>simp[PC.er] at hx
 |list s' ya c py=>
 rw[PC.cN] at hx
 simp only at hx
 split at hx
 ·rename_i bR
  obtain⟨rfl,gP,hj,gO⟩:=bR
  cases Og:kt vs with
  |none=>rw[Og] at hx;cases hx
  |some cs=>
  rw[Og] at hx
  injection hx with hx
  obtain⟨pe,e1,e2,e3,e4⟩:=V6 Og bA
  have hj:j<py.length:=by simpa using hj
  have vl:pe.length=s':=by omega
  have zE:PC.val (.list s' ya c py)=.slice ya py.length c:=rfl
  rw[zE] at p2
  injection p2 with f1 f2 f3
  subst f1 f2 f3
  generalize e9:PC.list s' (some (ad b oo)) c py=p at g2
  cases g2 with
  |int k n=>cases e9
  |bool b=>cases e9
  |nil _ _ _ _=>injection e9 with _ _ _ e4;subst e4;simp at hj
  |cons _ b' Q4 _ _ q1 q2 q3 q4 q5 q6=>
  injection e9 with f1 f2 f3 f4
  injection f2 with f2
  obtain⟨rfl,rfl⟩:=jF f2
  subst f1 f3 f4
  have dw:aK b (PC.list s' (some (ad b oo)) c py):=.here _ _ _ _ q1
  have hF:aP b (G.g n).px:=⟨k,off,_,p1,dw⟩
  obtain⟨anb,⟨cur,et,hg⟩,hBE⟩:=hr.mode.1 b hF
  have eP:oo+j*s'+(a.eval y).cells.toList.length<=cur.size:=by
   have h2:(py[j]'hj).length=s':=q4 _ (List.getElem_mem hj)
   have hc:=q5 j (s' - 1) ((py[j]'hj)[s' - 1]'(by omega)) ⟨_,List.getElem?_eq_getElem hj,List.getElem?_eq_getElem _⟩
   have:=yS hg hc
   omega
  have gy:∀k' j' c',At (py.set j pe) k' j' c'->c'.er.dL=true:=by
   intro k' j' c' h
   rcases HY hj h with⟨rfl,h1⟩|⟨_,h1⟩
   ·exact e4 c' (List.mem_of_getElem? h1)
   ·obtain⟨e,he,iD⟩:=h1
    have h6:=List.all_eq_true.1 gO (e.map PC.er) (by simp only[List.mem_map];exact⟨e,List.mem_of_getElem? he,rfl⟩)
    exact List.all_eq_true.1 h6 c'.er (by simp only[List.mem_map];exact⟨c',List.mem_of_getElem? iD,rfl⟩)
  have av:py.set j pe≠[]:=by
   intro h
   have:=congrArg List.length h
   simp at this
   rw[this] at hj
   simp at hj
  have jI:∀e∈py.set j pe,e.length=s':=by
   intro e he
   rcases List.mem_or_eq_of_mem_set he with he|rfl
   ·exact q4 e he
   ·exact vl
  generalize mB:dY w b (oo+j*s') (a.eval y).cells.toList cur=w'
  have A:sR w' .af (PC.list s' (some (ad b oo)) c py) (PC.list s' (some (ad b oo)) c (py.set j pe)):=by
   refine⟨by simp[PC.val],.cons _ _ _ _ _ av (by simpa using q2) q3 jI (fun k' j' c' h=>?_) (fun k' j' c' h=>Good.fT (gy k' j' c' h)),.list _ _ _ _ (fun k' j' c' h=>(Sep.fT (gy k' j' c' h)).1) (fun b' o' k' j' c' _ h=>(Sep.fT (gy k' j' c' h)).2 b')
    (fun k1 j1 c1 k2 j2 c2 b' h _ _ hb=>absurd hb ((Sep.fT (gy k1 j1 c1 h)).2 b')),fun b' aE=>?_,?_,fun rq a0 o7 hZ sE a1 Bf ry h1 h2=>?_⟩
   ·have iE:j'<s':=by
     obtain⟨e,he,iD⟩:=h
     have:=jI e (List.mem_of_getElem? he)
     have:=(List.getElem?_eq_some_iff.1 iD).1
     omega
    rw[<-mB,wv hg eP]
    rcases HY hj h with⟨rfl,h1⟩|⟨xd,h1⟩
    ·rw[if_pos (by omega),show oo+k'*s'+j' - (oo+k'*s')=j' by omega,<-e2,List.getElem?_map,h1]
     rfl
    ·rw[if_neg]
     ·exact q5 _ _ _ h1
     ·rintro⟨u1,u2⟩
      rcases Nat.lt_or_gt_of_ne xd with bS|zt
      ·have:(k'+1)*s'<=j*s':=Nat.mul_le_mul_right _ bS
       rw[Nat.add_mul] at this
       omega
      ·have:(j+1)*s'<=k'*s':=Nat.mul_le_mul_right _ zt
       rw[Nat.add_mul] at this
       omega
   ·rw[aK.jw] at aE⊢
    rcases aE with⟨_,h2⟩|⟨k',j',c',h1,h2⟩
    ·exact .inl ⟨q1,h2⟩
    ·exact absurd h2 ((Sep.fT (gy k' j' c' h1)).2 b')
   ·rw[PC.cN]
    show dd _=true
    rw[dd,List.all_eq_true]
    intro e he
    obtain⟨e0,jG,rfl⟩:=List.mem_map.1 he
    rw[eo,List.all_eq_true]
    intro c0 cA
    obtain⟨c1,lp,rfl⟩:=List.mem_map.1 cA
    obtain⟨k',bx⟩:=List.getElem?_of_mem jG
    obtain⟨j',iD⟩:=List.getElem?_of_mem lp
    exact gy k' j' c1 ⟨e0,bx,iD⟩
   ·injection h1 with a1 a2 a3 a4
    injection h2 with b1 b2 b3 b4
    subst a1 a2 a3 a4 b1 b2 b3 b4
    exact⟨rfl,rfl,rfl,by simp,fun h=>by cases h⟩
  have cB:∀b',b'≠b->w'.heap[b']? =w.heap[b']? :=fun b' aE=>by rw[<-mB];exact ww b' aE
  have ik:∀b',Cz w w' b':=fun b'=>by
   by_cases hb:b'=b
   ·subst hb;rw[<-mB];exact yq hg eP
   ·exact Cz.of_eq (cB b' hb)
  have ky:w.heap.size<=w'.heap.size:=by rw[<-mB,oO];exact Nat.le_refl _
  have bi:σ.h n≠none:=by rw[hn];simp
  have N9:(G.g n).b≠b:=fun h=>H.live n gr rs xs hn b hF n bi aD h.symm
  obtain⟨ex,qF⟩:∃ex,xs[k]? =some ex:=by
   cases h:xs[k]? with
   |none=>rw[h] at g3;cases g3
   |some ex=>exact⟨ex,rfl⟩
  have agm:ak=xs.set k (ex.set off (PC.list s' (some (ad b oo)) c (py.set j pe)).er):=by
   rw[<-hx,PC.cN,List.map_set,e1,List.getD_eq_getElem?_getD,qF]
   rfl
  have Em:=VB H hn vd p1 rfl (fun _=>cB _ N9) (fun k' j' c' h1 h2 b' aE=>cB b' (by rintro rfl;exact hr.mode.2.2 _ _ _ _ _ _ b' h1 p1 h2 aE dw)) A qF
  obtain⟨rB,K,_⟩:=H.Fq (G':=⟨G.Im,ao G.g n (xO (G.g n) (.nest n k off) (PC.list s' (some (ad b oo)) c (py.set j pe)))⟩) (h':=ao σ.h n (some (.row gr .live rs ak))) (w':=w') (S:=fun m=>m=n) ky
   (fun b' aE bG=>cB b' (by rintro rfl;exact bG n rfl (.inr hF))) (fun b' _=>ik b') rfl
   (fun m hm=>by subst hm;exact⟨gr,.live,rs,xs,ak,hn,bo _ _ _,by simp only[bo];rw[agm];exact Em⟩)
   (fun m hm=>⟨bP _ _ _ _ hm,bP _ _ _ _ hm⟩)
  have r':=r.step (σ':=σ.cW n (.row gr .live rs ak)) rfl (fun _ h=>h) K rB (r.fr.one hBE (fun b' _ av=>cB b' av) ky (ik b) (by rw[<-mB];rfl) (by rw[<-mB];rfl) (by rw[<-mB];rfl))
  have aS:=FF (P:=P) (w:=w) (t:=t) (i:=i) (b:=b) (off:=oo+j*s') (v:=a.eval y) (cur:=cur) (e:=et) hi (by rw[bn,<-EM];simp) hg (by simpa using eP) (fun u hu=>by
   obtain⟨j,hj,Ey⟩:=List.getElem_of_mem hu
   have vf:j<vs.length:=by omega
   exact(bA.2 j _ u (List.getElem?_eq_getElem vf) (by rw[List.getElem?_eq_getElem hj,Ey])).1)
  refine Gu (w':=w') ?_ ⟨_,by rw[hd];exact r'⟩
  rw[<-mB]
  simp only[execOp,ho,p4]
  simp[Instr.storeAt,Instr.sureAddr,aS]
 ·cases hx
end
end Go.Am
