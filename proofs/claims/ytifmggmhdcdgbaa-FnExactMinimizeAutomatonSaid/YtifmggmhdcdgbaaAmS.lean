/- AmS: pointers into lists of live rows. No condition. -/
import Derived.Test.YtifmggmhdcdgbaaAmO
set_option linter.unusedVariables false
namespace Go.Am
section
variable {B:Nat} {E:Ex} {w0 w w':World} {G G':Gh} {N:Nat} {h h':Nat->Option aq} {used:Nat->Bool}
variable {P:Program} {o:Oper} {a:Act} {σ σ':St} {Q:Exit->Act->World->Prop}
theorem ald {n k ax off sz len:Nat} {x:C} (hx:bU h (.bt n k ax off sz len)=some x):∃gr xs,h n=some (.row gr .live ax xs)/\(xs[k]?).bind (·[off]?)=some x:=by
 simp only[Am.bU] at hx
 split at hx
 ·rename_i gr rs xs hn
  split at hx
  ·rename_i hc
   subst hc
   exact⟨gr,xs,hn,hx⟩
  ·cases hx
 ·cases hx
theorem HR.X5 (H:HR B E w G h used []) {n k off ax:Nat} {gr:Bool} {xs:List (List C)} (hn:h n=some (.row gr .live ax xs)) {pc:PC} (cr:At (G.g n).px k off pc):
  (G.g n).nl=false/\Good w pc/\(xs[k]?).bind (·[off]?)=some pc.er:=by
 have hr:=H.row n gr .live ax xs hn
 have aO:(G.g n).nl=false:=by
  cases hq:(G.g n).nl with
  |false=>rfl
  |true=>obtain⟨e,he,_⟩:=cr;rw[(hr.nl hq).1] at he;simp at he
 refine⟨aO,(hr.dE aO).2.1.2.2 _ _ _ cr,?_⟩
 obtain⟨e,he,hj⟩:=cr
 rw[hr.er]
 simp[he,hj]
theorem abY (r:R B E w0 N σ a w G) {t e:TypeId} {i:TypeInfo} {x y:Operand} {mx my:MO} {n k ax off sz aK len:Nat} {q:Int} {ys:List (List C)} (ho:o.op=.indexAddr t x y) (hN:∀n,o.dst=some n->n<N) (jc:bx x mx=true) (iF:bx y my=true)
  (ht:P.underlying t=some (.slice e)) (hi:P.info? e=some i) (bG:i.size=sz) (hq:(σ.ev my).dc=some q) (h0:0<=q) (h1:q<(ys.length:Int))
  (hx:σ.ev mx=.one (.bt n k ax off aK len)) (hv:bU σ.h (.bt n k ax off aK len)=some (.list sz ys)):
  o.wp P a w (Nx B E w0 N (σ.put o.dst (.one (.cB n k ax off sz q.toNat)))) Q:=by
 obtain⟨x1,x2⟩:=r.ev jc
 obtain⟨kk,ey⟩:=(r.ev iF).1.int hq
 rw[hx] at x1 x2
 obtain⟨gr,xs,hn,hb⟩:=ald hv
 obtain⟨pc,p1,p2,p3⟩:=(x1.fv (by simp)).1 gr xs hn
 obtain⟨g1,g2,g3⟩:=r.hr.X5 hn p1
 rw[hb] at g3
 injection g3 with g3
 cases pc with
 |int k n=>simp[PC.er] at g3
 |bool b=>simp[PC.er] at g3
 |list s' ya c py=>
  rw[PC.dw] at g3
  injection g3 with e1 e2
  subst e1
  have hl:ys.length=py.length:=by rw[e2];simp
  have dW:q<(py.length:Int):=by omega
  have HC:PC.val (.list sz ya c py)=.slice ya py.length c:=rfl
  generalize n4:PC.list sz ya c py=p at g2
  cases g2 with
  |int k n=>cases n4
  |bool b=>cases n4
  |nil _ _ _ _=>injection n4 with _ _ _ e4;subst e4;simp at dW;omega
  |cons _ b oo _ _ q1 q2 q3 q4 q5 q6=>
   injection n4 with f1 f2 f3 f4
   subst f1 f2 f3 f4
   refine gw r (v:=.pointer (some (ad b (oo+q.toNat*sz)))) ?_ ?_ (fun m hm=>x2 m hm) hN
   ·simp only[execOp,ho,<-p2,PC.val,ey]
    simp[Q5 ht hi bG h0 dW]
   ·refine RA.gp rfl fun bi ar bn=>?_
    exact⟨_,b,oo,py.length,c,p1,rfl,rfl,rfl⟩
theorem UG:∀{vs:List ah} {cs:List C} {us:List Value},lF vs=some cs->cA w G h vs us->∃pe:List PC,pe.map PC.er=cs/\pe.map PC.val=us/\pe.length=vs.length/\∀c∈pe,c.er.eD=true
 |[],cs,us,hx,hr=>by
  simp only[lF] at hx
  injection hx with hx
  subst hx
  have:us=[]:=List.eq_nil_of_length_eq_zero hr.1
  subst this
  exact⟨[],rfl,rfl,rfl,by simp⟩
 |c::vs,cs,us,hx,hr=>by
  match us,hr with
  |[],hr=>exact absurd hr.1 (by simp)
  |u::us,hr=>
  cases c with
  |c x=>
   simp only[lF] at hx
   split at hx
   ·rename_i hs
    cases hd:lF vs with
    |none=>rw[hd] at hx;cases hx
    |some l=>
     rw[hd] at hx
     injection hx with hx
     subst hx
     obtain⟨pe,e1,e2,e3,e4⟩:=UG (us:=us) hd ⟨by have:=hr.1;simpa using this,fun j c u hj hu=>hr.2 (j+1) c u (by simpa using hj) (by simpa using hu)⟩
     obtain⟨_,pc,q1,q2,_⟩:=hr.2 0 _ u rfl rfl
     refine⟨pc::pe,by simp[e1,q1],by simp[e2,q2],by simp[e3],fun c hc=>?_⟩
     rcases List.mem_cons.1 hc with rfl|hc
     ·rw[q1];exact hs
     ·exact e4 c hc
   ·cases hx
  |nil _=>simp[lF] at hx
  |ptr _ _ _ _=>simp[lF] at hx
  |cf _ _=>simp[lF] at hx
  |sl _ _ _ _=>simp[lF] at hx
  |bt _ _ _ _ _ _=>simp[lF] at hx
  |cB _ _ _ _ _ _=>simp[lF] at hx
  |fn _ _=>simp[lF] at hx
  |bj=>simp[lF] at hx
theorem Good.lc {c:PC} (hs:c.er.eD=true):Good w c:=by
 cases c with
 |int k n=>exact .int k n
 |bool b=>exact .bool b
 |list s a cap xs=>rw[PC.dw] at hs;cases hs
theorem ab5 (r:R B E w0 N σ a w G) {t:TypeId} {i:TypeInfo} {x y:Operand} {mx my:MO} {sz n k rs off s j:Nat} {ag gr:Bool} {xs ar:List (List C)} {vs:List ah} (ho:o.op=.store t x y) (hd:o.dst=none) (jc:bx x mx=true) (iF:bx y my=true)
  (hi:P.info? t=some i) (bG:i.size=sz) (jf:0<sz) (hp:σ.ev mx=.one (.cB n k rs off s j)) (hv:(σ.ev my).cells?=some (ag,vs)) (hl:vs.length=sz) (hn:σ.h n=some (.row gr .live rs xs))
  (hx:uK xs k off s j vs=some ar):o.wp P a w (Nx B E w0 N (σ.dv n (.row gr .live rs ar))) Q:=by
 have H:=r.hr
 obtain⟨x1,_⟩:=r.ev jc
 obtain⟨y1,y2⟩:=r.ev iF
 rw[hp] at x1
 obtain⟨pc,b,oo,len,cap,p1,p2,p3,p4⟩:=(x1.fv (by simp)).1 gr xs hn
 obtain⟨aO,g2,g3⟩:=H.X5 hn p1
 have hr:=H.row n gr .live rs xs hn
 unfold uK at hx
 rw[g3] at hx
 have bQ:=y1.cells hv
 have C2:(a.eval y).cells.toList.length=sz:=by rw[bQ.1,hl]
 cases pc with
 |int kk nn=>simp[PC.er] at hx
 |bool bb=>simp[PC.er] at hx
 |list s' ya c py=>
 rw[PC.dw] at hx
 simp only at hx
 split at hx
 ·rename_i cv
  obtain⟨rfl,iJ,hj,sx⟩:=cv
  cases n3:lF vs with
  |none=>rw[n3] at hx;cases hx
  |some cs=>
  rw[n3] at hx
  injection hx with hx
  obtain⟨pe,e1,e2,e3,e4⟩:=UG n3 bQ
  have hj:j<py.length:=by simpa using hj
  have Hw:pe.length=s':=by omega
  have C3:PC.val (.list s' ya c py)=.slice ya py.length c:=rfl
  rw[C3] at p2
  injection p2 with f1 f2 f3
  subst f1 f2 f3
  generalize n4:PC.list s' (some (ad b oo)) c py=p at g2
  cases g2 with
  |int k n=>cases n4
  |bool b=>cases n4
  |nil _ _ _ _=>injection n4 with _ _ _ e4;subst e4;simp at hj
  |cons _ b' oo' _ _ q1 q2 q3 q4 q5 q6=>
  injection n4 with f1 f2 f3 f4
  injection f2 with f2
  obtain⟨rfl,rfl⟩:=nQ f2
  subst f1 f3 f4
  have fG:aR b (PC.list s' (some (ad b oo)) c py):=.here _ _ _ _ q1
  have hF:aV b (G.g n).px:=⟨k,off,_,p1,fG⟩
  obtain⟨alz,⟨cur,et,hg⟩,hBE⟩:=hr.mode.1 b hF
  have g8:oo+j*s'+(a.eval y).cells.toList.length<=cur.size:=by
   have h2:(py[j]'hj).length=s':=q4 _ (List.getElem_mem hj)
   have hc:=q5 j (s' - 1) ((py[j]'hj)[s' - 1]'(by omega)) ⟨_,List.getElem?_eq_getElem hj,List.getElem?_eq_getElem _⟩
   have:=B0 hg hc
   omega
  have je:∀k' j' c',At (py.set j pe) k' j' c'->c'.er.eD=true:=by
   intro k' j' c' h
   rcases Gd hj h with⟨rfl,h1⟩|⟨_,h1⟩
   ·exact e4 c' (List.mem_of_getElem? h1)
   ·obtain⟨e,he,kq⟩:=h1
    have h6:=List.all_eq_true.1 sx (e.map PC.er) (by simp only[List.mem_map];exact⟨e,List.mem_of_getElem? he,rfl⟩)
    exact List.all_eq_true.1 h6 c'.er (by simp only[List.mem_map];exact⟨c',List.mem_of_getElem? kq,rfl⟩)
  have aC:py.set j pe≠[]:=by
   intro h
   have:=congrArg List.length h
   simp at this
   rw[this] at hj
   simp at hj
  have nk:∀e∈py.set j pe,e.length=s':=by
   intro e he
   rcases List.mem_or_eq_of_mem_set he with he|rfl
   ·exact q4 e he
   ·exact Hw
  generalize mF:eE w b (oo+j*s') (a.eval y).cells.toList cur=w'
  have A:u7 w' .aa (PC.list s' (some (ad b oo)) c py) (PC.list s' (some (ad b oo)) c (py.set j pe)):=by
   refine⟨by simp[PC.val],.cons _ _ _ _ _ aC (by simpa using q2) q3 nk (fun k' j' c' h=>?_) (fun k' j' c' h=>Good.lc (je k' j' c' h)),.list _ _ _ _ (fun k' j' c' h=>(Sep.lc (je k' j' c' h)).1) (fun b' o' k' j' c' _ h=>(Sep.lc (je k' j' c' h)).2 b')
    (fun k1 j1 c1 k2 j2 c2 b' h _ _ hb=>absurd hb ((Sep.lc (je k1 j1 c1 h)).2 b')),fun b' aX=>?_,?_,fun s8 a0 vh kL wL a1 KE uS h1 h2=>?_⟩
   ·have kQ:j'<s':=by
     obtain⟨e,he,kq⟩:=h
     have:=nk e (List.mem_of_getElem? he)
     have:=(List.getElem?_eq_some_iff.1 kq).1
     omega
    rw[<-mF,BJ hg g8]
    rcases Gd hj h with⟨rfl,h1⟩|⟨vC,h1⟩
    ·rw[if_pos (by omega),show oo+k'*s'+j' - (oo+k'*s')=j' by omega,<-e2,List.getElem?_map,h1]
     rfl
    ·rw[if_neg]
     ·exact q5 _ _ _ h1
     ·rintro⟨u1,u2⟩
      rcases Nat.lt_or_gt_of_ne vC with bX|xN
      ·have:(k'+1)*s'<=j*s':=Nat.mul_le_mul_right _ bX
       rw[Nat.add_mul] at this
       omega
      ·have:(j+1)*s'<=k'*s':=Nat.mul_le_mul_right _ xN
       rw[Nat.add_mul] at this
       omega
   ·rw[aR.kA] at aX⊢
    rcases aX with⟨_,h2⟩|⟨k',j',c',h1,h2⟩
    ·exact .inl ⟨q1,h2⟩
    ·exact absurd h2 ((Sep.lc (je k' j' c' h1)).2 b')
   ·rw[PC.dw]
    show fQ _=true
    rw[fQ,List.all_eq_true]
    intro e he
    obtain⟨e0,kP,rfl⟩:=List.mem_map.1 he
    rw[fi,List.all_eq_true]
    intro c0 ew
    obtain⟨c1,CH,rfl⟩:=List.mem_map.1 ew
    obtain⟨k',da⟩:=List.getElem?_of_mem kP
    obtain⟨j',kq⟩:=List.getElem?_of_mem CH
    exact je k' j' c1 ⟨e0,da,kq⟩
   ·injection h1 with a1 a2 a3 a4
    injection h2 with b1 b2 b3 b4
    subst a1 a2 a3 a4 b1 b2 b3 b4
    exact⟨rfl,rfl,rfl,by simp,fun h=>by cases h⟩
  have eP:∀b',b'≠b->w'.heap[b']? =w.heap[b']? :=fun b' aX=>by rw[<-mF];exact yN b' aX
  have lM:∀b',Cz w w' b':=fun b'=>by
   by_cases hb:b'=b
   ·subst hb;rw[<-mF];exact BK hg g8
   ·exact Cz.of_eq (eP b' hb)
  have tZ:w.heap.size<=w'.heap.size:=by rw[<-mF,qJ];exact Nat.le_refl _
  have bN:σ.h n≠none:=by rw[hn];simp
  have hbn:(G.g n).b≠b:=fun h=>H.live n gr rs xs hn b hF n bN aO h.symm
  obtain⟨ex,sk⟩:∃ex,xs[k]? =some ex:=by
   cases h:xs[k]? with
   |none=>rw[h] at g3;cases g3
   |some ex=>exact⟨ex,rfl⟩
  have aes:ar=xs.set k (ex.set off (PC.list s' (some (ad b oo)) c (py.set j pe)).er):=by
   rw[<-hx,PC.dw,List.map_set,e1,List.getD_eq_getElem?_getD,sk]
   rfl
  have Mt:=Uc H hn p1 rfl (fun _=>eP _ hbn) (fun k' j' c' h1 h2 b' aX=>eP b' (by rintro rfl;exact hr.mode.2.2 _ _ _ _ _ _ b' h1 p1 h2 aX fG)) A sk
  obtain⟨w5,K,_⟩:=H.Py (G':=⟨G.Im,av G.g n (yr (G.g n) (.nest n k off) (PC.list s' (some (ad b oo)) c (py.set j pe)))⟩) (h':=av σ.h n (some (.row gr .live rs ar))) (w':=w') (S:=fun m=>m=n) tZ
   (fun b' aX ct=>eP b' (by rintro rfl;exact ct n rfl (.inr hF))) (fun b' _=>lM b') rfl
   (fun m hm=>by subst hm;exact⟨gr,.live,rs,xs,ar,hn,bD _ _ _,by simp only[bD];rw[aes];exact Mt⟩)
   (fun m hm=>⟨cd _ _ _ _ hm,cd _ _ _ _ hm⟩)
  have r':=r.step (σ':=σ.dv n (.row gr .live rs ar)) rfl (fun _ h=>h) K w5 (r.fr.one hBE (fun b' _ aC=>eP b' aC) tZ (lM b) (by rw[<-mF];rfl) (by rw[<-mF];rfl) (by rw[<-mF];rfl))
  have bo:=IP (P:=P) (w:=w) (t:=t) (i:=i) (b:=b) (off:=oo+j*s') (v:=a.eval y) (cur:=cur) (e:=et) hi (by rw[bG,<-C2];simp) hg (by simpa using g8) (fun u hu=>by
   obtain⟨j,hj,CO⟩:=List.getElem_of_mem hu
   have tR:j<vs.length:=by omega
   exact(bQ.2 j _ u (List.getElem?_eq_getElem tR) (by rw[List.getElem?_eq_getElem hj,CO])).1)
  refine JB (w':=w') ?_ ⟨_,by rw[hd];exact r'⟩
  rw[<-mF]
  simp only[execOp,ho,p4]
  simp[Instr.storeAt,Instr.sureAddr,bo]
 ·cases hx
end
end Go.Am
