/- AmS: pointers into lists of live rows. No condition. -/
import Derived.Test.YtfkfmbhknekkdaaAmO
set_option linter.unusedVariables false
namespace Go.Am
section
variable {B:Nat} {E:Ex} {w0 w w':World} {G G':Gh} {N:Nat} {h h':Nat->Option ak} {used:Nat->Bool}
variable {P:Program} {o:Oper} {a:Act} {σ σ':St} {Q:Exit->Act->World->Prop}
theorem alp {n k au off sz len:Nat} {x:C} (hx:bS h (.bj n k au off sz len)=some x):∃gr xs,h n=some (.row gr .live au xs)/\(xs[k]?).bind (·[off]?)=some x:=by
 simp only[Am.bS] at hx
 split at hx
 ·rename_i gr rs xs hn
  split at hx
  ·rename_i hc
   subst hc
   exact⟨gr,xs,hn,hx⟩
  ·cases hx
 ·cases hx
theorem HR.Xf (H:HR B E w G h used []) {n k off au:Nat} {gr:Bool} {xs:List (List C)} (hn:h n=some (.row gr .live au xs)) {pc:PC} (bK:At (G.g n).px k off pc):
  (G.g n).nl=false/\Good w pc/\(xs[k]?).bind (·[off]?)=some pc.er:=by
 have hr:=H.row n gr .live au xs hn
 have aE:(G.g n).nl=false:=by
  cases hq:(G.g n).nl with
  |false=>rfl
  |true=>obtain⟨e,he,_⟩:=bK;rw[(hr.nl hq).1] at he;simp at he
 refine⟨aE,(hr.dv aE).2.1.2.2 _ _ _ bK,?_⟩
 obtain⟨e,he,hj⟩:=bK
 rw[hr.er]
 simp[he,hj]
theorem abG (r:R B E w0 N σ a w G) {t e:TypeId} {i:TypeInfo} {x y:Operand} {mx my:MO} {n k au off sz aC len:Nat} {q:Int} {ys:List (List C)} (ho:o.op=.indexAddr t x y) (hN:∀n,o.dst=some n->n<N) (iz:bi x mx=true) (iK:bi y my=true)
  (ht:P.underlying t=some (.slice e)) (hi:P.info? e=some i) (bo:i.size=sz) (hq:(σ.ev my).cZ=some q) (h0:0<=q) (h1:q<(ys.length:Int))
  (hx:σ.ev mx=.one (.bj n k au off aC len)) (hv:bS σ.h (.bj n k au off aC len)=some (.list sz ys)):
  o.wp P a w (Nx B E w0 N (σ.put o.dst (.one (.cH n k au off sz q.toNat)))) Q:=by
 obtain⟨x1,x2⟩:=r.ev iz
 obtain⟨kk,ey⟩:=(r.ev iK).1.int hq
 rw[hx] at x1 x2
 obtain⟨gr,xs,hn,hb⟩:=alp hv
 obtain⟨pc,p1,p2,p3⟩:=(x1.eB (by simp)).1 gr xs hn
 obtain⟨g1,g2,g3⟩:=r.hr.Xf hn p1
 rw[hb] at g3
 injection g3 with g3
 cases pc with
 |int k n=>simp[PC.er] at g3
 |bool b=>simp[PC.er] at g3
 |list s' ya c py=>
  rw[PC.du] at g3
  injection g3 with e1 e2
  subst e1
  have hl:ys.length=py.length:=by rw[e2];simp
  have dB:q<(py.length:Int):=by omega
  have pO:PC.val (.list sz ya c py)=.slice ya py.length c:=rfl
  generalize me:PC.list sz ya c py=p at g2
  cases g2 with
  |int k n=>cases me
  |bool b=>cases me
  |nil _ _ _ _=>injection me with _ _ _ e4;subst e4;simp at dB;omega
  |cons _ b oo _ _ q1 q2 q3 q4 q5 q6=>
   injection me with f1 f2 f3 f4
   subst f1 f2 f3 f4
   refine fH r (v:=.pointer (some (ad b (oo+q.toNat*sz)))) ?_ ?_ (fun m hm=>x2 m hm) hN
   ·simp only[execOp,ho,<-p2,PC.val,ey]
    simp[OH ht hi bo h0 dB]
   ·refine RA.fi rfl fun aU ao bC=>?_
    exact⟨_,b,oo,py.length,c,p1,rfl,rfl,rfl⟩
theorem Se:∀{vs:List ae} {cs:List C} {us:List Value},jA vs=some cs->cL w G h vs us->∃pe:List PC,pe.map PC.er=cs/\pe.map PC.val=us/\pe.length=vs.length/\∀c∈pe,c.er.dX=true
 |[],cs,us,hx,hr=>by
  simp only[jA] at hx
  injection hx with hx
  subst hx
  have:us=[]:=List.eq_nil_of_length_eq_zero hr.1
  subst this
  exact⟨[],rfl,rfl,rfl,by simp⟩
 |c::vs,cs,us,hx,hr=>by
  match us,hr with
  |[],hr=>exact absurd hr.1 (by simp)
  |u::us,hr=>
  cases c with
  |c x=>
   simp only[jA] at hx
   split at hx
   ·rename_i hs
    cases hd:jA vs with
    |none=>rw[hd] at hx;cases hx
    |some l=>
     rw[hd] at hx
     injection hx with hx
     subst hx
     obtain⟨pe,e1,e2,e3,e4⟩:=Se (us:=us) hd ⟨by have:=hr.1;simpa using this,fun j c u hj hu=>hr.2 (j+1) c u (by simpa using hj) (by simpa using hu)⟩
     obtain⟨_,pc,q1,q2,_⟩:=hr.2 0 _ u rfl rfl
     refine⟨pc::pe,by simp[e1,q1],by simp[e2,q2],by simp[e3],fun c hc=>?_⟩
     rcases List.mem_cons.1 hc with rfl|hc
     ·rw[q1];exact hs
     ·exact e4 c hc
   ·cases hx
  |nil _=>simp[jA] at hx
  |ptr _ _ _ _=>simp[jA] at hx
  |bV _ _=>simp[jA] at hx
  |bD _ _ _ _ _ _=>simp[jA] at hx
  |sl _ _ _ _=>simp[jA] at hx
  |bj _ _ _ _ _ _=>simp[jA] at hx
  |cH _ _ _ _ _ _=>simp[jA] at hx
  |fn _ _=>simp[jA] at hx
  |bg=>simp[jA] at hx
theorem Good.jI {c:PC} (hs:c.er.dX=true):Good w c:=by
 cases c with
 |int k n=>exact .int k n
 |bool b=>exact .bool b
 |list s a cap xs=>rw[PC.du] at hs;cases hs
theorem abR (r:R B E w0 N σ a w G) {t:TypeId} {i:TypeInfo} {x y:Operand} {mx my:MO} {sz n k rs off s j:Nat} {ag gr:Bool} {xs ao:List (List C)} {vs:List ae} (ho:o.op=.store t x y) (hd:o.dst=none) (iz:bi x mx=true) (iK:bi y my=true)
  (hi:P.info? t=some i) (bo:i.size=sz) (ic:0<sz) (hp:σ.ev mx=.one (.cH n k rs off s j)) (hv:(σ.ev my).cells?=some (ag,vs)) (hl:vs.length=sz) (hn:σ.h n=some (.row gr .live rs xs))
  (hx:s9 xs k off s j vs=some ao):o.wp P a w (Nx B E w0 N (σ.df n (.row gr .live rs ao))) Q:=by
 have H:=r.hr
 obtain⟨x1,_⟩:=r.ev iz
 obtain⟨y1,y2⟩:=r.ev iK
 rw[hp] at x1
 obtain⟨pc,b,oo,len,cap,p1,p2,p3,p4⟩:=(x1.eB (by simp)).1 gr xs hn
 obtain⟨aE,g2,g3⟩:=H.Xf hn p1
 have hr:=H.row n gr .live rs xs hn
 unfold s9 at hx
 rw[g3] at hx
 have bq:=y1.cells hv
 have BW:(a.eval y).cells.toList.length=sz:=by rw[bq.1,hl]
 cases pc with
 |int kk nn=>simp[PC.er] at hx
 |bool bb=>simp[PC.er] at hx
 |list s' ya c py=>
 rw[PC.du] at hx
 simp only at hx
 split at hx
 ·rename_i cm
  obtain⟨rfl,od,hj,qV⟩:=cm
  cases Fi:jA vs with
  |none=>rw[Fi] at hx;cases hx
  |some cs=>
  rw[Fi] at hx
  injection hx with hx
  obtain⟨pe,e1,e2,e3,e4⟩:=Se Fi bq
  have hj:j<py.length:=by simpa using hj
  have Fx:pe.length=s':=by omega
  have BX:PC.val (.list s' ya c py)=.slice ya py.length c:=rfl
  rw[BX] at p2
  injection p2 with f1 f2 f3
  subst f1 f2 f3
  generalize me:PC.list s' (some (ad b oo)) c py=p at g2
  cases g2 with
  |int k n=>cases me
  |bool b=>cases me
  |nil _ _ _ _=>injection me with _ _ _ e4;subst e4;simp at hj
  |cons _ b' oo' _ _ q1 q2 q3 q4 q5 q6=>
  injection me with f1 f2 f3 f4
  injection f2 with f2
  obtain⟨rfl,rfl⟩:=lg f2
  subst f1 f3 f4
  have fu:aM b (PC.list s' (some (ad b oo)) c py):=.here _ _ _ _ q1
  have hF:aN b (G.g n).px:=⟨k,off,_,p1,fu⟩
  obtain⟨alM,⟨cur,et,hg⟩,hBE⟩:=hr.mode.1 b hF
  have fJ:oo+j*s'+(a.eval y).cells.toList.length<=cur.size:=by
   have h2:(py[j]'hj).length=s':=q4 _ (List.getElem_mem hj)
   have hc:=q5 j (s' - 1) ((py[j]'hj)[s' - 1]'(by omega)) ⟨_,List.getElem?_eq_getElem hj,List.getElem?_eq_getElem _⟩
   have:=AS hg hc
   omega
  have ib:∀k' j' c',At (py.set j pe) k' j' c'->c'.er.dX=true:=by
   intro k' j' c' h
   rcases Eg hj h with⟨rfl,h1⟩|⟨_,h1⟩
   ·exact e4 c' (List.mem_of_getElem? h1)
   ·obtain⟨e,he,jd⟩:=h1
    have h6:=List.all_eq_true.1 qV (e.map PC.er) (by simp only[List.mem_map];exact⟨e,List.mem_of_getElem? he,rfl⟩)
    exact List.all_eq_true.1 h6 c'.er (by simp only[List.mem_map];exact⟨c',List.mem_of_getElem? jd,rfl⟩)
  have av:py.set j pe≠[]:=by
   intro h
   have:=congrArg List.length h
   simp at this
   rw[this] at hj
   simp at hj
  have ly:∀e∈py.set j pe,e.length=s':=by
   intro e he
   rcases List.mem_or_eq_of_mem_set he with he|rfl
   ·exact q4 e he
   ·exact Fx
  generalize kN:dY w b (oo+j*s') (a.eval y).cells.toList cur=w'
  have A:qt w' .aj (PC.list s' (some (ad b oo)) c py) (PC.list s' (some (ad b oo)) c (py.set j pe)):=by
   refine⟨by simp[PC.val],.cons _ _ _ _ _ av (by simpa using q2) q3 ly (fun k' j' c' h=>?_) (fun k' j' c' h=>Good.jI (ib k' j' c' h)),.list _ _ _ _ (fun k' j' c' h=>(Sep.jI (ib k' j' c' h)).1) (fun b' o' k' j' c' _ h=>(Sep.jI (ib k' j' c' h)).2 b')
    (fun k1 j1 c1 k2 j2 c2 b' h _ _ hb=>absurd hb ((Sep.jI (ib k1 j1 c1 h)).2 b')),fun b' aL=>?_,?_,fun rF a0 tF ju qf a1 x9 oW h1 h2=>?_⟩
   ·have jC:j'<s':=by
     obtain⟨e,he,jd⟩:=h
     have:=ly e (List.mem_of_getElem? he)
     have:=(List.getElem?_eq_some_iff.1 jd).1
     omega
    rw[<-kN,Ap hg fJ]
    rcases Eg hj h with⟨rfl,h1⟩|⟨tV,h1⟩
    ·rw[if_pos (by omega),show oo+k'*s'+j' - (oo+k'*s')=j' by omega,<-e2,List.getElem?_map,h1]
     rfl
    ·rw[if_neg]
     ·exact q5 _ _ _ h1
     ·rintro⟨u1,u2⟩
      rcases Nat.lt_or_gt_of_ne tV with bB|wi
      ·have:(k'+1)*s'<=j*s':=Nat.mul_le_mul_right _ bB
       rw[Nat.add_mul] at this
       omega
      ·have:(j+1)*s'<=k'*s':=Nat.mul_le_mul_right _ wi
       rw[Nat.add_mul] at this
       omega
   ·rw[aM.jk] at aL⊢
    rcases aL with⟨_,h2⟩|⟨k',j',c',h1,h2⟩
    ·exact .inl ⟨q1,h2⟩
    ·exact absurd h2 ((Sep.jI (ib k' j' c' h1)).2 b')
   ·rw[PC.du]
    show fB _=true
    rw[fB,List.all_eq_true]
    intro e he
    obtain⟨e0,jB,rfl⟩:=List.mem_map.1 he
    rw[eW,List.all_eq_true]
    intro c0 dL
    obtain⟨c1,Bz,rfl⟩:=List.mem_map.1 dL
    obtain⟨k',cC⟩:=List.getElem?_of_mem jB
    obtain⟨j',jd⟩:=List.getElem?_of_mem Bz
    exact ib k' j' c1 ⟨e0,cC,jd⟩
   ·injection h1 with a1 a2 a3 a4
    injection h2 with b1 b2 b3 b4
    subst a1 a2 a3 a4 b1 b2 b3 b4
    exact⟨rfl,rfl,rfl,by simp,fun h=>by cases h⟩
  have dk:∀b',b'≠b->w'.heap[b']? =w.heap[b']? :=fun b' aL=>by rw[<-kN];exact xw b' aL
  have jY:∀b',Cz w w' b':=fun b'=>by
   by_cases hb:b'=b
   ·subst hb;rw[<-kN];exact Aq hg fJ
   ·exact Cz.of_eq (dk b' hb)
  have sF:w.heap.size<=w'.heap.size:=by rw[<-kN,oU];exact Nat.le_refl _
  have bJ:σ.h n≠none:=by rw[hn];simp
  have hbn:(G.g n).b≠b:=fun h=>H.live n gr rs xs hn b hF n bJ aE h.symm
  obtain⟨ex,n7⟩:∃ex,xs[k]? =some ex:=by
   cases h:xs[k]? with
   |none=>rw[h] at g3;cases g3
   |some ex=>exact⟨ex,rfl⟩
  have adz:ao=xs.set k (ex.set off (PC.list s' (some (ad b oo)) c (py.set j pe)).er):=by
   rw[<-hx,PC.du,List.map_set,e1,List.getD_eq_getElem?_getD,n7]
   rfl
  have KA:=RG H hn p1 rfl (fun _=>dk _ hbn) (fun k' j' c' h1 h2 b' aL=>dk b' (by rintro rfl;exact hr.mode.2.2 _ _ _ _ _ _ b' h1 p1 h2 aL fu)) A n7
  obtain⟨rM,K,_⟩:=H.Gm (G':=⟨G.Im,aq G.g n (uF (G.g n) (.nest n k off) (PC.list s' (some (ad b oo)) c (py.set j pe)))⟩) (h':=aq σ.h n (some (.row gr .live rs ao))) (w':=w') (S:=fun m=>m=n) sF
   (fun b' aL cq=>dk b' (by rintro rfl;exact cq n rfl (.inr hF))) (fun b' _=>jY b') rfl
   (fun m hm=>by subst hm;exact⟨gr,.live,rs,xs,ao,hn,bu _ _ _,by simp only[bu];rw[adz];exact KA⟩)
   (fun m hm=>⟨cd _ _ _ _ hm,cd _ _ _ _ hm⟩)
  have r':=r.step (σ':=σ.df n (.row gr .live rs ao)) rfl (fun _ h=>h) K rM (r.fr.one hBE (fun b' _ av=>dk b' av) sF (jY b) (by rw[<-kN];rfl) (by rw[<-kN];rfl) (by rw[<-kN];rfl))
  have bH:=GN (P:=P) (w:=w) (t:=t) (i:=i) (b:=b) (off:=oo+j*s') (v:=a.eval y) (cur:=cur) (e:=et) hi (by rw[bo,<-BW];simp) hg (by simpa using fJ) (fun u hu=>by
   obtain⟨j,hj,BL⟩:=List.getElem_of_mem hu
   have sB:j<vs.length:=by omega
   exact(bq.2 j _ u (List.getElem?_eq_getElem sB) (by rw[List.getElem?_eq_getElem hj,BL])).1)
  refine HN (w':=w') ?_ ⟨_,by rw[hd];exact r'⟩
  rw[<-kN]
  simp only[execOp,ho,p4]
  simp[Instr.storeAt,Instr.sureAddr,bH]
 ·cases hx
end
end Go.Am
