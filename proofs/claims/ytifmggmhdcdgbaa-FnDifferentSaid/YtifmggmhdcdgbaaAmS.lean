/- AmS: pointers into lists of live rows. No condition. -/
import Derived.Test.YtifmggmhdcdgbaaAmO
set_option linter.unusedVariables false
namespace Go.Am
section
variable {B:Nat} {E:Ex} {w0 w w':World} {G G':Gh} {N:Nat} {h h':Nat->Option ar} {used:Nat->Bool}
variable {P:Program} {o:Oper} {a:Act} {σ σ':St} {Q:Exit->Act->World->Prop}
theorem aoJ {n k az off sz len:Nat} {x:C} (hx:bR h (.bx n k az off sz len)=some x):∃gr xs,h n=some (.row gr .live az xs)/\(xs[k]?).bind (·[off]?)=some x:=by
 simp only[Am.bR] at hx
 split at hx
 ·rename_i gr rs xs hn
  split at hx
  ·rename_i hc
   subst hc
   exact⟨gr,xs,hn,hx⟩
  ·cases hx
 ·cases hx
theorem HR.aat (H:HR B E w G h used []) {n k off az:Nat} {gr:Bool} {xs:List (List C)} (hn:h n=some (.row gr .live az xs)) {pc:PC} (bI:At (G.g n).px k off pc):
  (G.g n).nl=false/\Good w pc/\(xs[k]?).bind (·[off]?)=some pc.er:=by
 have hr:=H.row n gr .live az xs hn
 have aM:(G.g n).nl=false:=by
  cases hq:(G.g n).nl with
  |false=>rfl
  |true=>obtain⟨e,he,_⟩:=bI;rw[(hr.nl hq).1] at he;simp at he
 refine⟨aM,(hr.dD aM).2.1.2.2 _ _ _ bI,?_⟩
 obtain⟨e,he,hj⟩:=bI
 rw[hr.er]
 simp[he,hj]
theorem aek (r:R B E w0 N σ a w G) {t e:TypeId} {i:TypeInfo} {x y:Operand} {mx my:MO} {n k az off sz aK len:Nat} {q:Int} {ys:List (List C)} (ho:o.op=.indexAddr t x y) (hN:∀n,o.dst=some n->n<N) (iV:bw x mx=true) (iv:bw y my=true)
  (ht:P.underlying t=some (.slice e)) (hi:P.info? e=some i) (bD:i.size=sz) (hq:(σ.ev my).cY=some q) (h0:0<=q) (h1:q<(ys.length:Int))
  (hx:σ.ev mx=.one (.bx n k az off aK len)) (hv:bR σ.h (.bx n k az off aK len)=some (.list sz ys)):
  o.wp P a w (Nx B E w0 N (σ.put o.dst (.one (.cD n k az off sz q.toNat)))) Q:=by
 obtain⟨x1,x2⟩:=r.ev iV
 obtain⟨kk,ey⟩:=(r.ev iv).1.int hq
 rw[hx] at x1 x2
 obtain⟨gr,xs,hn,hb⟩:=aoJ hv
 obtain⟨pc,p1,p2,p3⟩:=(x1.fq (by simp)).1 gr xs hn
 obtain⟨g1,g2,g3⟩:=r.hr.aat hn p1
 rw[hb] at g3
 injection g3 with g3
 cases pc with
 |int k n=>simp[PC.er] at g3
 |bool b=>simp[PC.er] at g3
 |list s' ya c py=>
  rw[PC.dz] at g3
  injection g3 with e1 e2
  subst e1
  have hl:ys.length=py.length:=by rw[e2];simp
  have dQ:q<(py.length:Int):=by omega
  have AW:PC.val (.list sz ya c py)=.slice ya py.length c:=rfl
  generalize nL:PC.list sz ya c py=p at g2
  cases g2 with
  |int k n=>cases nL
  |bool b=>cases nL
  |nil _ _ _ _=>injection nL with _ _ _ e4;subst e4;simp at dQ;omega
  |cons _ b oo _ _ q1 q2 q3 q4 q5 q6=>
   injection nL with f1 f2 f3 f4
   subst f1 f2 f3 f4
   refine gf r (v:=.pointer (some (ad b (oo+q.toNat*sz)))) ?_ ?_ (fun m hm=>x2 m hm) hN
   ·simp only[execOp,ho,<-p2,PC.val,ey]
    simp[S7 ht hi bD h0 dQ]
   ·refine RA.gb rfl fun bk av bm=>?_
    exact⟨_,b,oo,py.length,c,p1,rfl,rfl,rfl⟩
theorem Wv:∀{vs:List ai} {cs:List C} {us:List Value},lf vs=some cs->cA w G h vs us->∃pe:List PC,pe.map PC.er=cs/\pe.map PC.val=us/\pe.length=vs.length/\∀c∈pe,c.er.d7=true
 |[],cs,us,hx,hr=>by
  simp only[lf] at hx
  injection hx with hx
  subst hx
  have:us=[]:=List.eq_nil_of_length_eq_zero hr.1
  subst this
  exact⟨[],rfl,rfl,rfl,by simp⟩
 |c::vs,cs,us,hx,hr=>by
  match us,hr with
  |[],hr=>exact absurd hr.1 (by simp)
  |u::us,hr=>
  cases c with
  |c x=>
   simp only[lf] at hx
   split at hx
   ·rename_i hs
    cases hd:lf vs with
    |none=>rw[hd] at hx;cases hx
    |some l=>
     rw[hd] at hx
     injection hx with hx
     subst hx
     obtain⟨pe,e1,e2,e3,e4⟩:=Wv (us:=us) hd ⟨by have:=hr.1;simpa using this,fun j c u hj hu=>hr.2 (j+1) c u (by simpa using hj) (by simpa using hu)⟩
     obtain⟨_,pc,q1,q2,_⟩:=hr.2 0 _ u rfl rfl
     refine⟨pc::pe,by simp[e1,q1],by simp[e2,q2],by simp[e3],fun c hc=>?_⟩
     rcases List.mem_cons.1 hc with rfl|hc
     ·rw[q1];exact hs
     ·exact e4 c hc
   ·cases hx
  |nil _=>simp[lf] at hx
  |ptr _ _ _ _=>simp[lf] at hx
  |ca _ _=>simp[lf] at hx
  |sl _ _ _ _=>simp[lf] at hx
  |bx _ _ _ _ _ _=>simp[lf] at hx
  |cD _ _ _ _ _ _=>simp[lf] at hx
  |fn _ _=>simp[lf] at hx
  |bh=>simp[lf] at hx
theorem Good.kK {c:PC} (hs:c.er.d7=true):Good w c:=by
 cases c with
 |int k n=>exact .int k n
 |bool b=>exact .bool b
 |list s a cap xs=>rw[PC.dz] at hs;cases hs
theorem aer (r:R B E w0 N σ a w G) {t:TypeId} {i:TypeInfo} {x y:Operand} {mx my:MO} {sz n k rs off s j:Nat} {ag gr:Bool} {xs av:List (List C)} {vs:List ai} (ho:o.op=.store t x y) (hd:o.dst=none) (iV:bw x mx=true) (iv:bw y my=true)
  (hi:P.info? t=some i) (bD:i.size=sz) (iZ:0<sz) (hp:σ.ev mx=.one (.cD n k rs off s j)) (hv:(σ.ev my).cells?=some (ag,vs)) (hl:vs.length=sz) (hn:σ.h n=some (.row gr .live rs xs))
  (hx:vg xs k off s j vs=some av):o.wp P a w (Nx B E w0 N (σ.dc n (.row gr .live rs av))) Q:=by
 have H:=r.hr
 obtain⟨x1,_⟩:=r.ev iV
 obtain⟨y1,y2⟩:=r.ev iv
 rw[hp] at x1
 obtain⟨pc,b,oo,len,cap,p1,p2,p3,p4⟩:=(x1.fq (by simp)).1 gr xs hn
 obtain⟨aM,g2,g3⟩:=H.aat hn p1
 have hr:=H.row n gr .live rs xs hn
 unfold vg at hx
 rw[g3] at hx
 have bN:=y1.cells hv
 have D9:(a.eval y).cells.toList.length=sz:=by rw[bN.1,hl]
 cases pc with
 |int kk nn=>simp[PC.er] at hx
 |bool bb=>simp[PC.er] at hx
 |list s' ya c py=>
 rw[PC.dz] at hx
 simp only at hx
 split at hx
 ·rename_i cu
  obtain⟨rfl,iz,hj,sF⟩:=cu
  cases Od:lf vs with
  |none=>rw[Od] at hx;cases hx
  |some cs=>
  rw[Od] at hx
  injection hx with hx
  obtain⟨pe,e1,e2,e3,e4⟩:=Wv Od bN
  have hj:j<py.length:=by simpa using hj
  have IM:pe.length=s':=by omega
  have Ea:PC.val (.list s' ya c py)=.slice ya py.length c:=rfl
  rw[Ea] at p2
  injection p2 with f1 f2 f3
  subst f1 f2 f3
  generalize nL:PC.list s' (some (ad b oo)) c py=p at g2
  cases g2 with
  |int k n=>cases nL
  |bool b=>cases nL
  |nil _ _ _ _=>injection nL with _ _ _ e4;subst e4;simp at hj
  |cons _ b' oo' _ _ q1 q2 q3 q4 q5 q6=>
  injection nL with f1 f2 f3 f4
  injection f2 with f2
  obtain⟨rfl,rfl⟩:=nz f2
  subst f1 f3 f4
  have fh:aP b (PC.list s' (some (ad b oo)) c py):=.here _ _ _ _ q1
  have hF:aS b (G.g n).px:=⟨k,off,_,p1,fh⟩
  obtain⟨ao0,⟨cur,et,hg⟩,hBE⟩:=hr.mode.1 b hF
  have gO:oo+j*s'+(a.eval y).cells.toList.length<=cur.size:=by
   have h2:(py[j]'hj).length=s':=q4 _ (List.getElem_mem hj)
   have hc:=q5 j (s' - 1) ((py[j]'hj)[s' - 1]'(by omega)) ⟨_,List.getElem?_eq_getElem hj,List.getElem?_eq_getElem _⟩
   have:=C5 hg hc
   omega
  have iY:∀k' j' c',At (py.set j pe) k' j' c'->c'.er.d7=true:=by
   intro k' j' c' h
   rcases Hx hj h with⟨rfl,h1⟩|⟨_,h1⟩
   ·exact e4 c' (List.mem_of_getElem? h1)
   ·obtain⟨e,he,iU⟩:=h1
    have h6:=List.all_eq_true.1 sF (e.map PC.er) (by simp only[List.mem_map];exact⟨e,List.mem_of_getElem? he,rfl⟩)
    exact List.all_eq_true.1 h6 c'.er (by simp only[List.mem_map];exact⟨c',List.mem_of_getElem? iU,rfl⟩)
  have ax:py.set j pe≠[]:=by
   intro h
   have:=congrArg List.length h
   simp at this
   rw[this] at hj
   simp at hj
  have mN:∀e∈py.set j pe,e.length=s':=by
   intro e he
   rcases List.mem_or_eq_of_mem_set he with he|rfl
   ·exact q4 e he
   ·exact IM
  generalize mb:d8 w b (oo+j*s') (a.eval y).cells.toList cur=w'
  have A:vG w' .ab (PC.list s' (some (ad b oo)) c py) (PC.list s' (some (ad b oo)) c (py.set j pe)):=by
   refine⟨by simp[PC.val],.cons _ _ _ _ _ ax (by simpa using q2) q3 mN (fun k' j' c' h=>?_) (fun k' j' c' h=>Good.kK (iY k' j' c' h)),.list _ _ _ _ (fun k' j' c' h=>(Sep.kK (iY k' j' c' h)).1) (fun b' o' k' j' c' _ h=>(Sep.kK (iY k' j' c' h)).2 b')
    (fun k1 j1 c1 k2 j2 c2 b' h _ _ hb=>absurd hb ((Sep.kK (iY k1 j1 c1 h)).2 b')),fun b' aT=>?_,?_,fun tN a0 vR km xx a1 Mk vr h1 h2=>?_⟩
   ·have kv:j'<s':=by
     obtain⟨e,he,iU⟩:=h
     have:=mN e (List.mem_of_getElem? he)
     have:=(List.getElem?_eq_some_iff.1 iU).1
     omega
    rw[<-mb,CI hg gO]
    rcases Hx hj h with⟨rfl,h1⟩|⟨wu,h1⟩
    ·rw[if_pos (by omega),show oo+k'*s'+j' - (oo+k'*s')=j' by omega,<-e2,List.getElem?_map,h1]
     rfl
    ·rw[if_neg]
     ·exact q5 _ _ _ h1
     ·rintro⟨u1,u2⟩
      rcases Nat.lt_or_gt_of_ne wu with bH|yG
      ·have:(k'+1)*s'<=j*s':=Nat.mul_le_mul_right _ bH
       rw[Nat.add_mul] at this
       omega
      ·have:(j+1)*s'<=k'*s':=Nat.mul_le_mul_right _ yG
       rw[Nat.add_mul] at this
       omega
   ·rw[aP.ka] at aT⊢
    rcases aT with⟨_,h2⟩|⟨k',j',c',h1,h2⟩
    ·exact .inl ⟨q1,h2⟩
    ·exact absurd h2 ((Sep.kK (iY k' j' c' h1)).2 b')
   ·rw[PC.dz]
    show fN _=true
    rw[fN,List.all_eq_true]
    intro e he
    obtain⟨e0,ku,rfl⟩:=List.mem_map.1 he
    rw[fe,List.all_eq_true]
    intro c0 dY
    obtain⟨c1,DK,rfl⟩:=List.mem_map.1 dY
    obtain⟨k',cX⟩:=List.getElem?_of_mem ku
    obtain⟨j',iU⟩:=List.getElem?_of_mem DK
    exact iY k' j' c1 ⟨e0,cX,iU⟩
   ·injection h1 with a1 a2 a3 a4
    injection h2 with b1 b2 b3 b4
    subst a1 a2 a3 a4 b1 b2 b3 b4
    exact⟨rfl,rfl,rfl,by simp,fun h=>by cases h⟩
  have eF:∀b',b'≠b->w'.heap[b']? =w.heap[b']? :=fun b' aT=>by rw[<-mb];exact zC b' aT
  have lv:∀b',Cz w w' b':=fun b'=>by
   by_cases hb:b'=b
   ·subst hb;rw[<-mb];exact CJ hg gO
   ·exact Cz.of_eq (eF b' hb)
  have uE:w.heap.size<=w'.heap.size:=by rw[<-mb,qK];exact Nat.le_refl _
  have bJ:σ.h n≠none:=by rw[hn];simp
  have N2:(G.g n).b≠b:=fun h=>H.live n gr rs xs hn b hF n bJ aM h.symm
  obtain⟨ex,sy⟩:∃ex,xs[k]? =some ex:=by
   cases h:xs[k]? with
   |none=>rw[h] at g3;cases g3
   |some ex=>exact⟨ex,rfl⟩
  have agE:av=xs.set k (ex.set off (PC.list s' (some (ad b oo)) c (py.set j pe)).er):=by
   rw[<-hx,PC.dz,List.map_set,e1,List.getD_eq_getElem?_getD,sy]
   rfl
  have N8:=V1 H hn p1 rfl (fun _=>eF _ N2) (fun k' j' c' h1 h2 b' aT=>eF b' (by rintro rfl;exact hr.mode.2.2 _ _ _ _ _ _ b' h1 p1 h2 aT fh)) A sy
  obtain⟨xP,K,_⟩:=H.Rr (G':=⟨G.Im,aw G.g n (za (G.g n) (.nest n k off) (PC.list s' (some (ad b oo)) c (py.set j pe)))⟩) (h':=aw σ.h n (some (.row gr .live rs av))) (w':=w') (S:=fun m=>m=n) uE
   (fun b' aT cb=>eF b' (by rintro rfl;exact cb n rfl (.inr hF))) (fun b' _=>lv b') rfl
   (fun m hm=>by subst hm;exact⟨gr,.live,rs,xs,av,hn,bA _ _ _,by simp only[bA];rw[agE];exact N8⟩)
   (fun m hm=>⟨bZ _ _ _ _ hm,bZ _ _ _ _ hm⟩)
  have r':=r.step (σ':=σ.dc n (.row gr .live rs av)) rfl (fun _ h=>h) K xP (r.fr.one hBE (fun b' _ ax=>eF b' ax) uE (lv b) (by rw[<-mb];rfl) (by rw[<-mb];rfl) (by rw[<-mb];rfl))
  have bq:=KI (P:=P) (w:=w) (t:=t) (i:=i) (b:=b) (off:=oo+j*s') (v:=a.eval y) (cur:=cur) (e:=et) hi (by rw[bD,<-D9];simp) hg (by simpa using gO) (fun u hu=>by
   obtain⟨j,hj,DS⟩:=List.getElem_of_mem hu
   have uA:j<vs.length:=by omega
   exact(bN.2 j _ u (List.getElem?_eq_getElem uA) (by rw[List.getElem?_eq_getElem hj,DS])).1)
  refine Ls (w':=w') ?_ ⟨_,by rw[hd];exact r'⟩
  rw[<-mb]
  simp only[execOp,ho,p4]
  simp[Instr.storeAt,Instr.sureAddr,bq]
 ·cases hx
end
end Go.Am
