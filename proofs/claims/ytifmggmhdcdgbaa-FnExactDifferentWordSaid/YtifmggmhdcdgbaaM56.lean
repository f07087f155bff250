/- M56: the first word whose weights differ. No condition. -/
import Derived.Test.YtifmggmhdcdgbaaM53
set_option linter.unusedVariables false
set_option linter.unusedSimpArgs false
namespace Go.Am
def xB (x y:bX):bX:=y7 x y (x.1 - 1)
def xC (x y:bX):Wd×Bool:=match(nP (xB x y)).1.find? (fun w=>decide (ql (xB x y,w)≠0)) with
 |some w=>(w,true)
 |none=>([],false)
def rC:bX×bX->Option (List Int×Bool):=fun(x:bX×bX)=>if ff x.1<=1048576/\ff x.2<=1048576 then some (if nd x.1 x.2=true then xC x.1 x.2 else([],false)) else none
def w6:bX×bX->Option (List Int×Bool):=rC
def FL:ao:=[(.agg,[.int .i64,.int .i64,.list [.int .i64],.list [.int .i64,.int .i64,.list [.int .i64]],.list [.int .i64]]),(.agg,[.int .i64,.int .i64,.list [.int .i64],.list [.int .i64,.int .i64,.list [.int .i64]],.list [.int .i64]])]
def Rq:ao:=[(.one,[.list [.int .i64]]),(.one,[.bool])]
def ajI:aY:=[]
def Gr:ao:=[(.agg,[.int .i64,.int .i64,.list [.int .i64],.list [.int .i64,.int .i64,.list [.int .i64]],.list [.int .i64]]),(.agg,[.int .i64,.int .i64,.list [.int .i64],.list [.int .i64,.int .i64,.list [.int .i64]],.list [.int .i64]])]
def R8:ao:=[(.one,[.list [.int .i64]]),(.one,[.bool])]
def akd:aY:=[]
def Cd (NN:Nat):((Int×(Int×((List Int)×((List (Int×(Int×(List Int))))×(List Int)))))×(Int×(Int×((List Int)×((List (Int×(Int×(List Int))))×(List Int))))))->(Option ((List Int)×Bool)):=
 (fun(((i0,i1,l2,l3,l4),i5,i6,l7,l8,l9):((Int×(Int×((List Int)×((List (Int×(Int×(List Int))))×(List Int)))))×(Int×(Int×((List Int)×((List (Int×(Int×(List Int))))×(List Int)))))))=>
 (td ((i0,i1,l2,l3,l4),i5,i6,l7,l8,l9)).U (fun j5=>
 aw (dY j5)
 (some (([]:List Int),false))
 ((xa ((i0,i1,l2,l3,l4),i5,i6,l7,l8,l9)).U (fun(cF,cU,hY,fW,cg)=>
 bL ((ab 0 (J hY) (J hY)).U (fun _=>
 (ab 0 (J fW) (J fW)).U (fun _=>
 (ab 0 (J cg) (J cg)).U (fun _=>
 bd NN (fun((eM,(jk,fj,fM,fy,km),(jl,jG),fz,eE,dM):(Int×((Int×(Int×((List Int)×((List (Int×(Int×(List Int))))×(List Int)))))×((Int×Int)×((List Int)×((List (Int×(Int×(List Int))))×(List Int)))))))=>
 aw (bi eM jG)
 ((dU eM (J dM)).U (fun k27=>
 (db dM (aH 0 k27)).U (fun gR=>
 (fD (jR .i64 jk gR) jk).U (fun sa=>
 (dU eM (J dM)).U (fun OV=>
 (db dM (aH 0 OV)).U (fun iQ=>
 (ab 0 (J fz) (J fz)).U (fun _=>
 (ab 0 (J eE) (J eE)).U (fun _=>
 (ab 0 (J dM) (J (cb dM (aH 0 OV) sa))).U (fun _=>
 some (Sum.inl (aW .i64 eM 1,(jk,fj,fM,fy,km),(jl,jG),fz,eE,cb dM (aH 0 OV) sa)))))))))))
 (((ab 0 (J fz) (J fz)).U (fun _=>
 (ab 0 (J eE) (J eE)).U (fun _=>
 (ab 0 (J dM) (J dM)).U (fun _=>
 some (Sum.inl ((jl,jG),fz,eE,dM)))))).U (fun dc=>
 some (Sum.inr dc))))
 (i1,(i0,i1,l2,l3,l4),(cF,cU),hY,fW,cg)))))
 (fun((pF,nw),lP,jM,dC)=>
 (cP lP (J lP)).U (fun gj=>
 (cP jM (J jM)).U (fun fa=>
 (cP dC (J dC)).U (fun eV=>
 (zk (pF,nw,gj,fa,eV)).U (fun(kt,ki,iR,PE)=>
 bL (bd NN (fun(((wi,oD,g9),jm,oE,oK,wj,sN):(((List (List Int))×(Int×Int))×(Int×(Int×((List Int)×((List (Int×(Int×(List Int))))×(List Int)))))))=>
 aw (bi g9 oD)
 ((dk wi g9).U (fun lc=>
 (xb ((jm,oE,oK,wj,sN),lc)).U (fun t8=>
 aw (dd t8 (0:Int))
 ((jY lc).U (fun dP=>
 (((cP dP (J dP)).U (fun lQ=>
 some (lQ,true))).U (fun((nE,b58):((List Int)×Bool))=>
 some (Sum.inr (nE,b58)))).U (fun pO=>
 some (Sum.inr pO))))
 (some (Sum.inl ((wi,oD,aW .i64 g9 1),jm,oE,oK,wj,sN))))))
 (some (Sum.inr (Sum.inl ()))))
 ((kt,aM (J kt),(0:Int)),pF,nw,gj,fa,eV))
 (fun _=>
 some (([]:List Int),false)))))))))))
def Ce (NN:Nat):((Int×(Int×((List Int)×((List (Int×(Int×(List Int))))×(List Int)))))×(Int×(Int×((List Int)×((List (Int×(Int×(List Int))))×(List Int))))))->(Option ((List Int)×Bool)):=
 (fun(((i0,i1,l2,l3,l4),i5,i6,l7,l8,l9):((Int×(Int×((List Int)×((List (Int×(Int×(List Int))))×(List Int)))))×(Int×(Int×((List Int)×((List (Int×(Int×(List Int))))×(List Int)))))))=>
 (nX ((i0,i1,l2,l3,l4),i5,i6,l7,l8,l9)).U (fun j5=>
 aw (dY j5)
 (some (([]:List Int),false))
 ((xi ((i0,i1,l2,l3,l4),(i5,i6,l7,l8,l9),jR .i64 i0 1)).U (fun(cF,cU,hY,fW,cg)=>
 (cP hY (J hY)).U (fun dL=>
 (cP fW (J fW)).U (fun ci=>
 (cP cg (J cg)).U (fun gD=>
 (zv (cF,cU,dL,ci,gD)).U (fun(fM,iO,iP,eo)=>
 bL (bd NN (fun(((fN,lK,kc),kf,jH,ko,iz,gT):(((List (List Int))×(Int×Int))×(Int×(Int×((List Int)×((List (Int×(Int×(List Int))))×(List Int)))))))=>
 aw (bi kc lK)
 ((dk fN kc).U (fun kq=>
 (nY ((kf,jH,ko,iz,gT),kq)).U (fun dc=>
 (bG dc 0 (J dc)).U (fun dN=>
 (xg (kf,dN,gT)).U (fun nw=>
 aw (dd nw (0:Int))
 ((jZ kq).U (fun lP=>
 (((cP lP (J lP)).U (fun jM=>
 some (jM,true))).U (fun((dC,b38):((List Int)×Bool))=>
 some (Sum.inr (dC,b38)))).U (fun fa=>
 some (Sum.inr fa))))
 (some (Sum.inl ((fN,lK,aW .i64 kc 1),kf,jH,ko,iz,gT))))))))
 (some (Sum.inr (Sum.inl ()))))
 ((fM,aM (J fM),(0:Int)),cF,cU,dL,ci,gD))
 (fun _=>
 some (([]:List Int),false))))))))))
theorem Zn {X Y α:Type} {f:X->Option (X⊕Y)} (es:List α) (mk:Nat->X) (p:α->Bool) (vD:α->Y) (qt:Y)
  (h1:∀i a,es[i]? =some a->p a=false->f (mk i)=some (.inl (mk (i+1)))) (h2:∀i a,es[i]? =some a->p a=true->f (mk i)=some (.inr (vD a))) (h3:f (mk es.length)=some (.inr qt))
  {x0:X} (h0:x0=mk 0) {N:Nat} (hN:es.length<N):bd N f x0=some (match es.find? p with|some a=>vD a|none=>qt):=by
 subst h0
 have cq:∀(k i:Nat),i+k=es.length->∀N,k<N->bd N f (mk i)=some (match(es.drop i).find? p with|some a=>vD a|none=>qt):=by
  intro k
  induction k with
  |zero=>
   intro i hi N hN
   obtain⟨N,rfl⟩:∃m,N=m+1:=⟨N - 1,by omega⟩
   have:i=es.length:=by omega
   subst this
   rw[List.drop_length]
   show(match f (mk es.length) with|some (.inl x)=>bd N f x|some (.inr y)=>some y|none=>none)=_
   rw[h3]
   rfl
  |succ k ih=>
   intro i hi N hN
   obtain⟨N,rfl⟩:∃m,N=m+1:=⟨N - 1,by omega⟩
   have bN:i<es.length:=by omega
   have hg:=List.getElem?_eq_getElem bN
   rw[drop_cons hg]
   show(match f (mk i) with|some (.inl x)=>bd N f x|some (.inr y)=>some y|none=>none)=_
   cases hp:p es[i] with
   |true=>
    rw[h2 i _ hg hp,List.find?_cons_of_pos hp]
   |false=>
    rw[h1 i _ hg hp,List.find?_cons_of_neg (by rw[hp];simp)]
    exact ih (i+1) (by omega) N (by omega)
 have:=cq es.length 0 (by omega) N hN
 rwa[List.drop_zero] at this
section
variable {p:Int} {n m:Nat} {a b a2 b2:List Int} {ms ms2:List dJ}
theorem Hk:xB (p,(n:Int),a,ms,b) (p,(m:Int),a2,ms2,b2)=(p,((n+m:Nat):Int),a++a2,dt n m ms ms2 ms.length,b++b2.map fun v=>v*(p - 1)%p):=by
 unfold xB y7
 simp only[Int.toNat_natCast]
theorem an0 (H:gn p n a ms b) (H2:gn p m a2 ms2 b2) (hl:ms.length=ms2.length) {c:List Int} (hc:c.length=m) (vw:eB p c):mg p (n+m) (a++a2) (dt n m ms ms2 ms.length) (b++c):=by
 have hp:=H.p
 have hn:=H.hn
 have hm:=H2.hn
 refine⟨H.pr,by omega,by rw[List.length_append,H.al,H2.al],?_,by rw[List.length_append,H.bl,hc],?_,by rw[y6];exact H.l1,by rw[y6];exact H.l4,?_⟩
 ·intro x hx
  rcases List.mem_append.1 hx with h|h
  ·exact H.ap x h
  ·exact H2.ap x h
 ·intro x hx
  rcases List.mem_append.1 hx with h|h
  ·exact H.bp x h
  ·exact vw x h
 ·intro x hx
  obtain⟨c,hc,rfl⟩:=List.mem_map.1 hx
  have hc:=List.mem_range.1 hc
  refine⟨_,rfl,?_⟩
  have h1:=(BX H hc).2
  have h2:=(BX H2 (k:=c) (by omega)).2
  intro i hi j hj
  unfold uJ
  split
  ·rename_i h;exact h1 i h.1 j h.2
  ·split
   ·rename_i h;exact h2 _ (by omega) _ (by omega)
   ·exact⟨Int.le_refl _,by have:=hp.1;omega⟩
theorem alB (hp:cV p) (l:List Int):eB p (l.map fun v=>v*(p - 1)%p):=by
 intro x hx
 obtain⟨v,_,rfl⟩:=List.mem_map.1 hx
 exact⟨Int.emod_nonneg _ (by have:=hp.1;omega),Int.emod_lt_of_pos _ (by have:=hp.1;omega)⟩
theorem Hl (H:gn p n a ms b) (H2:gn p m a2 ms2 b2) (hl:ms.length=ms2.length):mg p (n+m) (a++a2) (dt n m ms ms2 ms.length) (b++b2.map fun v=>v*(p - 1)%p):=
 an0 H H2 hl (by rw[List.length_map,H2.bl]) (alB H.p b2)
theorem alO {l:List Int} (h:eB p l):(l.map fun v=>v*1%p)=l:=by
 have:∀v∈l,(fun v:Int=>v*1%p) v=id v:=fun v hv=>by
  have:=h v hv
  simp only[id,Int.mul_one]
  exact Int.emod_eq_of_lt this.1 this.2
 rw[List.map_congr_left this,List.map_id]
theorem alC {v:Int} (h:0<=v/\v<p):(p - v)%p=v*(p - 1)%p:=by
 have e:v*(p - 1)=(p - v)+p*(v - 1):=by grind
 rw[e,Int.add_mul_emod_self_left]
theorem ant {α:Type} (l r:List α) (v x:α) (k:Nat) (hk:k=l.length):cb (l++v::r) k x=l++x::r:=by
 subst hk
 unfold cb
 rw[List.set_append_right _ _ (Nat.le_refl _),Nat.sub_self]
 rfl
theorem afg {α:Type} (l r:List α) (v:α) (k:Nat) (hk:k=l.length):db (l++v::r) k=some v:=by
 subst hk
 unfold db
 rw[List.getElem?_append_right (Nat.le_refl _),Nat.sub_self]
 rfl
theorem Mf (H:gn p n a ms b) (H2:gn p m a2 ms2 b2) (hl:ms.length=ms2.length):∀w∈(nP (xB (p,(n:Int),a,ms,b) (p,(m:Int),a2,ms2,b2))).1,tc ms.length w/\w.length<=24:=by
 have hn:=H.hn
 have hm:=H2.hn
 rw[Hk]
 intro w hw
 have B:=(Rc (Hl H H2 hl)).wo w hw
 rw[y6] at B
 exact⟨B.1,by omega⟩
theorem ada (H:gn p n a ms b) (H2:gn p m a2 ms2 b2) (hl:ms.length=ms2.length) {w:Wd} (hw:tc ms.length w) (hwl:w.length<=24):
  xb (xB (p,(n:Int),a,ms,b) (p,(m:Int),a2,ms2,b2),w)=some (ql (xB (p,(n:Int),a,ms,b) (p,(m:Int),a2,ms2,b2),w)):=by
 rw[Hk]
 simp only[xb]
 refine if_pos ⟨vg (Hl H H2 hl),?_,show w.length<=1048576 by omega⟩
 dsimp only
 rw[y6]
 exact hw
theorem aeY (H:gn p n a ms b) (H2:gn p m a2 ms2 b2) (hl:ms.length=ms2.length):
  Cd aD ((p,(n:Int),a,ms,b),p,(m:Int),a2,ms2,b2)=some (xC (p,(n:Int),a,ms,b) (p,(m:Int),a2,ms2,b2)):=by
 have hp:=H.p
 have tQ:=hp.1
 have hn:=H.hn
 have hm:=H2.hn
 have hb:=H.bl
 have HX:=H2.bl
 have s1:=GR H
 have s2:=GR H2
 have C4:=U4 H H2 hl
 have hB:=Hl H H2 hl
 simp only[Cd]
 rw[show td ((p,(n:Int),a,ms,b),p,(m:Int),a2,ms2,b2)=some true by
  simp only[td,nX]
  rw[if_pos ⟨by omega,by omega⟩,C4],aj,aS (by rfl)]
 rw[show xa ((p,(n:Int),a,ms,b),p,(m:Int),a2,ms2,b2)=some (p,((n+m:Nat):Int),a++a2,dt n m ms ms2 ms.length,b++b2) by
  simp only[xa]
  rw[if_pos C4]
  simp only[y7,Int.toNat_natCast]
  rw[alO H2.bp]]
 simp only[aj,bK]
 rw[ew (fun j=>(((n+j:Nat):Int),(p,(n:Int),a,ms,b),(p,((n+m:Nat):Int)),a++a2,dt n m ms ms2 ms.length,(b++(b2.take j).map fun v=>v*(p - 1)%p)++b2.drop j)) m ?a1 ?a2 ?a3 (cG (by omega))]
 case a3=>simp only[List.take_zero,List.map_nil,List.append_nil,List.drop_zero,Nat.add_zero]
 case a2=>
  dsimp only
  rw[aS (eN (by omega))]
  try simp only[bK,aj]
 case a1=>
  intro j hj
  dsimp only
  rw[aT (f0 (by omega))]
  have Xk:j<b2.length:=by omega
  have hg:=List.getElem?_eq_getElem Xk
  have hv:=H2.bp _ (List.getElem_mem Xk)
  rw[drop_cons hg]
  generalize b2[j]=v at hg hv
  have hlen:(b++(b2.take j).map fun v=>v*(p - 1)%p).length=n+j:=by rw[List.length_append,List.length_map,List.length_take];omega
  have hll:n+j<J ((b++(b2.take j).map fun v=>v*(p - 1)%p)++v::b2.drop (j+1)):=by
   unfold J
   rw[List.length_append,hlen,List.length_cons];omega
  rw[Cx hll]
  simp only[aj,lx]
  rw[afg _ _ _ _ hlen.symm]
  have qQ:=hp.2
  simp only[aj]
  rw[oY (by have:=hv.1;have:=hv.2;omega) (by have:=hv.1;have:=hv.2;omega),amQ (by have:=hv.2;omega) (by omega),aj]
  try simp only[bK,aj]
  rw[ant _ _ _ _ _ hlen.symm,alC hv]
  rw[show ab 0 (J ((b++(b2.take j).map fun v=>v*(p - 1)%p)++v::b2.drop (j+1))) (J ((b++(b2.take j).map fun v=>v*(p - 1)%p)++(v*(p - 1)%p)::b2.drop (j+1)))=some () from HL (by simp[J]),aj]
  rw[j3 (by omega) (by omega),List.take_add_one,hg]
  simp only[List.map_append,Option.toList_some,List.map_cons,List.map_nil,List.append_assoc,List.singleton_append,List.cons_append,List.nil_append]
  rfl
 rw[cO]
 simp only[gV,aj]
 rw[List.take_of_length_le (show b2.length<=m by omega),List.drop_of_length_le (show b2.length<=m by omega),List.append_nil]
 have hD:=Hk (p:=p) (n:=n) (m:=m) (a:=a) (b:=b) (a2:=a2) (b2:=b2) (ms:=ms) (ms2:=ms2)
 have tY:=Mf H H2 hl
 have Ar:=fun(w:Wd) h1 h2=>ada H H2 hl (w:=w) h1 h2
 unfold xC
 rw[hD] at tY Ar⊢
 rw[show zk (p,((n+m:Nat):Int),a++a2,dt n m ms ms2 ms.length,b++b2.map fun v=>v*(p - 1)%p)=_ from if_pos (vg hB)]
 simp only[aj]
 have ov:=(Rc hB).kn
 generalize (nP (p,((n+m:Nat):Int),a++a2,dt n m ms ms2 ms.length,b++b2.map fun v=>v*(p - 1)%p))=R at tY ov
 rw[Zn R.1 (fun i=>((R.1,aM (J R.1),(i:Int)),p,((n+m:Nat):Int),a++a2,dt n m ms ms2 ms.length,b++b2.map fun v=>v*(p - 1)%p))
  (fun w=>decide (ql ((p,((n+m:Nat):Int),a++a2,dt n m ms ms2 ms.length,b++b2.map fun v=>v*(p - 1)%p),w)≠0)) (fun w=>Sum.inr (w,true)) (Sum.inl ()) ?b1 ?b2 ?b3 ?b0 (cG ?bl)]
 case b0=>rfl
 case bl=>omega
 case b3=>dsimp only;rw[aS (mR R.1)]
 case b1=>
  intro i w hg hq
  have hq:ql ((p,((n+m:Nat):Int),a++a2,dt n m ms ms2 ms.length,b++b2.map fun v=>v*(p - 1)%p),w)=0:=by
   have:=of_decide_eq_false hq
   simpa using this
  obtain⟨w1,w2⟩:=tY w (List.mem_of_getElem? hg)
  dsimp only
  rw[aT (gk hg),eD,hg,aj,Ar w w1 w2,aj,hq,aS (by rfl),lk hg (by omega)]
 case b2=>
  intro i w hg hq
  have hq:=of_decide_eq_true hq
  obtain⟨w1,w2⟩:=tY w (List.mem_of_getElem? hg)
  dsimp only
  rw[aT (gk hg),eD,hg,aj,Ar w w1 w2,aj,aT (show dd _ 0=true from bne_iff_ne.2 hq),show jY w=some w from if_pos (by omega),aj]
  try simp only[gV,aj]
 cases R.1.find? (fun w=>decide (ql ((p,((n+m:Nat):Int),a++a2,dt n m ms ms2 ms.length,b++b2.map fun v=>v*(p - 1)%p),w)≠0)) with
 |none=>simp only[cO]
 |some w=>simp only[DS]
theorem aeZ (H:gn p n a ms b) (H2:gn p m a2 ms2 b2) (hl:ms.length=ms2.length):
  Ce aD ((p,(n:Int),a,ms,b),p,(m:Int),a2,ms2,b2)=some (xC (p,(n:Int),a,ms,b) (p,(m:Int),a2,ms2,b2)):=by
 have hp:=H.p
 have tQ:=hp.1
 have qQ:=hp.2
 have hn:=H.hn
 have hm:=H2.hn
 have s1:=GR H
 have s2:=GR H2
 have C4:=U4 H H2 hl
 have hB:=Hl H H2 hl
 simp only[Ce]
 rw[show nX ((p,(n:Int),a,ms,b),p,(m:Int),a2,ms2,b2)=some true by
  simp only[nX]
  rw[if_pos ⟨by omega,by omega⟩,C4],aj,aS (by rfl),oY (by omega) (by omega)]
 rw[show xi ((p,(n:Int),a,ms,b),(p,(m:Int),a2,ms2,b2),p - 1)=some (p,((n+m:Nat):Int),a++a2,dt n m ms ms2 ms.length,b++b2.map fun v=>v*(p - 1)%p) by
  simp only[xi]
  rw[if_pos ⟨C4,by omega,by omega⟩]
  simp only[y7,Int.toNat_natCast]]
 simp only[aj,gV]
 have hD:=Hk (p:=p) (n:=n) (m:=m) (a:=a) (b:=b) (a2:=a2) (b2:=b2) (ms:=ms) (ms2:=ms2)
 have tY:=Mf H H2 hl
 unfold xC
 rw[hD] at tY⊢
 rw[show zv (p,((n+m:Nat):Int),a++a2,dt n m ms ms2 ms.length,b++b2.map fun v=>v*(p - 1)%p)=_ from if_pos (vg hB)]
 simp only[aj]
 have ov:=(Rc hB).kn
 have Ar:∀w:Wd,tc ms.length w->w.length<=24->nY ((p,((n+m:Nat):Int),a++a2,dt n m ms ms2 ms.length,b++b2.map fun v=>v*(p - 1)%p),w)=some (de p (n+m) (dt n m ms ms2 ms.length) (a++a2) w):=by
  intro w h1 h2
  simp only[nY]
  rw[if_pos ⟨vg hB,by dsimp only;rw[y6];exact h1,show w.length<=1048576 by omega⟩]
  simp only[Int.toNat_natCast]
 have tI:∀w:Wd,xg (p,de p (n+m) (dt n m ms ms2 ms.length) (a++a2) w,b++b2.map fun v=>v*(p - 1)%p)=some (ql ((p,((n+m:Nat):Int),a++a2,dt n m ms ms2 ms.length,b++b2.map fun v=>v*(p - 1)%p),w)):=by
  intro w
  obtain⟨r1,r2⟩:=Bw (n:=n+m) (ms:=dt n m ms ms2 ms.length) hp w (a++a2) hB.al hB.ap
  simp only[xg]
  rw[if_pos ⟨hp,by rw[r1,hB.bl],by rw[r1];omega,r2,hB.bp⟩]
  simp only[ql,Int.toNat_natCast]
 generalize (nP (p,((n+m:Nat):Int),a++a2,dt n m ms ms2 ms.length,b++b2.map fun v=>v*(p - 1)%p))=R at tY ov
 rw[Zn R.1 (fun i=>((R.1,aM (J R.1),(i:Int)),p,((n+m:Nat):Int),a++a2,dt n m ms ms2 ms.length,b++b2.map fun v=>v*(p - 1)%p))
  (fun w=>decide (ql ((p,((n+m:Nat):Int),a++a2,dt n m ms ms2 ms.length,b++b2.map fun v=>v*(p - 1)%p),w)≠0)) (fun w=>Sum.inr (w,true)) (Sum.inl ()) ?b1 ?b2 ?b3 ?b0 (cG ?bl)]
 case b0=>rfl
 case bl=>omega
 case b3=>dsimp only;rw[aS (mR R.1)]
 case b1=>
  intro i w hg hq
  have hq:ql ((p,((n+m:Nat):Int),a++a2,dt n m ms ms2 ms.length,b++b2.map fun v=>v*(p - 1)%p),w)=0:=by
   have:=of_decide_eq_false hq
   simpa using this
  obtain⟨w1,w2⟩:=tY w (List.mem_of_getElem? hg)
  dsimp only
  rw[aT (gk hg),eD,hg,aj,Ar w w1 w2,aj,kE,aj,tI,aj,hq,aS (by rfl),lk hg (by omega)]
 case b2=>
  intro i w hg hq
  have hq:=of_decide_eq_true hq
  obtain⟨w1,w2⟩:=tY w (List.mem_of_getElem? hg)
  dsimp only
  rw[aT (gk hg),eD,hg,aj,Ar w w1 w2,aj,kE,aj,tI,aj,aT (show dd _ 0=true from bne_iff_ne.2 hq),show jZ w=some w from if_pos (by omega),aj]
  try simp only[gV,aj]
 cases R.1.find? (fun w=>decide (ql ((p,((n+m:Nat):Int),a++a2,dt n m ms ms2 ms.length,b++b2.map fun v=>v*(p - 1)%p),w)≠0)) with
 |none=>simp only[cO]
 |some w=>simp only[DS]
end
theorem adW (x:bX×bX) (z:List Int×Bool) (h:w6 x=some z):Cd aD x=some z:=by
 obtain⟨x,y⟩:=x
 simp only[w6,rC] at h
 split at h
 ·rename_i hs
  rw[<-h]
  by_cases ha:nd x y=true
  ·rw[if_pos ha]
   obtain⟨p,n,m,a,b,a2,b2,ms,ms2,rfl,rfl,H,H2,hl⟩:=Cp ha
   exact aeY H H2 hl
  ·rw[if_neg ha]
   obtain⟨x0,x1,x2,x3,x4⟩:=x
   obtain⟨y0,y1,y2,y3,y4⟩:=y
   simp only[Cd]
   rw[show td ((x0,x1,x2,x3,x4),y0,y1,y2,y3,y4)=some false by
    simp only[td,nX]
    rw[if_pos hs,Bool.eq_false_iff.2 ha],aj]
   rfl
 ·cases h
theorem aex (x:bX×bX) (z:List Int×Bool) (h:rC x=some z):Ce aD x=some z:=by
 obtain⟨x,y⟩:=x
 simp only[rC] at h
 split at h
 ·rename_i hs
  rw[<-h]
  by_cases ha:nd x y=true
  ·rw[if_pos ha]
   obtain⟨p,n,m,a,b,a2,b2,ms,ms2,rfl,rfl,H,H2,hl⟩:=Cp ha
   exact aeZ H H2 hl
  ·rw[if_neg ha]
   obtain⟨x0,x1,x2,x3,x4⟩:=x
   obtain⟨y0,y1,y2,y3,y4⟩:=y
   simp only[Ce]
   rw[show nX ((x0,x1,x2,x3,x4),y0,y1,y2,y3,y4)=some false by
    simp only[nX]
    rw[if_pos hs,Bool.eq_false_iff.2 ha],aj]
   rfl
 ·cases h
end Go.Am
