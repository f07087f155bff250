/- M5, M11, M22, M6, M7, M8, M9, M23, M24, M25, M31, Fm, M14, M15, M16, M17, M19, M33, M32, M34, M62, M64, M36, M18, M38, M48, M49, M50, M51, M52, M12, M20, M21, M53, M56, M65, M66, M94, M95, M96, M97, MTB, L_JoinBlocks: parts of the proof. No condition. -/
import Derived.Test.YthildlkhnnogiaaM4
import Derived.Lib.BitFns
set_option linter.unusedVariables false
set_option linter.unusedSimpArgs false
set_option linter.unusedSectionVars false
set_option synthInstance.maxSize 1000
set_option synthInstance.maxHeartbeats 400000
namespace Go.Am
def eC:J->Int
 |[]=>1
 |x::l=>x*eC l
def Ag (kY:Int) (_:Nat) (a x:Int):Int:=min (a*x) (kY+1)
def Af (kY:Int) (l:J):Int:=uS (Ag kY) 0 1 l
def atp (x:Int):Bool:=decide (0<=x/\x<=1048576)
def uw:J×Int->Option Int:=fun((l,kY):J×Int)=>if(0<=kY/\kY<=1048576)/\l.length<=1048576/\l.all atp=true then some (Af kY l) else none
def J9:ak:=[(.one,[.list [.int .i64]]),(.one,[.int .i64])]
def Ve:ak:=[(.one,[.int .i64])]
def apb:aK:=[]
def Pr (NN:Nat):(J×Int)->(Option Int):=
 (fun((l0,i1):(J×Int))=>
 bT (cq NN (fun((i2,i3,l4,i5,i6):(Int×(Int×(J×(Int×Int)))))=>
 aw (bG i6 i5)
 ((dm l4 i6).ae (fun i7=>
 some (Sum.inl (i2,Et (kC .i64 i3 i7) (cR .i64 i2 1),l4,i5,cR .i64 i6 1))))
 (some (Sum.inr (Sum.inl i3))))
 (i1,(1:Int),l0,aA (aa l0),(0:Int)))
 (fun i8=>
 some i8))
theorem To {a x A B:Int} (h0:0<=a) (h1:a<=A) (h2:0<=x) (h3:x<=B):0<=a*x/\a*x<=A*B:=
 ⟨Int.mul_nonneg h0 h2,Int.mul_le_mul h1 h3 h2 (by omega)⟩
theorem aky (x:J×Int) (y:Int) (h:uw x=some y):Pr aP x=some y:=by
 obtain⟨l,kY⟩:=x;simp only[uw] at h;split at h
 ·rename_i hc;obtain⟨aat,hl,hs⟩:=hc;rw[<-h];simp only[Pr];rw[anZ l (fun(a:Int) i=>(kY,a,l,aA (aa l),(i:Int))) (fun _ a=>0<=a/\a<=kY+1) (Ag kY) (fun a=>Sum.inl a) ?_ ?_ (s:=1) ⟨by omega,by omega⟩ ?_ (ew (by omega))]
  ·rfl
  all_goals try simp only
  ·intro i a x hx ha;have D4:=of_decide_eq_true (List.all_eq_true.1 hs x (List.mem_of_getElem? hx));obtain⟨b1,b2⟩:=To ha.1 (show a<=1048577 by omega) D4.1 D4.2;rw[ba (kB hx),dn,hx,bk,pi (by omega) (by omega),fe (a:=kY) (by omega) (by omega),an7,nC hx (by omega)];refine⟨rfl,?_⟩;unfold Ag;omega
  ·intro a _;rw[be (g9 l)]
  ·rfl
 ·cases h
theorem EJ:∀{l:J},(∀x∈l,1<=x)->1<=eC l
 |[],_=>by simp[eC]
 |x::l,h=>by
  have h1:=h x List.mem_cons_self;have h2:=EJ (l:=l) (fun x hx=>h x (List.mem_cons_of_mem _ hx));have:=Int.mul_le_mul h1 h2 (by omega) (by omega);simpa[eC] using this
theorem Kr {kY:Int} (aat:0<=kY):∀(l:J) (i:Nat) (a:Int),(∀x∈l,1<=x)->1<=a->a<=kY+1->uS (Ag kY) i a l=min (a*eC l) (kY+1)
 |[],i,a,_,_,h2=>by simp only[uS,eC,Int.mul_one];omega
 |x::l,i,a,h,h1,h2=>by
  have hx:=h x List.mem_cons_self;have hp:=EJ (l:=l) (fun x hx=>h x (List.mem_cons_of_mem _ hx));have hax:=Int.mul_le_mul h1 hx (by omega) (by omega);rw[uS,Kr aat l (i+1) _ (fun x hx=>h x (List.mem_cons_of_mem _ hx)) (by unfold Ag;omega) (by unfold Ag;omega),eC,<-Int.mul_assoc];unfold Ag;generalize a*x=c at*
  by_cases hc:c<=kY+1
  ·rw[Int.min_eq_left hc]
  ·have e:min c (kY+1)=kY+1:=by omega
   rw[e];have k1:=Int.mul_le_mul_of_nonneg_left hp (show 0<=kY+1 by omega);have k2:=Int.mul_le_mul_of_nonneg_left hp (show 0<=c by omega);omega
def gz (l:J) (v:Int):Nat:=l.findIdx fun a=>decide (a=v)
def AG (l:J) (v:Int):Int:=if gz l v<l.length then(gz l v:Int) else -1
def z7:J×Int->Option Int:=fun(x:J×Int)=>if x.1.length<=1048576 then some (AG x.1 x.2) else none
def vY:J×Int->Option Bool:=fun(x:J×Int)=>if x.1.length<=1048576 then some (decide (x.2∈x.1)) else none
def CY (L D:J) (j:Nat):Prop:=(0<=L.getD j 0/\L.getD j 0<=99)/\(1<=D.getD j 0/\D.getD j 0<=8)/\L.getD j 0∉L.take j
instance (L D:J) (j:Nat):Decidable (CY L D j):=by unfold CY;infer_instance
def pL (L D:J):Bool:=decide (L.length<=12)&&(decide (L.length=D.length)&&decide (∀j,j<L.length->CY L D j))
def ga (L D:J):Int:=if pL L D=true/\eC D<=4096 then eC D else -1
def CG:J×J->Option Bool:=fun(x:J×J)=>if x.1.length<=1048576/\x.2.length<=1048576 then some (pL x.1 x.2) else none
def ur:J×J×J->Option Int:=fun(x:J×J×J)=>if x.1.length<=1048576/\x.2.1.length<=1048576 then some (ga x.1 x.2.1) else none
def xZ:J×J×J->Option Int:=ur
def F5 (m:Int) (D:J) (R:List J) (j:Nat):Prop:=((R.getD j []).length:Int)=D.getD j 0/\rB m (R.getD j [])=true
instance (m:Int) (D:J) (R:List J) (j:Nat):Decidable (F5 m D R j):=by unfold F5;infer_instance
def m7 (x:(J×J×J)×Int×List J):Bool:=
 decide (0<=ga x.1.1 x.1.2.1)&&(decide (1<=x.2.1/\x.2.1<=12)&&(decide (x.2.2.length=x.1.2.1.length)&&decide (∀j,j<x.2.2.length->F5 x.2.1 x.1.2.1 x.2.2 j)))
def F4 (x:(J×J×J)×Int×List J):Prop:=(x.1.1.length<=1048576/\x.1.2.1.length<=1048576)/\x.2.2.length<=1048576/\∀l∈x.2.2,l.length<=1048576
instance (x:(J×J×J)×Int×List J):Decidable (F4 x):=by unfold F4;infer_instance
def x8:(J×J×J)×Int×List J->Option Bool:=fun(x:(J×J×J)×Int×List J)=>if F4 x then some (m7 x) else none
def Ch:(J×J×J)×Int×List J->Option Bool:=x8
def J4:ak:=[(.one,[.list [.int .i64]]),(.one,[.int .i64])]
def U9:ak:=[(.one,[.int .i64])]
def ao6:aK:=[]
def J3:ak:=[(.one,[.list [.int .i64]]),(.one,[.list [.int .i64]])]
def U8:ak:=[(.one,[.bool])]
def ao5:aK:=[]
def JY:ak:=[(.agg,[.list [.int .i64],.list [.int .i64],.list [.int .i64]])]
def U3:ak:=[(.one,[.int .i64])]
def ao0:aK:=[]
def JT:ak:=[(.agg,[.list [.int .i64],.list [.int .i64],.list [.int .i64]]),(.agg,[.int .i64,.list [.list [.int .i64]]])]
def UY:ak:=[(.one,[.bool])]
def aoV:aK:=[]
def Jg:ak:=[(.one,[.list [.int .i64]]),(.one,[.int .i64])]
def Uj:ak:=[(.one,[.bool])]
def aoo:aK:=[]
def Ja:ak:=[(.agg,[.list [.int .i64],.list [.int .i64],.list [.int .i64]])]
def Ud:ak:=[(.one,[.int .i64])]
def aoi:aK:=[]
def I5:ak:=[(.agg,[.list [.int .i64],.list [.int .i64],.list [.int .i64]]),(.agg,[.int .i64,.list [.list [.int .i64]]])]
def T8:ak:=[(.one,[.bool])]
def aod:aK:=[]
def Pm (NN:Nat):(J×Int)->(Option Int):=
 (fun((l0,i1):(J×Int))=>
 bT (cq NN (fun((i2,l3,i4,i5):(Int×(J×(Int×Int))))=>
 aw (bG i5 i4)
 ((dm l3 i5).ae (fun i6=>
 aw (dJ i6 i2)
 (some (Sum.inr (Sum.inr i5)))
 (some (Sum.inl (i2,l3,i4,cR .i64 i5 1)))))
 (some (Sum.inr (Sum.inl ()))))
 (i1,l0,aA (aa l0),(0:Int)))
 (fun _=>
 some ((-1:Int))))
def Pl (NN:Nat):(J×J)->(Option Bool):=
 (fun((l0,l1):(J×J))=>
 aw (bG (12:Int) (aA (aa l0)))
 (some false)
 (aw (fL (aA (aa l0)) (aA (aa l1)))
 (some false)
 (bT (cq NN (fun((l2,l3,l4,i5,i6):(J×(J×(J×(Int×Int)))))=>
 aw (bG i6 i5)
 ((dm l4 i6).ae (fun i7=>
 (kG (i7,(0:Int),(99:Int))).ae (fun b8=>
 aw (cZ b8)
 (some (Sum.inr (Sum.inr false)))
 ((dm l3 i6).ae (fun i9=>
 (kG (i9,(1:Int),(8:Int))).ae (fun lT=>
 aw (cZ lT)
 (some (Sum.inr (Sum.inr false)))
 ((jN (0:Int) i6 (aa l2)).ae (fun(SN,SO)=>
 (z7 (iM l2 SN SO,i7)).ae (fun nv=>
 aw (jr (0:Int) nv)
 (some (Sum.inr (Sum.inr false)))
 (some (Sum.inl (l2,l3,l4,i5,cR .i64 i6 1))))))))))))
 (some (Sum.inr (Sum.inl ()))))
 (l0,l1,l0,aA (aa l0),(0:Int)))
 (fun _=>
 some true))))
def Pj (NN:Nat):(J×(J×J))->(Option Int):=
 (fun((l0,l1,l2):(J×(J×J)))=>
 (CG (l0,l1)).ae (fun b3=>
 aw (cZ b3)
 (some ((-1:Int)))
 ((uw (l1,(4096:Int))).ae (fun i4=>
 aw (bG (4096:Int) i4)
 (some ((-1:Int)))
 (some i4)))))
def Pb (NN:Nat):((J×(J×J))×(Int×(List J)))->(Option Bool):=
 (fun(((l0,l1,l2),i3,l4):((J×(J×J))×(Int×(List J))))=>
 (ur (l0,l1,l2)).ae (fun i5=>
 aw (bG i5 (0:Int))
 (some false)
 ((kG (i3,(1:Int),(12:Int))).ae (fun b6=>
 aw (cZ b6)
 (some false)
 (aw (fL (aA (aa l4)) (aA (aa l1)))
 (some false)
 (bT (cq NN (fun(((l7,i8,i9),kQ,fQ):((J×(Int×Int))×(Int×(List J))))=>
 aw (bG i9 i8)
 (bT ((dm l7 i9).ae (fun jb=>
 (dm fQ i9).ae (fun gm=>
 aw (fL (aA (aa gm)) jb)
 (some (Sum.inr (Sum.inr (Sum.inr false))))
 ((dm fQ i9).ae (fun ff=>
 cq NN (fun(((eU,vk,y5,fR,tQ,oY),xg,jp):((J×(Int×(Int×(J×(Int×Int)))))×(Int×(List J))))=>
 aw (bG oY tQ)
 ((dm fR oY).ae (fun Bg=>
 (kG (Bg,(0:Int),kf .i64 xg 1)).ae (fun b24=>
 aw (cZ b24)
 (some (Sum.inr (Sum.inr (Sum.inr (Sum.inr false)))))
 (some (Sum.inl ((eU,vk,y5,fR,tQ,cR .i64 oY 1),xg,jp))))))
 (some (Sum.inr (Sum.inl ((y5,eU,vk),xg,jp)))))
 ((l7,i8,i9,ff,aA (aa ff),(0:Int)),kQ,fQ))))))
 (fun((LK,kz,vl),Hp,iI)=>
 some (Sum.inl ((kz,vl,cR .i64 LK 1),Hp,iI))))
 (some (Sum.inr (Sum.inl ()))))
 ((l1,aA (aa l1),(0:Int)),i3,l4))
 (fun _=>
 some true)))))))
def OD (NN:Nat):(J×Int)->(Option Bool):=
 (fun((l0,i1):(J×Int))=>
 bT (cq NN (fun((i2,l3,i4,i5):(Int×(J×(Int×Int))))=>
 aw (bG i5 i4)
 ((dm l3 i5).ae (fun i6=>
 aw (dJ i2 i6)
 (some (Sum.inr (Sum.inr true)))
 (some (Sum.inl (i2,l3,i4,cR .i64 i5 1)))))
 (some (Sum.inr (Sum.inl ()))))
 (i1,l0,aA (aa l0),(0:Int)))
 (fun _=>
 some false))
def Ox (NN:Nat):(J×(J×J))->(Option Int):=
 (fun((l0,l1,l2):(J×(J×J)))=>
 aw (bG (12:Int) (aA (aa l0)))
 (some ((-1:Int)))
 (aw (fL (aA (aa l0)) (aA (aa l1)))
 (some ((-1:Int)))
 (bT (cq NN (fun(((i3,l4,i5,i6),l7,l8,l9):((Int×(J×(Int×Int)))×(J×(J×J))))=>
 aw (bG i6 i5)
 ((dm l4 i6).ae (fun kQ=>
 aw (bG kQ (0:Int))
 (some (Sum.inr (Sum.inr ((-1:Int)))))
 (aw (bG (99:Int) kQ)
 (some (Sum.inr (Sum.inr ((-1:Int)))))
 ((jN (0:Int) i6 (aa l7)).ae (fun(SN,SO)=>
 (vY (iM l7 SN SO,kQ)).ae (fun FZ=>
 aw (FZ)
 (some (Sum.inr (Sum.inr ((-1:Int)))))
 ((dm l8 i6).ae (fun pT=>
 aw (bG pT (1:Int))
 (some (Sum.inr (Sum.inr ((-1:Int)))))
 (aw (bG (8:Int) pT)
 (some (Sum.inr (Sum.inr ((-1:Int)))))
 (aw (bG (4096:Int) (kC .i64 i3 pT))
 (some (Sum.inr (Sum.inr ((-1:Int)))))
 (some (Sum.inl ((kC .i64 i3 pT,l4,i5,cR .i64 i6 1),l7,l8,l9)))))))))))))
 (some (Sum.inr (Sum.inl i3))))
 (((1:Int),l0,aA (aa l0),(0:Int)),l0,l1,l2))
 (fun xf=>
 some xf))))
def Oq (NN:Nat):((J×(J×J))×(Int×(List J)))->(Option Bool):=
 (fun(((l0,l1,l2),i3,l4):((J×(J×J))×(Int×(List J))))=>
 (xZ (l0,l1,l2)).ae (fun i5=>
 aw (dJ i5 ((-1:Int)))
 (some false)
 (aw (bG i3 (1:Int))
 (some false)
 (aw (bG (12:Int) i3)
 (some false)
 (aw (fL (aA (aa l4)) (aA (aa l1)))
 (some false)
 (bT (cq NN (fun(((l6,i7,i8),(l9,e7,fQ),jb,gm):(((List J)×(Int×Int))×((J×(J×J))×(Int×(List J)))))=>
 aw (bG i8 i7)
 ((dm l6 i8).ae (fun ff=>
 (dm e7 i8).ae (fun xf=>
 aw (fL (aA (aa ff)) xf)
 (some (Sum.inr (Sum.inr false)))
 ((z5 (jb,ff)).ae (fun b16=>
 aw (cZ b16)
 (some (Sum.inr (Sum.inr false)))
 (some (Sum.inl ((l6,i7,cR .i64 i8 1),(l9,e7,fQ),jb,gm))))))))
 (some (Sum.inr (Sum.inl ()))))
 ((l4,aA (aa l4),(0:Int)),(l0,l1,l2),i3,l4))
 (fun _=>
 some true)))))))
theorem Fg (P:Nat->Prop) [DecidablePred P]:∀c:Nat,∃n,n<=c/\(∀j,j<n->P j)/\(n=c\/¬P n)
 |0=>⟨0,Nat.le_refl 0,fun j hj=>absurd hj (Nat.not_lt_zero j),.inl rfl⟩
 |c+1=>by
  obtain⟨n,h1,h2,h3⟩:=Fg P c;by_cases h:P n
  ·rcases h3 with h3|h3
   ·subst h3;refine⟨n+1,Nat.le_refl _,fun j hj=>?_,.inl rfl⟩;by_cases nj:j=n
    ·subst nj;exact h
    ·exact h2 j (by omega)
   ·exact absurd h h3
  ·exact⟨n,by omega,h2,.inr h⟩
theorem getD_some {α:Type} {l:List α} {j:Nat} (d:α) (h:j<l.length):l[j]? =some (l.getD j d):=by
 simp[List.getD,h]
theorem sK {α:Type} {l:List α} {j:Nat} (h:j<l.length):bG (j:Int) (aA (aa l))=true:=an4 h
theorem MQ {l:J} {v:Int} {j:Nat} (h:j<gz l v):l[j]? ≠some v:=by
 intro e;have hj:j<l.length:=(List.getElem?_eq_some_iff.1 e).1;have:=List.not_of_lt_findIdx h;rw[List.getElem?_eq_getElem hj] at e;simp[Option.some.inj e] at this
theorem H4 {l:J} {v:Int} (h:gz l v<l.length):l[gz l v]? =some v:=by
 have:=List.findIdx_getElem (w:=h);rw[List.getElem?_eq_getElem h];exact congrArg some (of_decide_eq_true this)
theorem MR (l:J) (v:Int):gz l v<=l.length:=List.findIdx_le_length
theorem QK (l:J) (v:Int):jr 0 (AG l v)=decide (v∈l):=by
 unfold AG jr;by_cases h:gz l v<l.length
 ·rw[if_pos h,decide_eq_true (by omega),decide_eq_true];exact List.mem_of_getElem? (H4 h)
 ·rw[if_neg h,decide_eq_false (by omega),decide_eq_false];intro hm;obtain⟨i,hi,e⟩:=List.mem_iff_getElem.1 hm;have:=MR l v;exact MQ (show i<gz l v by omega) (by rw[List.getElem?_eq_getElem hi,e])
theorem akt (x:J×Int) (y:Int) (h:z7 x=some y):Pm aP x=some y:=by
 obtain⟨l,v⟩:=x;simp only[z7] at h;split at h
 ·rename_i hl;rw[<-h];simp only[Pm];have hp:=MR l v;rw[fF (fun i=>(v,l,aA (aa l),(i:Int))) (r:=if gz l v<l.length then Sum.inr (gz l v:Int) else Sum.inl ()) (gz l v) ?_ ?_ ?_ (ew (by omega))]
  ·unfold AG;by_cases h:gz l v<l.length
   ·rw[if_pos h,if_pos h];rfl
   ·rw[if_neg h,if_neg h];rfl
  ·intro j hj;simp only
   have jX:j<l.length:=by omega
   rw[ba (sK jX),dn,getD_some 0 jX,bk,be (r5 (fun e=>MQ hj (by rw[getD_some 0 jX,e])))];simp only[CW (show j<=1048577 by omega)]
  ·simp only
   by_cases h:gz l v<l.length
   ·rw[if_pos h,ba (sK h),dn,H4 h,bk,ba (r6 rfl)]
   ·rw[if_neg h,be (show bG _ (aA (aa l))=false from Er (by show l.length<=_;omega))]
  ·rfl
 ·cases h
theorem ajH (x:J×Int) (y:Bool) (h:vY x=some y):OD aP x=some y:=by
 obtain⟨l,v⟩:=x;simp only[vY] at h;split at h
 ·rename_i hl;rw[<-h];simp only[OD];have hp:=MR l v;rw[fF (fun i=>(v,l,aA (aa l),(i:Int))) (r:=if gz l v<l.length then Sum.inr true else Sum.inl ()) (gz l v) ?_ ?_ ?_ (ew (by omega))]
  ·rw[<-QK l v];unfold AG jr;by_cases h:gz l v<l.length
   ·rw[if_pos h,if_pos h,decide_eq_true (by omega)];rfl
   ·rw[if_neg h,if_neg h];rfl
  ·intro j hj;simp only
   have jX:j<l.length:=by omega
   rw[ba (sK jX),dn,getD_some 0 jX,bk,be (r5 (fun e=>MQ hj (by rw[getD_some 0 jX,e])))];simp only[CW (show j<=1048577 by omega)]
  ·simp only
   by_cases h:gz l v<l.length
   ·rw[if_pos h,ba (sK h),dn,H4 h,bk,ba (r6 rfl)]
   ·rw[if_neg h,be (show bG _ (aA (aa l))=false from Er (by show l.length<=_;omega))]
  ·rfl
 ·cases h
theorem Nu {n m:Nat} (h:n<=m):jN 0 (n:Int) m=some (0,n):=by
 unfold jN;rw[if_pos ⟨by omega,by omega,by omega⟩];simp
theorem Nt (l:J) (n:Nat):iM l 0 n=l.take n:=rfl
theorem aks (x:J×J) (y:Bool) (h:CG x=some y):Pl aP x=some y:=by
 obtain⟨L,D⟩:=x;simp only[CG] at h;split at h
 ·rename_i hl;rw[<-h];simp only[Pl,pL];by_cases h1:L.length<=12
  rotate_left
  ·rw[ba (d6 (by rw[nl];omega)),decide_eq_false h1];rfl
  rw[be (eO (by rw[nl];omega)),decide_eq_true h1,Bool.true_and];by_cases h2:L.length=D.length
  rotate_left
  ·rw[ba (rr (by rw[nl,nl];omega)),decide_eq_false h2];rfl
  rw[be (ov (by rw[nl,nl];omega)),decide_eq_true h2,Bool.true_and];obtain⟨n,hn,cu,tK⟩:=Fg (CY L D) L.length;rw[fF (fun i=>(L,D,L,aA (aa L),(i:Int))) (r:=if n<L.length then Sum.inr false else Sum.inl ()) n ?_ ?_ ?_ (ew (by omega))]
  ·by_cases h:n<L.length
   ·rw[if_pos h,decide_eq_false (fun q=>(tK.resolve_left (by omega)) (q n h))];rfl
   ·rw[if_neg h,decide_eq_true (fun j hj=>cu j (by omega))];rfl
  ·intro j hj;simp only
   obtain⟨a1,a2,a3⟩:=cu j hj;have jX:j<L.length:=by omega
   rw[ba (sK jX),dn,getD_some 0 jX,bk];simp only[kG,bk];rw[be (BF a1),dn,getD_some 0 (show j<D.length by omega),bk];rw[be (BF a2),Nu (show j<=aa L by show j<=L.length;omega),bk];simp only[Nt];rw[show z7 (L.take j,L.getD j 0)=some (AG (L.take j) (L.getD j 0)) from if_pos (by rw[List.length_take];omega),bk,QK,be (decide_eq_false a3)]
   simp only[CW (show j<=1048577 by omega)]
  ·simp only
   by_cases h:n<L.length
   ·have cm:=tK.resolve_left (by omega);rw[if_pos h,ba (sK h),dn,getD_some 0 h,bk];simp only[kG,bk];by_cases a1:0<=L.getD n 0/\L.getD n 0<=99
    rotate_left
    ·rw[ba (HX a1)]
    rw[be (BF a1),dn,getD_some 0 (show n<D.length by omega),bk];by_cases a2:1<=D.getD n 0/\D.getD n 0<=8
    rotate_left
    ·rw[ba (HX a2)]
    rw[be (BF a2),Nu (show n<=aa L by show n<=L.length;omega),bk];simp only[Nt];rw[show z7 (L.take n,L.getD n 0)=some (AG (L.take n) (L.getD n 0)) from if_pos (by rw[List.length_take];omega),bk,QK]
    by_cases a3:L.getD n 0∈L.take n
    ·rw[ba (decide_eq_true a3)]
    ·exact absurd ⟨a1,a2,a3⟩ cm
   ·rw[if_neg h,be (show bG _ (aA (aa L))=false from Er (by show L.length<=_;omega))]
  ·rfl
 ·cases h
theorem yq {L D:J} (h:pL L D=true):L.length<=12/\L.length=D.length/\∀j,j<L.length->CY L D j:=by
 simp only[pL,Bool.and_eq_true,decide_eq_true_eq] at h;exact h
theorem CX {L D:J} (h:pL L D=true):∀x∈D,1<=x/\x<=8:=by
 obtain⟨_,h2,h3⟩:=yq h;intro x hx;obtain⟨i,hi,e⟩:=List.mem_iff_getElem.1 hx;have:=(h3 i (by omega)).2.1;have e2:=getD_some 0 hi;rw[List.getElem?_eq_getElem hi,e] at e2;rw[<-Option.some.inj e2] at this;exact this
theorem akn (x:J×J×J) (y:Int) (h:ur x=some y):Pj aP x=some y:=by
 obtain⟨L,D,T⟩:=x;simp only[ur] at h;split at h
 ·rename_i hl;rw[<-h];simp only[Pj,ga];rw[show CG (L,D)=some (pL L D) from if_pos hl,bk]
  cases hx:pL L D with
  |false=>simp[aw,cZ]
  |true=>
   have hd:=CX hx;have h1:∀x∈D,1<=x:=fun x hx=>(hd x hx).1;rw[be (by rfl),show uw (D,4096)=some (Af 4096 D) from if_pos ⟨by omega,hl.2,List.all_eq_true.2 fun x hx=>decide_eq_true (by have:=hd x hx;omega)⟩,bk]
   unfold Af;rw[Kr (by omega) D 0 1 h1 (by omega) (by omega),Int.one_mul];by_cases hp:eC D<=4096
   ·rw[be (eO (by omega)),if_pos ⟨rfl,hp⟩,show min (eC D) (4096+1)=eC D by omega]
   ·rw[ba (d6 (by omega)),if_neg (fun q=>hp q.2)]
 ·cases h
theorem adA:∀(l:J) (x:Int),eC (l++[x])=eC l*x
 |[],x=>by simp[eC]
 |a::l,x=>by simp[eC,adA l x,Int.mul_assoc]
theorem adz:∀(l m:J),eC (l++m)=eC l*eC m
 |[],m=>by simp[eC]
 |a::l,m=>by simp[eC,adz l m,Int.mul_assoc]
theorem at1 {D:J} {j:Nat} (h:j<D.length):D.take (j+1)=D.take j++[D.getD j 0]:=by
 rw[List.take_add_one,getD_some 0 h];rfl
theorem EK {D:J} {j:Nat} (h:j<D.length):eC (D.take (j+1))=eC (D.take j)*D.getD j 0:=by rw[at1 h,adA]
theorem ar6 {D:J} (h:∀x∈D,1<=x) (j:Nat):eC (D.take j)<=eC D:=by
 have e:eC D=eC (D.take j)*eC (D.drop j):=by rw[<-adz,List.take_append_drop]
 have h1:=EJ (l:=D.take j) fun x hx=>h x (List.mem_of_mem_take hx);have h2:=EJ (l:=D.drop j) fun x hx=>h x (List.mem_of_mem_drop hx);have:=Int.mul_le_mul_of_nonneg_left h2 (show 0<=eC (D.take j) by omega);rw[e];omega
def PR (L D:J) (j:Nat):Prop:=CY L D j/\eC (D.take (j+1))<=4096
instance (L D:J) (j:Nat):Decidable (PR L D j):=by unfold PR;infer_instance
theorem ajB (x:J×J×J) (y:Int) (h:xZ x=some y):Ox aP x=some y:=by
 obtain⟨L,D,T⟩:=x;simp only[xZ,ur] at h;split at h
 ·rename_i hl;rw[<-h];simp only[Ox,ga];by_cases h1:L.length<=12
  rotate_left
  ·rw[ba (d6 (by rw[nl];omega)),if_neg (fun q=>h1 (yq q.1).1)]
  rw[be (eO (by rw[nl];omega))];by_cases h2:L.length=D.length
  rotate_left
  ·rw[ba (rr (by rw[nl,nl];omega)),if_neg (fun q=>h2 (yq q.1).2.1)]
  rw[be (ov (by rw[nl,nl];omega))];obtain⟨n,hn,cu,tK⟩:=Fg (PR L D) L.length;have R1:∀j,j<=n->1<=eC (D.take j)/\eC (D.take j)<=4096:=by
   intro j hj;constructor
   ·apply EJ;intro x hx;obtain⟨i,hi,e⟩:=List.mem_iff_getElem.1 hx;rw[List.length_take] at hi;have hp:=(cu i (by omega)).1.2.1;have e2:=getD_some 0 (show i<D.length by omega);rw[List.getElem_take] at e;rw[List.getElem?_eq_getElem (by omega),e] at e2;rw[<-Option.some.inj e2] at hp;exact hp.1
   ·cases j with
    |zero=>simp[eC]
    |succ j=>exact(cu j (by omega)).2
  rw[fF (fun i=>((eC (D.take i),L,aA (aa L),(i:Int)),L,D,T)) (r:=if n<L.length then Sum.inr (-1) else Sum.inl (eC D)) n ?_ ?_ ?_ (ew (by omega))]
  ·by_cases h:n<L.length
   ·rw[if_pos h,if_neg]
    ·rfl
    ·intro q;refine tK.resolve_left (by omega) ⟨(yq q.1).2.2 n h,?_⟩;have:=ar6 (fun x hx=>(CX q.1 x hx).1) (n+1);have:=q.2;omega
   ·have e:n=L.length:=by omega
    have hp:=(R1 n (Nat.le_refl n)).2;rw[e,h2,List.take_length] at hp;rw[if_neg h,if_pos]
    ·rfl
    ·refine⟨?_,hp⟩;simp only[pL,Bool.and_eq_true,decide_eq_true_eq];exact⟨h1,h2,fun j hj=>(cu j (by omega)).1⟩
  ·intro j hj;simp only
   obtain⟨⟨a1,a2,a3⟩,a4⟩:=cu j hj;have jX:j<L.length:=by omega
   rw[ba (sK jX),dn,getD_some 0 jX,bk,be (eO (by omega)),be (eO (by omega)),Nu (show j<=aa L by show j<=L.length;omega),bk];simp only[Nt];rw[show vY (L.take j,L.getD j 0)=some (decide (L.getD j 0∈L.take j)) from if_pos (by rw[List.length_take];omega),bk,be (decide_eq_false a3),dn,getD_some 0 (show j<D.length by omega),bk,be (eO (by omega)),be (eO (by omega))]
   have hb:=R1 j (by omega);obtain⟨b1,b2⟩:=To (a:=eC (D.take j)) (x:=D.getD j 0) (A:=4096) (B:=8) (by omega) hb.2 (by omega) a2.2;rw[EK (by omega)] at a4;rw[pi (by omega) (by omega),be (eO a4),<-EK (by omega)];simp only[CW (show j<=1048577 by omega)]
  ·simp only
   by_cases h:n<L.length
   ·have cm:=tK.resolve_left (by omega);rw[if_pos h,ba (sK h),dn,getD_some 0 h,bk];by_cases c1:L.getD n 0<0
    ·rw[ba (d6 c1)]
    rw[be (eO (by omega))];by_cases c2:99<L.getD n 0
    ·rw[ba (d6 c2)]
    rw[be (eO (by omega)),Nu (show n<=aa L by show n<=L.length;omega),bk];simp only[Nt];rw[show vY (L.take n,L.getD n 0)=some (decide (L.getD n 0∈L.take n)) from if_pos (by rw[List.length_take];omega),bk]
    by_cases a3:L.getD n 0∈L.take n
    ·rw[ba (decide_eq_true a3)]
    rw[be (decide_eq_false a3),dn,getD_some 0 (show n<D.length by omega),bk];by_cases c3:D.getD n 0<1
    ·rw[ba (d6 c3)]
    rw[be (eO (by omega))];by_cases c4:8<D.getD n 0
    ·rw[ba (d6 c4)]
    rw[be (eO (by omega))];have hb:=R1 n (Nat.le_refl n);obtain⟨b1,b2⟩:=To (a:=eC (D.take n)) (x:=D.getD n 0) (A:=4096) (B:=8) (by omega) hb.2 (by omega) (by omega);rw[pi (by omega) (by omega)];by_cases c5:4096<eC (D.take n)*D.getD n 0
    ·rw[ba (d6 c5)]
    ·exact absurd ⟨⟨⟨by omega,by omega⟩,⟨by omega,by omega⟩,a3⟩,by rw[EK (by omega)];omega⟩ cm
   ·have e:n=L.length:=by omega
    rw[if_neg h,be (show bG _ (aA (aa L))=false from Er (by show L.length<=_;omega)),e,h2,List.take_length]
  ·rfl
 ·cases h
theorem M6 {R:List J} (h:∀l∈R,l.length<=1048576) {j:Nat} (hj:j<R.length):(R.getD j []).length<=1048576:=by
 have e:=getD_some [] hj;exact h _ (List.mem_of_getElem? e)
theorem aki (x:(J×J×J)×Int×List J) (y:Bool) (h:x8 x=some y):Pb aP x=some y:=by
 obtain⟨⟨L,D,T⟩,m,R⟩:=x;simp only[x8] at h;split at h
 ·rename_i hl;obtain⟨np,nq,A7⟩:=hl;simp only at np nq A7;rw[<-h];simp only[Pb,m7];rw[show ur (L,D,T)=some (ga L D) from if_pos np,bk]
  by_cases h1:0<=ga L D
  rotate_left
  ·rw[ba (d6 (by omega)),decide_eq_false h1];rfl
  rw[be (eO (by omega)),decide_eq_true h1,Bool.true_and];simp only[kG,bk];by_cases h2:1<=m/\m<=12
  rotate_left
  ·rw[ba (HX h2),decide_eq_false h2];rfl
  rw[be (BF h2),decide_eq_true h2,Bool.true_and];by_cases h3:R.length=D.length
  rotate_left
  ·rw[ba (rr (by rw[nl,nl];omega)),decide_eq_false h3];rfl
  rw[be (ov (by rw[nl,nl];omega)),decide_eq_true h3,Bool.true_and];obtain⟨n,hn,cu,tK⟩:=Fg (F5 m D R) R.length;rw[fF (fun i=>((D,aA (aa D),(i:Int)),m,R)) (r:=if n<R.length then Sum.inr false else Sum.inl ()) n ?_ ?_ ?_ (ew (by omega))]
  ·by_cases h:n<R.length
   ·rw[if_pos h,decide_eq_false (fun q=>(tK.resolve_left (by omega)) (q n h))];rfl
   ·rw[if_neg h,decide_eq_true (fun j hj=>cu j (by omega))];rfl
  ·intro j hj;simp only
   obtain⟨a1,a2⟩:=cu j hj;have u6:j<R.length:=by omega
   have wS:j<D.length:=by omega
   have hr:=M6 A7 u6;rw[ba (sK wS),dn,dn,getD_some 0 wS,getD_some [] u6,bk,bk,be (ov (by rw[nl];exact a1)),bk];rw[Ep (mk:=fun i=>((D,aA (aa D),(j:Int),R.getD j [],aA (aa (R.getD j [])),(i:Int)),m,R)) (R.getD j []) (y9 m) (Sum.inr (Sum.inr (Sum.inr false))) (Sum.inl (((j:Int),D,aA (aa D)),m,R)) ?_ ?_ ?_ ?_ (ew (by omega))]
   ·rw[if_pos (show(R.getD j []).all (y9 m)=true from a2),mO]
    simp only[CW (show j<=1048577 by omega)]
   all_goals try simp only
   ·intro i a ha hp;have hp:=of_decide_eq_true hp;rw[ba (kB ha),dn,ha,bk,s7 (by omega) (by omega),be (BF (by omega)),nC ha (by omega)]
   ·intro i a ha hp;have hp:=of_decide_eq_false hp;rw[ba (kB ha),dn,ha,bk,s7 (by omega) (by omega),ba (HX (by omega))]
   ·rw[be (g9 _)]
   ·rfl
  ·simp only
   by_cases h:n<R.length
   ·have cm:=tK.resolve_left (by omega);have wS:n<D.length:=by omega
    have hr:=M6 A7 h;rw[if_pos h,ba (sK wS),dn,dn,getD_some 0 wS,getD_some [] h,bk,bk];by_cases a1:((R.getD n []).length:Int)=D.getD n 0
    rotate_left
    ·rw[ba (rr (by rw[nl];exact a1))];rfl
    rw[be (ov (by rw[nl];exact a1)),bk];have a2:rB m (R.getD n [])≠true:=fun q=>cm ⟨a1,q⟩;rw[Ep (mk:=fun i=>((D,aA (aa D),(n:Int),R.getD n [],aA (aa (R.getD n [])),(i:Int)),m,R)) (R.getD n []) (y9 m) (Sum.inr (Sum.inr (Sum.inr false))) (Sum.inl (((n:Int),D,aA (aa D)),m,R)) ?_ ?_ ?_ ?_ (ew (by omega))]
    ·rw[if_neg (show¬(R.getD n []).all (y9 m)=true from a2)]
     rfl
    all_goals try simp only
    ·intro i a ha hp;have hp:=of_decide_eq_true hp;rw[ba (kB ha),dn,ha,bk,s7 (by omega) (by omega),be (BF (by omega)),nC ha (by omega)]
    ·intro i a ha hp;have hp:=of_decide_eq_false hp;rw[ba (kB ha),dn,ha,bk,s7 (by omega) (by omega),ba (HX (by omega))]
    ·rw[be (g9 _)]
    ·rfl
   ·rw[if_neg h,be (show bG _ (aA (aa D))=false from Er (by show D.length<=_;omega))]
  ·rfl
 ·cases h
theorem ajw (x:(J×J×J)×Int×List J) (y:Bool) (h:Ch x=some y):Oq aP x=some y:=by
 obtain⟨⟨L,D,T⟩,m,R⟩:=x;simp only[Ch,x8] at h;split at h
 ·rename_i hl;obtain⟨np,nq,A7⟩:=hl;simp only at np nq A7;rw[<-h];simp only[Oq,m7];rw[show xZ (L,D,T)=some (ga L D) from if_pos np,bk]
  have Bd:ga L D= -1\/0<=ga L D:=by
   unfold ga;by_cases q:pL L D=true/\eC D<=4096
   ·rw[if_pos q];have:=EJ fun x hx=>(CX q.1 x hx).1;right;omega
   ·rw[if_neg q];left;rfl
  by_cases h1:0<=ga L D
  rotate_left
  ·rw[ba (r6 (by omega)),decide_eq_false h1];rfl
  rw[be (r5 (by omega)),decide_eq_true h1,Bool.true_and];by_cases h2:1<=m
  rotate_left
  ·rw[ba (d6 (by omega)),decide_eq_false (p:=1<=m/\m<=12) (by omega)];rfl
  rw[be (eO (by omega))];by_cases yJ:m<=12
  rotate_left
  ·rw[ba (d6 (by omega)),decide_eq_false (p:=1<=m/\m<=12) (by omega)];rfl
  rw[be (eO (by omega)),decide_eq_true (p:=1<=m/\m<=12) ⟨h2,yJ⟩,Bool.true_and];by_cases h3:R.length=D.length
  rotate_left
  ·rw[ba (rr (by rw[nl,nl];omega)),decide_eq_false h3];rfl
  rw[be (ov (by rw[nl,nl];omega)),decide_eq_true h3,Bool.true_and];obtain⟨n,hn,cu,tK⟩:=Fg (F5 m D R) R.length;rw[fF (fun i=>((R,aA (aa R),(i:Int)),(L,D,T),m,R)) (r:=if n<R.length then Sum.inr false else Sum.inl ()) n ?_ ?_ ?_ (ew (by omega))]
  ·by_cases h:n<R.length
   ·rw[if_pos h,decide_eq_false (fun q=>(tK.resolve_left (by omega)) (q n h))];rfl
   ·rw[if_neg h,decide_eq_true (fun j hj=>cu j (by omega))];rfl
  ·intro j hj;simp only
   obtain⟨a1,a2⟩:=cu j hj;have u6:j<R.length:=by omega
   have wS:j<D.length:=by omega
   have hr:=M6 A7 u6;rw[ba (sK u6),dn,dn,getD_some 0 wS,getD_some [] u6,bk,bk,be (ov (by rw[nl];exact a1)),show z5 (m,R.getD j [])=some (rB m (R.getD j [])) from if_pos hr,bk,a2,be (by rfl)]
   simp only[CW (show j<=1048577 by omega)]
  ·simp only
   by_cases h:n<R.length
   ·have cm:=tK.resolve_left (by omega);have wS:n<D.length:=by omega
    have hr:=M6 A7 h;rw[if_pos h,ba (sK h),dn,dn,getD_some 0 wS,getD_some [] h,bk,bk];by_cases a1:((R.getD n []).length:Int)=D.getD n 0
    rotate_left
    ·rw[ba (rr (by rw[nl];exact a1))]
    rw[be (ov (by rw[nl];exact a1))];have a2:rB m (R.getD n [])=false:=by
     cases q:rB m (R.getD n []) with
     |false=>rfl
     |true=>exact absurd ⟨a1,q⟩ cm
    rw[show z5 (m,R.getD n [])=some (rB m (R.getD n [])) from if_pos hr,bk,a2,ba (by rfl)]
   ·rw[if_neg h,be (show bG _ (aA (aa R))=false from Er (by show R.length<=_;omega))]
  ·rfl
 ·cases h
theorem abq {X Y α S:Type} {f:X->Option (X⊕Y)} (es:List α) (mk:S->Nat->X) (I:Nat->S->Prop) (step:Nat->S->α->Option S) (tr:Y) (eG:S->Y)
  (h1:∀i s a,es[i]? =some a->I i s->f (mk s i)=some (match step i s a with|some s'=>.inl (mk s' (i+1))|none=>.inr tr))
  (hI:∀i s a s',es[i]? =some a->I i s->step i s a=some s'->I (i+1) s')
  (h3:∀s,I es.length s->f (mk s es.length)=some (.inr (eG s))) {s:S} (h0:I 0 s) {x0:X} (hx:x0=mk s 0) {N:Nat} (hN:es.length<N):
  cq N f x0=some (match nd step 0 s es with|some s'=>eG s'|none=>tr):=
 Td es mk I step tr eG (fun i s a s' ha hi hs=>⟨by rw[h1 i s a ha hi,hs],hI i s a s' ha hi hs⟩) (fun i s a ha hi hs=>by rw[h1 i s a ha hi,hs]) h3 h0 hx hN
def ac4 (x:Int×Int):Prop:=(0<=x.1/\x.1<=4096)/\(0<=x.2/\x.2<=4096)/\x.1*x.2<=1048576
instance (x:Int×Int):Decidable (ac4 x):=by unfold ac4;infer_instance
def qt (M:Nat->Nat->Int) (a b:Nat):Nat->Nat->Int:=fun i j=>if i=a then M b j else if i=b then M a j else M i j
def xA (M:Nat->Nat->Int) (j:Nat):Nat->Nat->Option Nat
 |0,_=>none
 |d+1,k=>if M k j=0 then xA M j d (k+1) else some k
def vq (p out x:Int) (n:Nat):Int:=if h:n=0 then out else vq p (if n%2=1 then out*x%p else out) (x*x%p) (n/2)
termination_by n
decreasing_by omega
def uv:J->Option J:=fun(l:J)=>if l.length<=1099511627776 then some l else none
def te:J->Option J:=fun(l:J)=>if l.length<=1099511627776 then some l else none
def acY (x:Int×(Int×Int×J)×(Int×Int×J)):Prop:=pj x.1/\BA x.2.1/\BA x.2.2/\x.2.1.2.1=x.2.2.1/\x.2.1.1*x.2.2.2.1<=1048576/\qA x.1 x.2.1.2.2/\qA x.1 x.2.2.2.2
instance (x:Int×(Int×Int×J)×(Int×Int×J)):Decidable (acY x):=by unfold acY;infer_instance
def J7:ak:=[(.one,[.list [.int .i64]])]
def Vc:ak:=[(.one,[.list [.int .i64]])]
def ao9:aK:=[]
def Jd:ak:=[(.one,[.list [.int .i64]])]
def Ug:ak:=[(.one,[.list [.int .i64]])]
def aol:aK:=[]
def Pp (NN:Nat):J->(Option J):=
 (fun(l0:J)=>
 (bn 0 0 (aa (([]:J)))).ae (fun _=>
 (ku (aI (aa (([]:J))) (aa l0)) 8).ae (fun _=>
 (dN (dQ (([]:J)) l0) (aI (aa (([]:J))) (aa l0))).ae (fun l1=>
 some l1))))
def OA (NN:Nat):J->(Option J):=
 (fun(l0:J)=>
 (ku (aI (aa (([]:J))) (aa l0)) 8).ae (fun _=>
 (dN (dQ (([]:J)) l0) (aI (aa (([]:J))) (aa l0))).ae (fun l1=>
 some l1)))
theorem akw (x y:J) (h:uv x=some y):Pp aP x=some y:=by
 simp only[uv] at h;split at h
 ·rename_i hl;rw[<-h];simp only[Pp];rw[show bn 0 0 (aa ([]:J))=some () from rfl,bk,lA (by simp only[aI,aa,List.length_nil,dX];omega),bk]
  have:dQ [] x=x:=rfl;rw[this,show aI (aa ([]:J)) (aa x)=aa x by simp[aI,aa],iy];rfl
 ·cases h
theorem ajE (x y:J) (h:te x=some y):OA aP x=some y:=by
 simp only[te] at h;split at h
 ·rename_i hl;rw[<-h];simp only[OA];rw[lA (by simp only[aI,aa,List.length_nil,dX];omega),bk];have:dQ [] x=x:=rfl;rw[this,show aI (aa ([]:J)) (aa x)=aa x by simp[aI,aa],iy];rfl
 ·cases h
theorem TJ {M:Nat->Nat->Int} {j q:Nat}:∀{d k:Nat},xA M j d k=some q->k<=q/\q<k+d/\M q j≠0
 |0,k,h=>by cases h
 |d+1,k,h=>by
  simp only[xA] at h;split at h
  ·have:=TJ h;exact⟨by omega,by omega,this.2.2⟩
  ·rename_i h0;injection h with h;subst h;exact⟨by omega,by omega,h0⟩
theorem ama (p out x:Int):vq p out x 0=out:=by rw[vq];rfl
theorem amc {n:Nat} (h:n≠0) (p out x:Int):vq p out x n=vq p (if n%2=1 then out*x%p else out) (x*x%p) (n/2):=by
 rw[vq,dif_neg h]
def afZ (x:Int×Int×Int):Prop:=gZ x.1=true/\(1<=x.2.1/\x.2.1<=8)/\(1<=x.2.2/\x.2.2<=8)
instance (x:Int×Int×Int):Decidable (afZ x):=by unfold afZ;infer_instance
abbrev eA:=Nat->Nat->Int
def BU (p inv:Int) (M:eA) (t:Nat):eA:=fun a b=>if a=t then M t b*inv%p else M a b
def kq (p:Int) (M:eA) (t j n:Nat):eA:=fun a b=>if a<n/\a≠t then(M a b+(p - M a j)*M t b)%p else M a b
def HZ (p:Int) (M:eA) (t j k:Nat):eA:=BU p (vq p 1 (qt M t k t j) (p - 2).toNat) (qt M t k) t
def adR (p:Int) (M:eA) (t j k:Nat) (d:Int):Int:=(if k=t then d else(p - d)%p)*qt M t k t j%p
def xC (p:Int) (r:Nat) (s:eA×J×Int) (j:Nat):eA×J×Int:=
 if s.2.1.length<r then
  match xA s.1 j (r - s.2.1.length) s.2.1.length with
  |none=>s
  |some k=>(kq p (HZ p s.1 s.2.1.length j k) s.2.1.length j r,s.2.1++[(j:Int)],adR p s.1 s.2.1.length j k s.2.2)
 else s
def adS (p:Int) (r:Nat) (M:eA):Nat->eA×J×Int
 |0=>(M,[],1)
 |j+1=>xC p r (adS p r M j) j
def adT (x:Int×Int×Int×J):Prop:=pj x.1/\BA x.2/\qA x.1 x.2.2.2
instance (x:Int×Int×Int×J):Decidable (adT x):=by unfold adT;infer_instance
theorem agA {p:Int} {r c:Nat} {M:eA} (hM:qX p r c M) {a b:Nat} (ha:a<r) (hb:b<r):qX p r c (qt M a b):=by
 intro i hi j hj;unfold qt;split
 ·exact hM b hb j hj
 ·split
  ·exact hM a ha j hj
  ·exact hM i hi j hj
theorem afC {p inv:Int} {r c:Nat} {M:eA} (hp:pj p) (hM:qX p r c M) (t:Nat):qX p r c (BU p inv M t):=by
 intro i hi j hj;unfold BU;split
 ·exact Qx hp _
 ·exact hM i hi j hj
theorem ah4 {p:Int} {r c:Nat} {M:eA} (hp:pj p) (hM:qX p r c M) (t k n:Nat):qX p r c (kq p M t k n):=by
 intro i hi j hj;unfold kq;split
 ·exact Qx hp _
 ·exact hM i hi j hj
theorem arY {p:Int} {r c:Nat} {M:eA} (hp:pj p) (hM:qX p r c M) {t k:Nat} (ht:t<r) (hk:k<r) (j:Nat):qX p r c (HZ p M t j k):=afC hp (agA hM ht hk) t
structure RI (p:Int) (r c:Nat) (s:eA×J×Int) (j:Nat):Prop where
 m:qX p r c s.1
 l:s.2.1.length<=r
 lj:s.2.1.length<=j
 d:qY p s.2.2
 e:∀x∈s.2.1,0<=x/\x<(j:Int)
theorem RI.step {p:Int} {r c:Nat} {s:eA×J×Int} {j:Nat} (hp:pj p) (h:RI p r c s j):RI p r c (xC p r s j) (j+1):=by
 have fW:RI p r c s (j+1):=⟨h.m,h.l,by have:=h.lj;omega,h.d,fun x hx=>by have:=h.e x hx;omega⟩;unfold xC;split
 ·rename_i hl;split
  ·exact fW
  ·rename_i k hk;have hq:=TJ hk;refine⟨ah4 hp (arY hp h.m hl (by omega) j) _ _ _,?_,?_,Qx hp _,?_⟩
   ·simp only[List.length_append,List.length_cons,List.length_nil];omega
   ·have:=h.lj;simp only[List.length_append,List.length_cons,List.length_nil];omega
   ·intro x hx;simp only[List.mem_append,List.mem_singleton] at hx;rcases hx with hx|rfl
    ·have:=h.e x hx;omega
    ·omega
 ·exact fW
theorem ah3 {p:Int} (M:eA) (t j:Nat):kq p M t j 0=M:=by funext a b;exact if_neg (by omega)
theorem ah5 {p:Int} (M:eA) (t j n b:Nat):kq p M t j n n b=M n b:=if_neg (by omega)
theorem ah7 {p:Int} (M:eA) (t j n b:Nat):kq p M t j n t b=M t b:=if_neg (by omega)
theorem ah6 {p:Int} (M:eA) (t j:Nat):kq p M t j (t+1)=kq p M t j t:=by
 funext a b;unfold kq;by_cases h:a<t
 ·rw[if_pos (by omega),if_pos (by omega)]
 ·rw[if_neg (by omega),if_neg (by omega)]
theorem adt {M:eA} {j:Nat}:∀{d k:Nat},xA M j d k=none->∀i,k<=i->i<k+d->M i j=0
 |0,k,_,i,h1,h2=>by omega
 |d+1,k,h,i,h1,h2=>by
  simp only[xA] at h;split at h
  ·rename_i h0;by_cases hi:i=k
   ·rw[hi];exact h0
   ·exact adt h i (by omega) (by omega)
  ·cases h
theorem asj {p:Int} {r:Nat} {s:eA×J×Int} {j:Nat} (hl:s.2.1.length<r) (h:xA s.1 j (r - s.2.1.length) s.2.1.length=none):xC p r s j=s:=by
 unfold xC;rw[if_pos hl,h]
theorem asl {p:Int} {r:Nat} {s:eA×J×Int} {j k:Nat} (hl:s.2.1.length<r) (h:xA s.1 j (r - s.2.1.length) s.2.1.length=some k):
  xC p r s j=(kq p (HZ p s.1 s.2.1.length j k) s.2.1.length j r,s.2.1++[(j:Int)],adR p s.1 s.2.1.length j k s.2.2):=by
 unfold xC;rw[if_pos hl,h]
section
variable {p:Int} {r c:Nat} {M0:eA}
end
section
variable {p:Int} {r c:Nat} {M0:eA}
end
section
variable {p:Int} {r c:Nat} {M R:eA} {L:J}
end
abbrev I2:=Int×Int×Int×J
def atm:I2:=(0,0,0,[])
def afS (s:I2):Prop:=(0<=s.1/\s.1<=64)/\(0<=s.2.1/\s.2.1<=64)/\(0<=s.2.2.1/\s.2.2.1<=64)/\(s.2.2.2.length:Int)=s.1*s.2.1*s.2.2.1
instance (s:I2):Decidable (afS s):=by unfold afS;infer_instance
def bd (b:Int) (l:List I2):Nat->Int
 |0=>b
 |k+1=>(l.getD k atm).2.2.1
def eD (n:Nat) (f:Nat->Int):J:=(List.range n).map f
theorem gA (n:Nat) (f:Nat->Int):(eD n f).length=n:=by simp[eD]
theorem xJ {n j:Nat} (f:Nat->Int) (h:j<n):(eD n f)[j]? =some (f j):=by simp[eD,List.getElem?_range h]
theorem xI {n:Nat} {f g:Nat->Int} (h:∀j,j<n->f j=g j):eD n f=eD n g:=List.map_congr_left fun j hj=>h j (List.mem_range.1 hj)
theorem ad3 {n j:Nat} (f:Nat->Int) (x:Int):cg (eD n f) j x=eD n (fun q=>if q=j then x else f q):=by
 unfold cg;apply List.ext_getElem?;intro k;rw[List.getElem?_set,gA];by_cases hk:k<n
 ·rw[xJ _ hk,xJ _ hk];by_cases e:j=k
  ·subst e;simp[hk]
  ·rw[if_neg e];simp[show¬k=j from fun h=>e h.symm]
 ·rw[List.getElem?_eq_none (by rw[gA];omega),List.getElem?_eq_none (by rw[gA];omega)];by_cases e:j=k
  ·subst e;simp[hk]
  ·simp[e]
theorem Bz (n:Nat) (f:Nat->Int):aa (eD n f)=n:=gA n f
theorem adZ (n:Nat) (x:Int):dG n x=eD n (fun _=>x):=by
 unfold dG eD;rw[List.map_const',List.length_range]
theorem Z5 (n:Nat) (f g:Nat->Int):bn 0 (aa (eD n f)) (aa (eD n g))=some ():=by rw[Bz,Bz];exact bM n
theorem XL {n j:Nat} (f:Nat->Int) (h:j<n):eY (j:Int) (aa (eD n f))=some j:=lU (by rw[Bz];exact h)
theorem Q9 {n j:Nat} (f:Nat->Int) (h:j<n):cK (eD n f) j=some (f j):=xJ f h
theorem Q4 {α:Type} (P:Nat->α->Bool) (d:α):∀(l:List α) (i:Nat),nd (fun i (_:Unit) a=>if P i a=true then some () else none) i () l=if(∀k,k<l.length->P (i+k) (l.getD k d)=true) then some () else none
 |[],i=>by simp[nd]
 |a::l,i=>by
  rw[nd];by_cases h:P i a=true
  ·rw[if_pos h]
   try simp only
   rw[Q4 P d l (i+1)];have:(∀k,k<l.length->P (i+1+k) (l.getD k d)=true)↔(∀k,k<(a::l).length->P (i+k) ((a::l).getD k d)=true):=by
    constructor
    ·intro h1 k hk;cases k with
     |zero=>exact h
     |succ k=>have:=h1 k (by simpa using hk);rw[show i+(k+1)=i+1+k by omega];exact this
    ·intro h1 k hk;have:=h1 (k+1) (by simpa using hk);rw[show i+(k+1)=i+1+k by omega] at this;exact this
   by_cases hc:∀k,k<l.length->P (i+1+k) (l.getD k d)=true
   ·rw[if_pos hc,if_pos (this.1 hc)]
   ·rw[if_neg hc,if_neg (fun h2=>hc (this.2 h2))]
  ·rw[if_neg h,if_neg (fun h1=>h (h1 0 (by simp)))]
theorem map_take {α:Type} (g:α->Int) {L:List α} {j:Nat} {x:α} (h:L[j]? =some x):dQ ((L.take j).map g) [g x]=(L.take (j+1)).map g:=by
 simp[dQ,List.take_add_one,h]
def bW:J->Nat
 |[]=>1
 |x::l=>x.toNat*bW l
def eW (D:J) (i:Nat):Nat:=bW (D.drop i)
def eN (D:J) (n i:Nat):Int:=((n/eW D (i+1)%(D.getD i 0).toNat:Nat):Int)
def aU (D:J) (n:Nat):J:=eD D.length (eN D n)
def hJ (D ix:J):Nat->Nat
 |0=>0
 |j+1=>hJ D ix j*(D.getD j 0).toNat+(ix.getD j 0).toNat
def mI (D:J):Prop:=D.length<=1048576/\∀x∈D,1<=x/\x<=1048576
instance (D:J):Decidable (mI D):=by unfold mI;infer_instance
def CH:J×Int->Option J:=fun x=>if mI x.1/\0<=x.2/\x.2<=1048576 then some (aU x.1 x.2.toNat) else none
def x3:J×J->Option (Bool×J):=fun x=>
 if mI x.1/\x.2=aU x.1 (hJ x.1 x.2 x.1.length)/\hJ x.1 x.2 x.1.length<bW x.1/\bW x.1<=1048576 then
  some (decide (hJ x.1 x.2 x.1.length+1<bW x.1),aU x.1 (hJ x.1 x.2 x.1.length+1)) else none
def J6:ak:=[(.one,[.list [.int .i64]]),(.one,[.int .i64])]
def Vb:ak:=[(.one,[.list [.int .i64]])]
def ao8:aK:=[]
def Jj:ak:=[(.one,[.list [.int .i64]]),(.one,[.list [.int .i64]])]
def Um:ak:=[(.one,[.bool]),(.one,[.list [.int .i64]])]
def Mt:aK:=[[],[some .aN]]
def Po (NN:Nat):(J×Int)->(Option J):=
 (fun((l0,i1):(J×Int))=>
 (lc (aA (aa l0)) (aA (aa l0)) 8).ae (fun k2=>
 bT ((bn 0 k2 (aa (dG k2 (0:Int)))).ae (fun _=>
 cq NN (fun(((l3,i4,i5),l6):((J×(Int×Int))×J))=>
 aw (jr (0:Int) i5)
 ((dm l3 i5).ae (fun i7=>
 (rz i4 i7).ae (fun i8=>
 (eY i5 (aa l6)).ae (fun k9=>
 (cK l6 (aI 0 k9)).ae (fun kQ=>
 (dm l3 i5).ae (fun j3=>
 (H7 .i64 i4 j3).ae (fun jb=>
 (bn 0 (aa l6) (aa (cg l6 (aI 0 k9) i8))).ae (fun _=>
 some (Sum.inl ((l3,jb,kf .i64 i5 1),cg l6 (aI 0 k9) i8))))))))))
 ((ar l6 (
 some (Sum.inl l6))).ae (fun gm=>
 some (Sum.inr gm))))
 ((l0,i1,kf .i64 (aA (aa l0)) (1:Int)),dG k2 (0:Int))))
 (fun ff=>
 (dN ff (aa ff)).ae (fun eU=>
 some eU))))
def OH (NN:Nat):(J×J)->(Option (Bool×J)):=
 (fun((l0,l1):(J×J))=>
 bT (ar l1 (
 cq NN (fun(((l2,i3),l4):((J×Int)×J))=>
 aw (jr (0:Int) i3)
 ((eY i3 (aa l4)).ae (fun k5=>
 (cK l4 (aI 0 k5)).ae (fun i6=>
 (eY i3 (aa l4)).ae (fun k7=>
 (cK l4 (aI 0 k7)).ae (fun i8=>
 (eY i3 (aa l4)).ae (fun k9=>
 (cK (cg l4 (aI 0 k7) (cR .i64 i6 1)) (aI 0 k9)).ae (fun kQ=>
 (dm l2 i3).ae (fun j3=>
 aw (bG kQ j3)
 ((((kE (aa (cg l4 (aI 0 k7) (cR .i64 i6 1))) (aa l1)).ae (fun _=>
 some (true,cg l4 (aI 0 k7) (cR .i64 i6 1)))).ae (fun((PS,gm):(Bool×J))=>
 some (Sum.inr (PS,gm)))).ae (fun ff=>
 some (Sum.inr ff)))
 ((eY i3 (aa l4)).ae (fun SQ=>
 (cK (cg l4 (aI 0 k7) (cR .i64 i6 1)) (aI 0 SQ)).ae (fun vk=>
 (bn 0 (aa l4) (aa (cg (cg l4 (aI 0 k7) (cR .i64 i6 1)) (aI 0 SQ) (0:Int)))).ae (fun _=>
 some (Sum.inl ((l2,kf .i64 i3 1),cg (cg l4 (aI 0 k7) (cR .i64 i6 1)) (aI 0 SQ) (0:Int)))))))))))))))
 (some (Sum.inr (Sum.inl l4))))
 ((l0,kf .i64 (aA (aa l0)) (1:Int)),l1)))
 (fun fj=>
 (kE (aa fj) (aa l1)).ae (fun _=>
 some (false,fj))))
theorem Gl {D:J} (h:mI D) {i:Nat} (hi:i<D.length):∃d:Nat,D[i]? =some (d:Int)/\D.getD i 0=(d:Int)/\(D.getD i 0).toNat=d/\1<=d/\d<=1048576:=by
 have e:=getD_some 0 hi;have hm:=h.2 _ (List.mem_of_getElem? e);obtain⟨d,hd⟩:=rp (show 0<=D.getD i 0 by omega);exact⟨d,by rw[e,hd],hd,by rw[hd];rfl,by omega,by omega⟩
theorem Fm {D:J} {i:Nat} (hi:i<D.length):eW D i=(D.getD i 0).toNat*eW D (i+1):=by
 unfold eW;rw[drop_cons (getD_some 0 hi),bW]
theorem Fl (D:J):eW D D.length=1:=by simp[eW,bW]
theorem Wm (D:J):eW D 0=bW D:=rfl
theorem BK:∀{D:J},(∀x∈D,1<=x)->0<bW D
 |[],_=>Nat.one_pos
 |x::l,h=>by
  have h1:=h x List.mem_cons_self;exact Nat.mul_pos (by omega) (BK fun y hy=>h y (List.mem_cons_of_mem _ hy))
theorem agI {D:J} (h:mI D) (i:Nat):0<eW D i:=BK fun x hx=>(h.2 x (List.mem_of_mem_drop hx)).1
theorem EL:∀{D:J},(∀x∈D,1<=x)->eC D=(bW D:Int)
 |[],_=>rfl
 |x::l,h=>by
  have h1:=h x List.mem_cons_self;rw[eC,bW,EL fun y hy=>h y (List.mem_cons_of_mem _ hy)];obtain⟨x,rfl⟩:=rp (show 0<=x by omega);simp
theorem agH {D:J} {i j:Nat} (h:i<=j) (hj:j<=D.length):eW D j∣eW D i:=by
 obtain⟨k,rfl⟩:∃k,j=i+k:=⟨j - i,by omega⟩;induction k with
 |zero=>exact Nat.dvd_refl _
 |succ k ih=>
  refine Nat.dvd_trans ?_ (ih (by omega) (by omega));rw[Fm (i:=i+k) (by omega)];exact Nat.dvd_mul_left _ _
def sL (D:J) (n n' k:Nat):J:=eD D.length fun q=>if k<=q then eN D n' q else eN D n q
theorem an9 (D:J) (n n':Nat):sL D n n' 0=aU D n':=xI fun q _=>by simp
theorem aoa (D:J) (n n':Nat):sL D n n' D.length=aU D n:=xI fun q hq=>by simp;intro h;omega
theorem abB (D:J) (n n' k:Nat):cg (sL D n n' (k+1)) k (eN D n' k)=sL D n n' k:=by
 unfold sL;rw[ad3];refine xI fun q _=>?_;by_cases e:q=k
 ·subst e;simp
 ·by_cases h:k<=q
  ·rw[if_neg e,if_pos (by omega),if_pos h]
  ·rw[if_neg e,if_neg (by omega),if_neg h]
theorem Mq (D:J) (n n' k:Nat):aa (sL D n n' k)=D.length:=gA _ _
theorem Eu {D:J} {n n' k:Nat} (h:k<D.length):cK (sL D n n' (k+1)) k=some (eN D n k):=by
 unfold sL;rw[Q9 _ h,if_neg (by omega)]
theorem ahY {a b:Nat} (hb:0<b) (ha:a<=1048576):H7 .i64 (a:Int) (b:Int)=some ((a/b:Nat):Int):=by
 have e:((a:Int)/(b:Int))=((a/b:Nat):Int):=by norm_cast
 have:a/b<=a:=Nat.div_le_self a b;unfold H7;rw[if_neg (by omega),Int.tdiv_eq_ediv_of_nonneg (by omega),e];clear e;generalize a/b=q at*
 rw[Oi (by omega) (by omega)]
theorem XC {a b:Nat} (hb:0<b):rz (a:Int) (b:Int)=some ((a%b:Nat):Int):=by
 rw[ass (by omega) (by omega)];norm_cast
theorem NS {n:Nat} (h:n<=1048577):kf .i64 (n:Int) 1=(n:Int) - 1:=s7 (by omega) (by omega)
theorem akv (x:J×Int) (y:J) (h:CH x=some y):Po aP x=some y:=by
 obtain⟨D,n⟩:=x;simp only[CH] at h;split at h
 ·rename_i hc;obtain⟨hD,h0,h1⟩:=hc;rw[<-h];obtain⟨n,rfl⟩:=rp h0;have hl:=hD.1;simp only[Po,Int.toNat_natCast,ar];rw[qh (n:=aa D) (by simp only[aa,dX];omega),bk];rw[show bn 0 (aa D) (aa (dG (aa D) (0:Int)))=some () from by rw[qf];exact bM _,bk]
  rw[fF (fun j=>((D,((n/eW D (D.length - j):Nat):Int),(D.length:Int) - j - 1),eD D.length fun q=>if D.length - j<=q then eN D n q else 0)) (r:=Sum.inl (aU D n)) D.length ?_ ?_ ?_ (ew (by omega))]
  ·rw[mO,iy,bk]
  ·intro j hj;have hk:D.length - (j+1)<D.length:=by omega
   obtain⟨d,d1,d2,d3,d4,d5⟩:=Gl hD hk;have ek:(D.length:Int) - j - 1=((D.length - (j+1):Nat):Int):=by omega
   have eT:eW D (D.length - (j+1))=d*eW D (D.length - j):=by rw[Fm hk,d3];congr 2;omega
   have aiB:eN D n (D.length - (j+1))=((n/eW D (D.length - j)%d:Nat):Int):=by unfold eN;rw[d3];congr 4;omega
   have gG:n/eW D (D.length - j)<=n:=Nat.div_le_self _ _;simp only
   rw[ek,ba (sI (by omega)),dn,d1,bk,XC (by omega),bk,XL _ hk,bk,gd,Q9 _ hk,bk];simp only[bk];rw[ahY (by omega) (by omega),bk,<-aiB,ad3];simp only[Z5,bk];rw[NS (by omega),Nat.div_div_eq_div_mul,Nat.mul_comm (eW D (D.length - j)) d,<-eT];have er:eD D.length (fun q=>if q=D.length - (j+1) then eN D n (D.length - (j+1)) else if D.length - j<=q then eN D n q else 0)=eD D.length fun q=>if D.length - (j+1)<=q then eN D n q else 0:=by
    refine xI fun q _=>?_;by_cases e:q=D.length - (j+1)
    ·rw[if_pos e,if_pos (by omega),e]
    ·rw[if_neg e];by_cases h:D.length - j<=q
     ·rw[if_pos h,if_pos (by omega)]
     ·rw[if_neg h,if_neg (by omega)]
   rw[er];congr 5;omega
  ·simp only
   rw[be (Bx (by omega))];simp only[Z5,bk];rw[show eD D.length (fun q=>if D.length - D.length<=q then eN D n q else 0)=aU D n from xI fun q _=>by simp]
  ·rw[adZ,Nat.sub_zero,Fl,Nat.div_one];have e1:kf .i64 (aA (aa D)) 1=(D.length:Int) - ((0:Nat):Int) - 1:=by rw[nl,NS (by omega)];omega
   rw[e1];have e2:eD (aa D) (fun _=>(0:Int))=eD D.length fun q=>if D.length<=q then eN D n q else 0:=xI fun q hq=>by rw[if_neg (by have:aa D=D.length:=rfl;omega)]
   rw[e2]
 ·cases h
theorem aiu {a k:Nat} (hk:0<k) (h:(a+1)%k≠0):(a+1)/k=a/k:=by
 rw[Nat.succ_div,if_neg (fun hd=>h (Nat.mod_eq_zero_of_dvd hd)),Nat.add_zero]
theorem aiv {a k:Nat} (hk:0<k) (h:(a+1)%k=0):(a+1)/k=a/k+1:=by
 rw[Nat.succ_div,if_pos (Nat.dvd_of_mod_eq_zero h)]
theorem aiq {D:J} (hD:mI D) {n i:Nat} (hi:i<=D.length) (h:(n+1)%eW D i≠0) {q:Nat} (hq:q<i):eN D (n+1) q=eN D n q:=by
 unfold eN;rw[aiu (agI hD _)];intro h0;exact h (Nat.mod_eq_zero_of_dvd (Nat.dvd_trans (agH hq hi) (Nat.dvd_of_mod_eq_zero h0)))
theorem X9 {D:J} (hD:mI D) {n i:Nat} (hi:i<D.length) (h:(n+1)%eW D (i+1)=0):
  (eN D n i+1<D.getD i 0->eN D (n+1) i=eN D n i+1/\(n+1)%eW D i≠0)/\(¬eN D n i+1<D.getD i 0->eN D (n+1) i=0/\(n+1)%eW D i=0):=by
 obtain⟨d,d1,d2,d3,d4,d5⟩:=Gl hD hi;have hT:=agI hD (i+1);have e1:=aiv hT h;obtain⟨c,hc⟩:=Nat.dvd_of_mod_eq_zero h;have ec:(n+1)/eW D (i+1)=c:=by rw[hc,Nat.mul_div_cancel_left _ hT]
 have aiE:(n+1)%eW D i=eW D (i+1)*(c%d):=by rw[Fm hi,d3,hc,Nat.mul_comm d,Nat.mul_mod_mul_left]
 unfold eN;rw[d2,ec,aiE];simp only[Int.toNat_natCast];rw[ec] at e1;have cu:n/eW D (i+1)%d<d:=Nat.mod_lt _ (by omega);have cW:c%d=if n/eW D (i+1)%d+1<d then n/eW D (i+1)%d+1 else 0:=by
  rw[e1,Nat.add_mod];split
  ·rename_i hx;by_cases hd1:d=1
   ·omega
   ·rw[Nat.mod_eq_of_lt (show 1<d by omega),Nat.mod_eq_of_lt hx]
  ·by_cases hd1:d=1
   ·subst hd1;omega
   ·rw[Nat.mod_eq_of_lt (show 1<d by omega),show n/eW D (i+1)%d+1=d by omega,Nat.mod_self]
 constructor
 ·intro hx;rw[cW,if_pos (by omega)];refine⟨by omega,?_⟩;have:=Nat.mul_pos hT (show 0<n/eW D (i+1)%d+1 by omega);omega
 ·intro hx;rw[cW,if_neg (by omega)];exact⟨by omega,by simp⟩
theorem ajK (x:J×J) (y:Bool×J) (h:x3 x=some y):OH aP x=some y:=by
 obtain⟨D,ix⟩:=x;simp only[x3] at h;split at h
 ·rename_i hc;obtain⟨hD,yQ,hn,hp⟩:=hc;rw[<-h];generalize hJ D ix D.length=n at*
  subst yQ;have hl:=hD.1;have hlen:(aU D n).length=D.length:=gA _ _;simp only[OH,ar];rw[bM,bk];obtain⟨k,k1,k2,k3⟩:=Fg (fun j=>(n+1)%eW D (D.length - (j+1))=0) D.length;have Li:∀j,j<=k->(n+1)%eW D (D.length - j)=0:=fun j hj=>by
   cases j with
   |zero=>rw[Nat.sub_zero,Fl];omega
   |succ j=>exact k2 j (by omega)
  have ve:∀j,j<k->eN D (n+1) (D.length - (j+1))=0/\¬eN D n (D.length - (j+1))+1<D.getD (D.length - (j+1)) 0:=fun j hj=>by
   have hk:D.length - (j+1)<D.length:=by omega
   have h1:=Li j (by omega);rw[show D.length - j=D.length - (j+1)+1 by omega] at h1;obtain⟨c1,c2⟩:=X9 hD hk h1;by_cases hx:eN D n (D.length - (j+1))+1<D.getD (D.length - (j+1)) 0
   ·exact absurd (Li (j+1) (by omega)) (c1 hx).2
   ·exact⟨(c2 hx).1,hx⟩
  have hd0:∀q,0<=eN D n q/\eN D n q<=1048576:=fun q=>by
   unfold eN;have h1:n/eW D (q+1)%(D.getD q 0).toNat<=n/eW D (q+1):=Nat.mod_le _ _;have h2:n/eW D (q+1)<=n:=Nat.div_le_self _ _;omega
  have e0:kf .i64 (aA (aa D)) 1=(D.length:Int) - ((0:Nat):Int) - 1:=by rw[nl,NS (by omega)];omega
  rw[fF (fun j=>((D,(D.length:Int) - (j:Int) - 1),sL D n (n+1) (D.length - j))) (r:=if k=D.length then Sum.inl (aU D (n+1)) else Sum.inr (true,aU D (n+1))) k ?_ ?_ ?_ (ew (by omega))]
  ·by_cases hk:k=D.length
   ·rw[if_pos hk,mO];have hz:(n+1)%bW D=0:=by have:=Li k (Nat.le_refl _);rwa[hk,Nat.sub_self,Wm] at this
    have Hd:¬n+1<bW D:=fun hx=>by rw[Nat.mod_eq_of_lt hx] at hz;omega
    rw[decide_eq_false Hd,xL (by show aa (aU D (n+1))=aa (aU D n);unfold aU;rw[Bz,Bz]),bk]
   ·rw[if_neg hk,L5];have Ly:=(k3.resolve_left hk);have Hd:n+1<bW D:=by
     rcases Nat.lt_or_ge (n+1) (bW D) with h|h
     ·exact h
     ·exfalso;have e:n+1=bW D:=by omega
      apply Ly;rw[e,<-Wm];exact Nat.mod_eq_zero_of_dvd (agH (Nat.zero_le _) (by omega))
    rw[decide_eq_true Hd]
  ·intro j hj;have hk:D.length - (j+1)<D.length:=by omega
   have ek:(D.length:Int) - j - 1=((D.length - (j+1):Nat):Int):=by omega
   obtain⟨s1,s2⟩:=ve j hj;have tI:=hd0 (D.length - (j+1));simp only
   rw[ek,show D.length - j=D.length - (j+1)+1 by omega,ba (sI (by omega)),lU (by rw[Mq];exact hk),bk,gd,Eu hk,bk];simp only[bk,gd,Eu hk];rw[fe (by omega) (by omega)];have eg:cK (cg (sL D n (n+1) (D.length - (j+1)+1)) (D.length - (j+1)) (eN D n (D.length - (j+1))+1)) (D.length - (j+1))=some (eN D n (D.length - (j+1))+1):=Ld (Eu hk);rw[eg,bk,dn,getD_some 0 hk,bk,be (eO (by omega))]
   try simp only[bk,gd,eg]
   rw[VE,<-s1,abB,Mq,Mq,bM,bk,NS (by omega)];congr 4;omega
  ·by_cases hk:k=D.length
   ·rw[if_pos hk,hk];simp only
    rw[be (Bx (by omega)),Nat.sub_self,an9]
   ·rw[if_neg hk];have nk:D.length - (k+1)<D.length:=by omega
    have ek:(D.length:Int) - k - 1=((D.length - (k+1):Nat):Int):=by omega
    have h1:=Li k (Nat.le_refl _);rw[show D.length - k=D.length - (k+1)+1 by omega] at h1;obtain⟨c1,c2⟩:=X9 hD nk h1;have Ly:=(k3.resolve_left hk);have hx:eN D n (D.length - (k+1))+1<D.getD (D.length - (k+1)) 0:=by
     rcases Decidable.em (eN D n (D.length - (k+1))+1<D.getD (D.length - (k+1)) 0) with h|h
     ·exact h
     ·exact absurd (c2 h).2 Ly
    obtain⟨s1,s2⟩:=c1 hx;have tI:=hd0 (D.length - (k+1));simp only
    rw[ek,show D.length - k=D.length - (k+1)+1 by omega,ba (sI (by omega)),lU (by rw[Mq];exact nk),bk,gd,Eu nk,bk];simp only[bk,gd,Eu nk];rw[fe (by omega) (by omega)];have eg:cK (cg (sL D n (n+1) (D.length - (k+1)+1)) (D.length - (k+1)) (eN D n (D.length - (k+1))+1)) (D.length - (k+1))=some (eN D n (D.length - (k+1))+1):=Ld (Eu nk);rw[eg,bk,dn,getD_some 0 nk,bk,ba (d6 (by omega))];rw[<-s1,abB];have er:sL D n (n+1) (D.length - (k+1))=aU D (n+1):=xI fun q hq=>by
     by_cases h:D.length - (k+1)<=q
     ·rw[if_pos h]
     ·rw[if_neg h,aiq hD (by omega) Ly (by omega)]
    rw[er,xL (by show aa (aU D (n+1))=aa (aU D n);unfold aU;rw[Bz,Bz]),bk];rfl
  ·rw[e0,Nat.sub_zero,aoa]
 ·cases h
theorem Bh {D:J} {n i:Nat} (hi:i<D.length):(aU D n).getD i 0=eN D n i:=by
 rw[List.getD_eq_getElem?_getD,aU,xJ _ hi];rfl
theorem ac6 {D:J} (hD:mI D) {n:Nat} (hn:n<bW D):∀j,j<=D.length->hJ D (aU D n) j=n/eW D j
 |0,_=>by rw[Wm,Nat.div_eq_of_lt hn];rfl
 |j+1,hj=>by
  rw[hJ,ac6 hD hn j (by omega),Bh (by omega),eN,Int.toNat_natCast,Fm (by omega),Nat.mul_comm (D.getD j 0).toNat,<-Nat.div_div_eq_div_mul,Nat.mul_comm,Nat.div_add_mod]
theorem Ey {D:J} (hD:mI D) {n:Nat} (hn:n<bW D) (hp:bW D<=1048576):x3 (D,aU D n)=some (decide (n+1<bW D),aU D (n+1)):=by
 have e:=ac6 hD hn D.length (Nat.le_refl _);rw[Fl,Nat.div_one] at e;simp only[x3,e];rw[if_pos ⟨hD,trivial,hn,hp⟩]
theorem BS (n:Nat) (f:Nat->Int):dQ (eD n f) [f n]=eD (n+1) f:=by
 unfold dQ eD;rw[List.range_succ,List.map_append];rfl
theorem aaO {D:J} (hD:mI D):dG (aa D) (0:Int)=aU D 0:=by
 rw[adZ];refine xI fun i _=>?_;simp[eN]
def rP:J×J->Option Bool:=fun x=>if x.1.length<=1048576/\x.2.length<=1048576 then some (decide (x.1=x.2)) else none
def uk:J×J->Option Bool:=rP
def Kd:ak:=[(.one,[.list [.int .i64]]),(.one,[.list [.int .i64]])]
def Vh:ak:=[(.one,[.bool])]
def apd:aK:=[]
def Je:ak:=[(.one,[.list [.int .i64]]),(.one,[.list [.int .i64]])]
def Uh:ak:=[(.one,[.bool])]
def aom:aK:=[]
def Pu (NN:Nat):(J×J)->(Option Bool):=
 (fun((l0,l1):(J×J))=>
 bT (cq NN (fun((l2,l3,l4,i5,i6):(J×(J×(J×(Int×Int)))))=>
 aw (bG i6 i5)
 ((dm l4 i6).ae (fun i7=>
 aw (jr (aA (aa l3)) i6)
 (some (Sum.inr (Sum.inr false)))
 ((dm l3 i6).ae (fun i8=>
 aw (fL i8 i7)
 (some (Sum.inr (Sum.inr false)))
 (some (Sum.inl (l2,l3,l4,i5,cR .i64 i6 1)))))))
 (some (Sum.inr (Sum.inl (l2,l3)))))
 (l0,l1,l0,aA (aa l0),(0:Int)))
 (fun(l9,e7)=>
 some (dJ (aA (aa l9)) (aA (aa e7)))))
def OB (NN:Nat):(J×J)->(Option Bool):=
 (fun((l0,l1):(J×J))=>
 aw (fL (aA (aa l0)) (aA (aa l1)))
 (some false)
 (bT (cq NN (fun((l2,l3,i4,i5):(J×(J×(Int×Int))))=>
 aw (bG i5 i4)
 ((dm l2 i5).ae (fun i6=>
 (dm l3 i5).ae (fun i7=>
 aw (fL i6 i7)
 (some (Sum.inr (Sum.inr false)))
 (some (Sum.inl (l2,l3,i4,cR .i64 i5 1))))))
 (some (Sum.inr (Sum.inl ()))))
 (l0,l1,aA (aa l0),(0:Int)))
 (fun _=>
 some true)))
theorem KQ {x y:J} (h:x.length=y.length):(x=y)↔∀k,k<x.length->x.getD k 0=y.getD (0+k) 0:=by
 constructor
 ·rintro rfl k _;rw[Nat.zero_add]
 ·intro h1;apply List.ext_getElem?;intro k;by_cases hk:k<x.length
  ·have:=h1 k hk;rw[Nat.zero_add] at this;rw[getD_some 0 hk,getD_some 0 (show k<y.length by omega),this]
  ·rw[List.getElem?_eq_none (by omega),List.getElem?_eq_none (by omega)]
theorem ajF (x:J×J) (y:Bool) (h:uk x=some y):OB aP x=some y:=by
 obtain⟨D,ix⟩:=x;simp only[uk,rP] at h;split at h
 ·rename_i hc;obtain⟨h1,h2⟩:=hc;rw[<-h];simp only[OB];by_cases hl:D.length=ix.length
  ·rw[be (ov (by simp only[nl,hl]))];rw[abq D (fun(_:Unit) i=>(D,ix,aA (aa D),(i:Int))) (fun _ _=>True) (fun i _ v=>if decide (v=ix.getD i 0)=true then some () else none) (Sum.inr false) (fun _=>Sum.inl ()) ?_ ?_ ?_ (s:=()) trivial ?_ (ew (by omega))]
   ·rw[Q4 (fun i v=>decide (v=ix.getD i 0)) 0];by_cases hk:∀k,k<D.length->decide (D.getD k 0=ix.getD (0+k) 0)=true
    ·rw[if_pos hk,decide_eq_true ((KQ hl).2 fun k bL=>of_decide_eq_true (hk k bL))];rfl
    ·rw[if_neg hk,decide_eq_false (fun h=>hk fun k bL=>decide_eq_true ((KQ hl).1 h k bL))];rfl
   all_goals try simp only
   ·intro i _ v hv _;have hi:=Es hv;rw[ba (kB hv),dn,hv,bk,dn,getD_some 0 (show i<ix.length by omega),bk];by_cases q:v=ix.getD i 0
    ·rw[be (ov q),if_pos (decide_eq_true q),nC hv (by omega)]
    ·rw[ba (rr q),if_neg (fun h=>q (of_decide_eq_true h))]
   ·intros;trivial
   ·intro _ _;rw[be (g9 D)]
   ·rfl
  ·rw[ba (rr (by simp only[nl];omega)),decide_eq_false (fun e=>hl (by rw[e]))]
 ·cases h
theorem akB (x:J×J) (y:Bool) (h:rP x=some y):Pu aP x=some y:=by
 obtain⟨D,ix⟩:=x;simp only[rP] at h;split at h
 ·rename_i hc;obtain⟨h1,h2⟩:=hc;rw[<-h];simp only[Pu];rw[abq D (fun(_:Unit) i=>(D,ix,D,aA (aa D),(i:Int))) (fun _ _=>True) (fun i _ v=>if(decide (i<ix.length)&&decide (v=ix.getD i 0))=true then some () else none) (Sum.inr false) (fun _=>Sum.inl (D,ix)) ?_ ?_ ?_ (s:=()) trivial ?_ (ew (by omega))]
  ·rw[Q4 (fun i v=>decide (i<ix.length)&&decide (v=ix.getD i 0)) 0];by_cases hl:D.length=ix.length
   ·by_cases hk:∀k,k<D.length->(decide (0+k<ix.length)&&decide (D.getD k 0=ix.getD (0+k) 0))=true
    ·rw[if_pos hk,decide_eq_true ((KQ hl).2 fun k bL=>by have:=hk k bL;simp only[Bool.and_eq_true,decide_eq_true_eq] at this;exact this.2)];simp only[mO];rw[r6 (by simp only[nl,hl])]
    ·rw[if_neg hk,decide_eq_false (fun h=>hk fun k bL=>by simp only[Bool.and_eq_true,decide_eq_true_eq];exact⟨by omega,(KQ hl).1 h k bL⟩)];rfl
   ·rw[decide_eq_false (fun e=>hl (by rw[e]))];split
    ·simp only[mO];rw[r5 (by simp only[nl];omega)]
    ·rfl
  all_goals try simp only
  ·intro i _ v hv _;have hi:=Es hv;rw[ba (kB hv),dn,hv,bk];by_cases hk:i<ix.length
   ·rw[be (Bx (by rw[nl];omega)),dn,getD_some 0 hk,bk];by_cases q:v=ix.getD i 0
    ·rw[be (ov q.symm),if_pos (by rw[decide_eq_true hk,decide_eq_true q];rfl),nC hv (by omega)]
    ·rw[ba (rr (fun e=>q e.symm)),if_neg (by rw[decide_eq_true hk,decide_eq_false q];simp)]
   ·rw[ba (sI (by rw[nl];omega)),if_neg (by rw[decide_eq_false hk];simp)]
  ·intros;trivial
  ·intro _ _;rw[be (g9 D)]
  ·rfl
 ·cases h
def gn:Int×Int×Int->Bool:=fun((k,p,n):Int×Int×Int)=>
 if k=1 then decide (p=0/\n=0) else if k=2 then gZ p&&decide (n=0) else if k=3\/k=4\/k=5 then decide ((1<=p/\p<=1000000)/\n=0)
 else if k=6 then decide (p=0/\1<=n/\n<=20) else if k=7 then gZ p&&decide (1<=n/\n<=6) else if k=8 then gZ p&&decide (p≠2/\n=0) else false
def jQ:Int×Int×Int->Int:=fun((k,p,n):Int×Int×Int)=>if k=7 then n else if k=8 then 4 else 1
def bc (r:Int×Int×Int):Nat:=(jQ r).toNat
def fg:Int×Int×Int->Int:=fun((k,p,n):Int×Int×Int)=>if k=1 then 1 else if k=3\/k=4\/k=5 then p else if k=6 then 2^n.toNat - 1 else p - 1
def qZ (t v:Int):Bool:=decide (0<=v/\v<=t)
def nO (r:Int×Int×Int) (x:J):Bool:=decide (x.length=bc r)&&x.all (qZ (fg r))
def lR:Int×Int×Int->J:=fun((k,p,n):Int×Int×Int)=>if k=4 then[p] else dG (bc (k,p,n)) 0
def ED:Int×Int×Int->J:=fun((k,p,n):Int×Int×Int)=>cg (dG (bc (k,p,n)) 0) 0 (if k=4 then 0 else if k=5\/k=6 then fg (k,p,n) else 1)
def sm:Nat->(Nat->Int)->Int
 |0,_=>0
 |n+1,f=>sm n f+f n
def kW (om:Bool) (x y:Nat->Int) (t i j:Nat):Int:=if i+j=t then x i*y j else if om=true/\i+j=t+4 then -(x i*y j) else 0
def pA (w:Nat) (f:Nat->Int):J:=(List.range w).map f
def fz (x:J):Nat->Int:=fun i=>x.getD i 0
def Ar (p:Int) (om:Bool) (w:Nat) (x y:Nat->Int):J:=pA w fun t=>sm w (fun i=>sm w (fun j=>kW om x y t i j))%p
def ru:Int×Int×Int->Int->Int->Int:=fun((k,p,n):Int×Int×Int) a b=>
 if k=1\/k=6 then((a.toNat&&&b.toNat:Nat):Int) else if k=2 then a*b%p else if k=3 then min (a*b) p else if k=4 then min (a+b) p else min a b
def zp (r:Int×Int×Int) (x y:J):J:=if r.1=7\/r.1=8 then Ar r.2.1 (decide (r.1=8)) (bc r) (fz x) (fz y) else[ru r (fz x 0) (fz y 0)]
def yd:Int×Int×Int->Option Bool:=fun r=>some (gn r)
def xY:Int×Int×Int->Option Bool:=fun r=>some (gn r)
def uu:Int×Int×Int->Option Int:=fun r=>some (jQ r)
def rL:Int×Int×Int->Option Int:=fun r=>some (jQ r)
def FI:Int×Int×Int->Option Int:=fun r=>if gn r=true then some (fg r) else none
def Cr:Int×Int×Int->Option Int:=fun r=>if gn r=true then some (fg r) else none
def Cl:(Int×Int×Int)×J->Option Bool:=fun((r,x):(Int×Int×Int)×J)=>if gn r=true/\x.length<=9223372036854775806 then some (x.all (qZ (fg r))) else none
def FJ:Int×Int×Int->Option J:=fun r=>if gn r=true then some (lR r) else none
def Cs:Int×Int×Int->Option J:=fun r=>if gn r=true then some (lR r) else none
def z6:Int×Int×Int->Option (Int×Int×Int):=fun r=>some r
def JR:ak:=[(.agg,[.int .i64,.int .i64,.int .i64])]
def UW:ak:=[(.agg,[.int .i64,.int .i64,.int .i64])]
def aoT:aK:=[]
def I8:ak:=[(.agg,[.int .i64,.int .i64,.int .i64])]
def Ub:ak:=[(.one,[.bool])]
def aog:aK:=[]
def JW:ak:=[(.agg,[.int .i64,.int .i64,.int .i64])]
def U1:ak:=[(.one,[.bool])]
def aoY:aK:=[]
def Jp:ak:=[(.agg,[.int .i64,.int .i64,.int .i64])]
def Ur:ak:=[(.one,[.int .i64])]
def aov:aK:=[]
def J1:ak:=[(.agg,[.int .i64,.int .i64,.int .i64])]
def U6:ak:=[(.one,[.int .i64])]
def ao3:aK:=[]
def Jo:ak:=[(.agg,[.int .i64,.int .i64,.int .i64])]
def Uq:ak:=[(.one,[.int .i64])]
def aou:aK:=[]
def J0:ak:=[(.agg,[.int .i64,.int .i64,.int .i64])]
def U5:ak:=[(.one,[.int .i64])]
def ao2:aK:=[]
def Ji:ak:=[(.agg,[.int .i64,.int .i64,.int .i64]),(.one,[.list [.int .i64]])]
def Ul:ak:=[(.one,[.bool])]
def aoq:aK:=[]
def Jq:ak:=[(.agg,[.int .i64,.int .i64,.int .i64])]
def Ut:ak:=[(.one,[.list [.int .i64]])]
def aow:aK:=[]
def J2:ak:=[(.agg,[.int .i64,.int .i64,.int .i64])]
def U7:ak:=[(.one,[.list [.int .i64]])]
def ao4:aK:=[]
def WU (NN:Nat):(Int×(Int×Int))->(Option (Int×(Int×Int))):=
 (fun((i0,i1,i2):(Int×(Int×Int)))=>
 some (i0,i1,i2))
def Ov (NN:Nat):(Int×(Int×Int))->(Option Bool):=
 (fun((i0,i1,i2):(Int×(Int×Int)))=>
 aw (dJ i0 (1:Int))
 (aw (dJ i1 (0:Int))
 (some (dJ i2 (0:Int)))
 (some false))
 (aw (dJ i0 (2:Int))
 ((xX i1).ae (fun b3=>
 aw (b3)
 (some (dJ i2 (0:Int)))
 (some false)))
 (bT (aw (dJ i0 (3:Int))
 (some (Sum.inl ((true,i0),i0,i1,i2)))
 (aw (dJ i0 (4:Int))
 (some (Sum.inl ((true,i0),i0,i1,i2)))
 (some (Sum.inl ((dJ i0 (5:Int),i0),i0,i1,i2)))))
 (fun((b4,i5),i6,i7,i8)=>
 aw (b4)
 (aw (jr (1:Int) i7)
 (aw (jr i7 (1000000:Int))
 (some (dJ i8 (0:Int)))
 (some false))
 (some false))
 (aw (dJ i5 (6:Int))
 (aw (dJ i7 (0:Int))
 (aw (jr (1:Int) i8)
 (some (jr i8 (20:Int)))
 (some false))
 (some false))
 (aw (dJ i5 (7:Int))
 ((xX i7).ae (fun b9=>
 aw (b9)
 (aw (jr (1:Int) i8)
 (some (jr i8 (6:Int)))
 (some false))
 (some false)))
 (aw (dJ i5 (8:Int))
 ((xX i7).ae (fun lT=>
 aw (lT)
 (aw (fL i7 (2:Int))
 (some (dJ i8 (0:Int)))
 (some false))
 (some false)))
 (some false))))))))
def Pg (NN:Nat):(Int×(Int×Int))->(Option Bool):=
 (fun((i0,i1,i2):(Int×(Int×Int)))=>
 aw (dJ i0 (1:Int))
 (aw (dJ i1 (0:Int))
 (some (dJ i2 (0:Int)))
 (some false))
 (aw (dJ i0 (2:Int))
 ((x9 i1).ae (fun b3=>
 aw (b3)
 (some (dJ i2 (0:Int)))
 (some false)))
 (bT (aw (dJ i0 (3:Int))
 (some (Sum.inl ((true,i0),i0,i1,i2)))
 (aw (dJ i0 (4:Int))
 (some (Sum.inl ((true,i0),i0,i1,i2)))
 (some (Sum.inl ((dJ i0 (5:Int),i0),i0,i1,i2)))))
 (fun((b4,i5),i6,i7,i8)=>
 aw (b4)
 ((kG (i7,(1:Int),(1000000:Int))).ae (fun b9=>
 aw (b9)
 (some (dJ i8 (0:Int)))
 (some false)))
 (aw (dJ i5 (6:Int))
 (aw (dJ i7 (0:Int))
 ((kG (i8,(1:Int),(20:Int))).ae (fun lT=>
 some lT))
 (some false))
 (aw (dJ i5 (7:Int))
 ((x9 i7).ae (fun Km=>
 aw (Km)
 ((kG (i8,(1:Int),(6:Int))).ae (fun PS=>
 some PS))
 (some false)))
 (aw (dJ i5 (8:Int))
 ((x9 i7).ae (fun FZ=>
 aw (FZ)
 (aw (bG (2:Int) i7)
 (some (dJ i8 (0:Int)))
 (some false))
 (some false)))
 (some false))))))))
def OM (NN:Nat):(Int×(Int×Int))->(Option Int):=
 (fun((i0,i1,i2):(Int×(Int×Int)))=>
 aw (dJ i0 (7:Int))
 (some i2)
 (aw (dJ i0 (8:Int))
 (some (4:Int))
 (some (1:Int))))
def WW (NN:Nat):(Int×(Int×Int))->(Option Int):=
 (fun((i0,i1,i2):(Int×(Int×Int)))=>
 aw (dJ i0 (7:Int))
 (some i2)
 (aw (dJ i0 (8:Int))
 (some (4:Int))
 (some (1:Int))))
def WN (NN:Nat):(Int×(Int×Int))->(Option Int):=
 (fun((i0,i1,i2):(Int×(Int×Int)))=>
 aw (dJ i0 (1:Int))
 (some (1:Int))
 (bT (aw (dJ i0 (3:Int))
 (some (Sum.inl ((true,i0),i0,i1,i2)))
 (aw (dJ i0 (4:Int))
 (some (Sum.inl ((true,i0),i0,i1,i2)))
 (some (Sum.inl ((dJ i0 (5:Int),i0),i0,i1,i2)))))
 (fun((b3,i4),i5,i6,i7)=>
 aw (b3)
 (some i6)
 (aw (dJ i4 (6:Int))
 ((zI .i64 (1:Int) i7).ae (fun i8=>
 some (kf .i64 i8 1)))
 (some (kf .i64 i6 1))))))
def WV (NN:Nat):(Int×(Int×Int))->(Option Int):=
 (fun((i0,i1,i2):(Int×(Int×Int)))=>
 aw (dJ i0 (1:Int))
 (some (1:Int))
 (bT (aw (dJ i0 (3:Int))
 (some (Sum.inl ((true,i0),i0,i1,i2)))
 (aw (dJ i0 (4:Int))
 (some (Sum.inl ((true,i0),i0,i1,i2)))
 (some (Sum.inl ((dJ i0 (5:Int),i0),i0,i1,i2)))))
 (fun((b3,i4),i5,i6,i7)=>
 aw (b3)
 (some i6)
 (aw (dJ i4 (6:Int))
 ((zI .i64 (1:Int) i7).ae (fun i8=>
 some (kf .i64 i8 1)))
 (some (kf .i64 i6 1))))))
def OG (NN:Nat):((Int×(Int×Int))×J)->(Option Bool):=
 (fun(((i0,i1,i2),l3):((Int×(Int×Int))×J))=>
 (Cr (i0,i1,i2)).ae (fun i4=>
 bT (cq NN (fun((i5,l6,i7,i8):(Int×(J×(Int×Int))))=>
 aw (bG i8 i7)
 ((dm l6 i8).ae (fun i9=>
 aw (bG i9 (0:Int))
 (some (Sum.inr (Sum.inr false)))
 (aw (bG i5 i9)
 (some (Sum.inr (Sum.inr false)))
 (some (Sum.inl (i5,l6,i7,cR .i64 i8 1))))))
 (some (Sum.inr (Sum.inl ()))))
 (i4,l3,aA (aa l3),(0:Int)))
 (fun _=>
 some true)))
def ON (NN:Nat):(Int×(Int×Int))->(Option J):=
 (fun((i0,i1,i2):(Int×(Int×Int)))=>
 (rL (i0,i1,i2)).ae (fun i3=>
 (lc i3 i3 8).ae (fun k4=>
 bT (aw (dJ i0 (4:Int))
 ((eY (0:Int) k4).ae (fun k5=>
 (cK (dG k4 (0:Int)) (aI 0 k5)).ae (fun i6=>
 (bn 0 k4 (aa (cg (dG k4 (0:Int)) (aI 0 k5) i1))).ae (fun _=>
 some (Sum.inl (cg (dG k4 (0:Int)) (aI 0 k5) i1))))))
 ((bn 0 k4 (aa (dG k4 (0:Int)))).ae (fun _=>
 some (Sum.inl (dG k4 (0:Int))))))
 (fun l7=>
 (dN l7 (aa l7)).ae (fun l8=>
 some l8)))))
def WX (NN:Nat):(Int×(Int×Int))->(Option J):=
 (fun((i0,i1,i2):(Int×(Int×Int)))=>
 (uu (i0,i1,i2)).ae (fun i3=>
 (lc i3 i3 8).ae (fun k4=>
 bT (aw (dJ i0 (4:Int))
 ((eY (0:Int) k4).ae (fun k5=>
 (cK (dG k4 (0:Int)) (aI 0 k5)).ae (fun i6=>
 (bn 0 k4 (aa (cg (dG k4 (0:Int)) (aI 0 k5) i1))).ae (fun _=>
 some (Sum.inl (cg (dG k4 (0:Int)) (aI 0 k5) i1))))))
 ((bn 0 k4 (aa (dG k4 (0:Int)))).ae (fun _=>
 some (Sum.inl (dG k4 (0:Int))))))
 (fun l7=>
 (dN l7 (aa l7)).ae (fun l8=>
 some l8)))))
theorem akg (x y:Int×Int×Int) (h:z6 x=some y):WU aP x=some y:=h
theorem at2 (r:Int×Int×Int):z6 r=some r:=rfl
theorem XO {α:Type} (a b:Int) (x y:α):aw (dJ a b) x y=if a=b then x else y:=by
 by_cases h:a=b
 ·rw[if_pos h,ba (r6 h)]
 ·rw[if_neg h,be (r5 h)]
theorem Ym (a b:Int):dJ a b=decide (a=b):=by by_cases h:a=b<;>simp[dJ,h]
theorem anU (a b:Int):jr a b=decide (a<=b):=rfl
theorem an3 (a b:Int):bG a b=decide (a<b):=rfl
theorem KB {α:Type} (p:Prop) [Decidable p] (x y:α):aw (decide p) x y=if p then x else y:=by
 by_cases h:p
 ·rw[if_pos h,ba (decide_eq_true h)]
 ·rw[if_neg h,be (decide_eq_false h)]
theorem ET {k p n:Int} (h:gn (k,p,n)=true):(k=1/\p=0/\n=0)\/(k=2/\gZ p=true/\n=0)\/(k=3/\(1<=p/\p<=1000000)/\n=0)\/(k=4/\(1<=p/\p<=1000000)/\n=0)\/(k=5/\(1<=p/\p<=1000000)/\n=0)\/
  (k=6/\p=0/\1<=n/\n<=20)\/(k=7/\gZ p=true/\1<=n/\n<=6)\/(k=8/\gZ p=true/\p≠2/\n=0):=by
 simp only[gn] at h;by_cases h1:k=1
 ·rw[if_pos h1] at h;exact .inl ⟨h1,by simpa using h⟩
 rw[if_neg h1] at h;by_cases h2:k=2
 ·rw[if_pos h2] at h;simp at h;exact .inr (.inl ⟨h2,h⟩)
 rw[if_neg h2] at h;by_cases h3:k=3\/k=4\/k=5
 ·rw[if_pos h3] at h;simp only[decide_eq_true_eq] at h;rcases h3 with h3|h3|h3
  ·exact .inr (.inr (.inl ⟨h3,h⟩))
  ·exact .inr (.inr (.inr (.inl ⟨h3,h⟩)))
  ·exact .inr (.inr (.inr (.inr (.inl ⟨h3,h⟩))))
 rw[if_neg h3] at h;by_cases h4:k=6
 ·rw[if_pos h4] at h;simp at h;exact .inr (.inr (.inr (.inr (.inr (.inl ⟨h4,h⟩)))))
 rw[if_neg h4] at h;by_cases h5:k=7
 ·rw[if_pos h5] at h;simp at h;exact .inr (.inr (.inr (.inr (.inr (.inr (.inl ⟨h5,h⟩))))))
 rw[if_neg h5] at h;by_cases h6:k=8
 ·rw[if_pos h6] at h;simp at h;exact .inr (.inr (.inr (.inr (.inr (.inr (.inr ⟨h6,h⟩))))))
 rw[if_neg h6] at h;cases h
theorem ajz (x:Int×Int×Int) (y:Bool) (h:xY x=some y):Ov aP x=some y:=by
 obtain⟨k,p,n⟩:=x;rw[<-h];simp only[xY,Ov,gn,xX,bk,Ym,anU,KB];by_cases h1:k=1
 ·rw[if_pos h1,if_pos h1];by_cases hp:p=0<;>by_cases hn:n=0<;>simp[hp,hn]
 rw[if_neg h1,if_neg h1];by_cases h2:k=2
 ·rw[if_pos h2,if_pos h2];cases gZ p<;>rfl
 rw[if_neg h2,if_neg h2];have hd:(if k=3 then some (Sum.inl ((true,k),k,p,n)) else if k=4 then some (Sum.inl ((true,k),k,p,n)) else some (Sum.inl ((decide (k=5),k),k,p,n)):Option (((Bool×Int)×Int×Int×Int)⊕Bool))=some (Sum.inl ((decide (k=3\/k=4\/k=5),k),k,p,n)):=by
  by_cases h3:k=3
  ·simp[h3]
  ·by_cases h4:k=4
   ·simp[h4]
   ·simp[h3,h4]
 rw[hd,mO];simp only[KB];by_cases h3:k=3\/k=4\/k=5
 ·rw[if_pos h3,if_pos h3];by_cases ha:1<=p
  ·by_cases hb:p<=1000000<;>simp[ha,hb]
  ·simp[ha]
 rw[if_neg h3,if_neg h3];by_cases h4:k=6
 ·rw[if_pos h4,if_pos h4];by_cases ha:p=0
  ·by_cases hb:1<=n<;>simp[ha,hb]
  ·simp[ha]
 rw[if_neg h4,if_neg h4];by_cases h5:k=7
 ·rw[if_pos h5,if_pos h5];cases gZ p
  ·rfl
  ·rw[ba rfl];by_cases hb:1<=n<;>simp[hb]
 rw[if_neg h5,if_neg h5];by_cases h6:k=8
 ·rw[if_pos h6,if_pos h6];cases gZ p
  ·rfl
  ·rw[ba rfl,MC,Bool.true_and];by_cases hb:p=2<;>simp[hb,aw]
 rw[if_neg h6,if_neg h6]
theorem akl (x:Int×Int×Int) (y:Bool) (h:yd x=some y):Pg aP x=some y:=by
 obtain⟨k,p,n⟩:=x;rw[<-h];simp only[yd,Pg,gn,x9,kG,bk,Ym,an3,KB];by_cases h1:k=1
 ·rw[if_pos h1,if_pos h1];by_cases hp:p=0<;>by_cases hn:n=0<;>simp[hp,hn]
 rw[if_neg h1,if_neg h1];by_cases h2:k=2
 ·rw[if_pos h2,if_pos h2];cases gZ p<;>rfl
 rw[if_neg h2,if_neg h2];have hd:(if k=3 then some (Sum.inl ((true,k),k,p,n)) else if k=4 then some (Sum.inl ((true,k),k,p,n)) else some (Sum.inl ((decide (k=5),k),k,p,n)):Option (((Bool×Int)×Int×Int×Int)⊕Bool))=some (Sum.inl ((decide (k=3\/k=4\/k=5),k),k,p,n)):=by
  by_cases h3:k=3
  ·simp[h3]
  ·by_cases h4:k=4
   ·simp[h4]
   ·simp[h3,h4]
 rw[hd,mO];simp only[KB];by_cases h3:k=3\/k=4\/k=5
 ·rw[if_pos h3,if_pos h3];by_cases ha:1<=p/\p<=1000000<;>simp[ha]
 rw[if_neg h3,if_neg h3];by_cases h4:k=6
 ·rw[if_pos h4,if_pos h4];by_cases ha:p=0<;>simp[ha]
 rw[if_neg h4,if_neg h4];by_cases h5:k=7
 ·rw[if_pos h5,if_pos h5];cases gZ p<;>rfl
 rw[if_neg h5,if_neg h5];by_cases h6:k=8
 ·rw[if_pos h6,if_pos h6];cases hp:gZ p
  ·rfl
  ·have:=q8 hp;rw[ba rfl,Bool.true_and];by_cases hb:p=2
   ·simp[hb]
   ·rw[if_pos (by omega)];simp[hb]
 rw[if_neg h6,if_neg h6]
theorem YK (x:Int×Int×Int) (y:Int) (h:rL x=some y):OM aP x=some y:=by
 obtain⟨k,p,n⟩:=x;rw[<-h];simp only[rL,OM,jQ,XO];by_cases h7:k=7
 ·rw[if_pos h7,if_pos h7]
 ·rw[if_neg h7,if_neg h7];by_cases h8:k=8<;>simp[h8]
theorem akq (x:Int×Int×Int) (y:Int) (h:uu x=some y):WW aP x=some y:=YK x y h
theorem atj {n:Int} (h0:0<=n) (h1:n<=60):zI .i64 1 n=some (2^n.toNat):=by
 obtain⟨m,rfl⟩:=rp h0;rw[atk (by omega),Int.toNat_natCast];congr 1
theorem adw {n:Int} (h0:0<=n) (h1:n<=20):1<=(2:Int)^n.toNat/\(2:Int)^n.toNat<=1048576:=by
 have a:(2:Nat)^n.toNat<=2^20:=Nat.pow_le_pow_right (by decide) (by omega);have b:1<=(2:Nat)^n.toNat:=Nat.one_le_two_pow;have e:(((2:Nat)^n.toNat:Nat):Int)=(2:Int)^n.toNat:=by push_cast;rfl
 rw[<-e];omega
theorem YJ (x:Int×Int×Int) (y:Int) (h:Cr x=some y):WN aP x=some y:=by
 obtain⟨k,p,n⟩:=x;simp only[Cr] at h;split at h
 ·rename_i hr;rw[<-h];rcases ET hr with⟨rfl,rfl,rfl⟩|⟨rfl,hp,rfl⟩|⟨rfl,hp,rfl⟩|⟨rfl,hp,rfl⟩|⟨rfl,hp,rfl⟩|⟨rfl,rfl,hn⟩|⟨rfl,hp,hn⟩|⟨rfl,hp,qU,rfl⟩
  ·rfl
  ·have:=q8 hp;exact congrArg some (s7 (by omega) (by omega))
  ·rfl
  ·rfl
  ·rfl
  ·have h1:=adw (n:=n) (by omega) hn.2;show(zI .i64 1 n).ae _=_;rw[atj (by omega) (by omega),bk,s7 (by omega) (by omega)];rfl
  ·have:=q8 hp;exact congrArg some (s7 (by omega) (by omega))
  ·have:=q8 hp;exact congrArg some (s7 (by omega) (by omega))
 ·cases h
theorem akp (x:Int×Int×Int) (y:Int) (h:FI x=some y):WV aP x=some y:=YJ x y h
theorem agQ {r:Int×Int×Int} (h:gn r=true):0<=fg r/\fg r<=1048576:=by
 obtain⟨k,p,n⟩:=r;rcases ET h with⟨rfl,rfl,rfl⟩|⟨rfl,hp,rfl⟩|⟨rfl,hp,rfl⟩|⟨rfl,hp,rfl⟩|⟨rfl,hp,rfl⟩|⟨rfl,rfl,hn⟩|⟨rfl,hp,hn⟩|⟨rfl,hp,qU,rfl⟩
 ·simp[fg]
 ·have:=q8 hp;simp[fg];omega
 ·simp[fg];omega
 ·simp[fg];omega
 ·simp[fg];omega
 ·have h1:=adw (n:=n) (by omega) hn.2;simp only[fg,Int.reduceEq,reduceIte,or_self];omega
 ·have:=q8 hp;simp[fg];omega
 ·have:=q8 hp;simp[fg];omega
theorem rK {r:Int×Int×Int} (h:gn r=true):jQ r=(bc r:Int)/\1<=bc r/\bc r<=6:=by
 obtain⟨k,p,n⟩:=r;rcases ET h with⟨rfl,rfl,rfl⟩|⟨rfl,hp,rfl⟩|⟨rfl,hp,rfl⟩|⟨rfl,hp,rfl⟩|⟨rfl,hp,rfl⟩|⟨rfl,rfl,hn⟩|⟨rfl,hp,hn⟩|⟨rfl,hp,qU,rfl⟩
 ·simp[bc,jQ]
 ·simp[bc,jQ]
 ·simp[bc,jQ]
 ·simp[bc,jQ]
 ·simp[bc,jQ]
 ·simp[bc,jQ]
 ·simp[bc,jQ];omega
 ·simp[bc,jQ]
theorem ajJ (x:(Int×Int×Int)×J) (y:Bool) (h:Cl x=some y):OG aP x=some y:=by
 obtain⟨⟨k,p,n⟩,l⟩:=x;simp only[Cl] at h;split at h
 ·rename_i hc;obtain⟨hr,hl⟩:=hc;rw[<-h];have hb:=agQ hr;simp only[OG];rw[show Cr (k,p,n)=some (fg (k,p,n)) from if_pos hr,bk]
  generalize fg (k,p,n)=t at hb⊢;rw[Ep l (fun i=>(t,l,aA (aa l),(i:Int))) (qZ t) (.inr false) (.inl ()) ?_ ?_ ?_ ?_ (ew (by omega))]
  ·cases l.all (qZ t)<;>rfl
  ·intro i a ha hb;rw[ba (kB ha),dn,ha,bk];simp only[qZ,decide_eq_true_eq] at hb;rw[be (eO hb.1),be (eO hb.2),nC ha (by omega)]
  ·intro i a ha hb;rw[ba (kB ha),dn,ha,bk];simp only[qZ,decide_eq_false_iff_not] at hb;by_cases h0:a<0
   ·rw[ba (d6 h0)]
   ·rw[be (eO (by omega)),ba (d6 (by omega))]
  ·rw[be (g9 l)]
  ·rfl
 ·cases h
theorem asu {w:Nat} {p:Int} (h:w=1):cg (dG w (0:Int)) 0 p=[p]:=by subst h;rfl
theorem mkW {r:Int×Int×Int} (hr:gn r=true):lc (jQ r) (jQ r) 8=some (bc r):=by
 have hw:=rK hr;rw[hw.1];exact qh (by simp only[dX];omega)
theorem YL (x:Int×Int×Int) (y:J) (h:Cs x=some y):ON aP x=some y:=by
 obtain⟨k,p,n⟩:=x;simp only[Cs] at h;split at h
 ·rename_i hr;rw[<-h];simp only[ON,rL,bk];rw[mkW hr,bk,XO];by_cases h4:k=4
  ·subst h4;rw[if_pos rfl];rfl
  ·rw[if_neg h4,qf,bM,bk,mO,iy,bk];simp only[lR];rw[if_neg h4]
 ·cases h
theorem akr (x:Int×Int×Int) (y:J) (h:FJ x=some y):WX aP x=some y:=YL x y h
theorem Fk (w:Nat) (f:Nat->Int):(pA w f).length=w:=by simp[pA]
theorem IH {w j:Nat} (f:Nat->Int) (h:j<w):(pA w f)[j]? =some (f j):=by simp[pA,h]
theorem agF {w:Nat} {f g:Nat->Int} (h:∀j,j<w->f j=g j):pA w f=pA w g:=List.map_congr_left fun j hj=>h j (List.mem_range.1 hj)
theorem atU {w:Nat} (f:Nat->Int) (j:Nat) (v:Int):(pA w f).set j v=pA w (fun i=>if i=j then v else f i):=by
 apply List.ext_getElem?;intro i;by_cases hi:i<w
 ·rw[IH _ hi];by_cases hj:j=i
  ·subst hj;rw[List.getElem?_set_self (by rw[Fk];exact hi),if_pos rfl]
  ·rw[List.getElem?_set_ne hj,IH _ hi,if_neg (fun e=>hj e.symm)]
 ·rw[List.getElem?_eq_none (by rw[List.length_set,Fk];omega),List.getElem?_eq_none (by rw[Fk];omega)]
theorem Y4 {x:J} {j:Nat} (h:j<x.length):x[j]? =some (fz x j):=by
 rw[List.getElem?_eq_getElem h];simp[fz,List.getD_eq_getElem?_getD,List.getElem?_eq_getElem h]
theorem QQ {w j:Nat} (f:Nat->Int) (h:j<w):fz (pA w f) j=f j:=by simp[fz,List.getD_eq_getElem?_getD,IH f h]
theorem atT {x:J} {w:Nat} (h:x.length=w):pA w (fz x)=x:=by
 subst h;apply List.ext_getElem?;intro i;by_cases hi:i<x.length
 ·rw[IH _ hi,Y4 hi]
 ·rw[List.getElem?_eq_none (by rw[Fk];omega),List.getElem?_eq_none (by omega)]
theorem agG (w:Nat) (c:Int):dG w c=pA w fun _=>c:=by
 apply List.ext_getElem?;intro i;by_cases hi:i<w
 ·rw[IH _ hi];simp[dG,hi]
 ·rw[List.getElem?_eq_none (by simp[dG];omega),List.getElem?_eq_none (by rw[Fk];omega)]
theorem Yg {r:Int×Int×Int} {x:J} (h:nO r x=true):x.length=bc r:=by
 simp only[nO,Bool.and_eq_true,decide_eq_true_eq] at h;exact h.1
theorem Yf {r:Int×Int×Int} {x:J} (h:nO r x=true) {j:Nat} (hj:j<bc r):0<=fz x j/\fz x j<=fg r:=by
 simp only[nO,Bool.and_eq_true,decide_eq_true_eq] at h;have:=List.all_eq_true.1 h.2 (fz x j) (List.mem_of_getElem? (Y4 (by rw[h.1];exact hj)));simpa[qZ] using this
theorem aiC {r:Int×Int×Int} {f:Nat->Int} (h:∀j,j<bc r->0<=f j/\f j<=fg r):nO r (pA (bc r) f)=true:=by
 simp only[nO,Bool.and_eq_true,decide_eq_true_eq,Fk,true_and,List.all_eq_true];intro v hv;obtain⟨j,hj,rfl⟩:=List.mem_map.1 hv;simpa[qZ] using h j (List.mem_range.1 hj)
theorem Gt {r:Int×Int×Int} {x:J} (h:nO r x=true) (hw:bc r=1):x=[fz x 0]/\0<=fz x 0/\fz x 0<=fg r:=by
 have hl:=Yg h;rw[hw] at hl;match x,hl with
 |[a],_=>exact⟨rfl,Yf h (j:=0) (by omega)⟩
theorem Iw {f g:Nat->Int}:∀{n:Nat},(∀i,i<n->f i=g i)->sm n f=sm n g
 |0,_=>rfl
 |n+1,h=>by simp only[sm];rw[Iw (n:=n) (fun i hi=>h i (by omega)),h n (by omega)]
structure Ol (k p:Int) (w:Nat):Prop where
 ck:k=7\/k=8
 cp:2<=p/\p<=1000003
 cw:1<=w/\w<=6
 w8:k=8->w=4
theorem XA {k p n:Int} (h:gn (k,p,n)=true) (hk:k=7\/k=8):Ol k p (bc (k,p,n)):=by
 have hw:=rK h;refine⟨hk,?_,hw.2,fun e=>by subst e;rfl⟩;rcases ET h with⟨rfl,rfl,rfl⟩|⟨rfl,hp,rfl⟩|⟨rfl,hp,rfl⟩|⟨rfl,hp,rfl⟩|⟨rfl,hp,rfl⟩|⟨rfl,rfl,hn⟩|⟨rfl,hp,hn⟩|⟨rfl,hp,qU,rfl⟩
 all_goals first|exact q8 hp|(exfalso;omega)
theorem HN {r:Int×Int×Int} {a b:Int} (h:¬(r.1=7\/r.1=8)):zp r [a] [b]=[ru r a b]:=by simp only[zp];rw[if_neg h];rfl
theorem Yh {r:Int×Int×Int} {x y:J} (hx:nO r x=true) (hy:nO r y=true) (hw:bc r=1):∃a b,x=[a]/\y=[b]/\(0<=a/\a<=fg r)/\0<=b/\b<=fg r:=
 ⟨_,_,(Gt hx hw).1,(Gt hy hw).1,(Gt hx hw).2,(Gt hy hw).2⟩
theorem aiD {r:Int×Int×Int} (hr:gn r=true):nO r (lR r)=true:=by
 have hT:=agQ hr;obtain⟨k,p,n⟩:=r;simp only[lR];split
 ·rename_i h4;subst h4;simp[nO,bc,jQ,fg,qZ];simp[fg] at hT;omega
 ·rw[agG];exact aiC fun j _=>⟨Int.le_refl _,hT.1⟩
theorem aqP (k p n:Int):ED (k,p,n)=pA (bc (k,p,n)) fun j=>if j=0 then(if k=4 then 0 else if k=5\/k=6 then fg (k,p,n) else 1) else 0:=by
 simp only[ED];rw[agG];exact atU _ 0 _
def ch:Nat->Nat->Nat
 |_,0=>1
 |0,_+1=>0
 |n+1,k+1=>ch n k+ch n (k+1)
theorem Ks:∀{n k:Nat},n<k->ch n k=0
 |0,k+1,_=>by simp[ch]
 |n+1,k+1,h=>by simp[ch,Ks (show n<k by omega),Ks (show n<k+1 by omega)]
theorem F7 (n:Nat):ch n 0=1:=by cases n<;>rfl
theorem XD:∀n,ch n n=1
 |0=>rfl
 |n+1=>by simp[ch,XD n,Ks (Nat.lt_succ_self n)]
theorem Kt:∀(n k:Nat),(k+1)*ch (n+1) (k+1)=(n+1)*ch n k
 |0,0=>by simp[ch]
 |0,k+1=>by simp[ch]
 |n+1,0=>by
  have h:=Kt n 0;simp only[F7] at h⊢;have e:ch (n+1+1) (0+1)=ch (n+1) 0+ch (n+1) (0+1):=rfl;rw[e,F7];omega
 |n+1,k+1=>by
  have h1:=Kt n k;have h2:=Kt n (k+1);have e1:ch (n+1+1) (k+1+1)=ch (n+1) (k+1)+ch (n+1) (k+1+1):=rfl;have e2:ch (n+1) (k+1)=ch n k+ch n (k+1):=rfl;rw[e1];generalize ch (n+1) (k+1+1)=B at*
  generalize ch (n+1) (k+1)=A at*
  generalize ch n k=u at*
  generalize ch n (k+1)=v at*
  subst e2
  grind
def pu (f:Nat->Nat):Nat->Nat
 |0=>0
 |m+1=>pu f m+f m
theorem agz (n a:Nat):∀m,pu (fun k=>ch (n+1) k*a^k) (m+1)=pu (fun k=>ch n k*a^k) (m+1)+a*pu (fun k=>ch n k*a^k) m
 |0=>by simp[pu,F7]
 |m+1=>by
  have h:=agz n a m;simp only[pu] at h⊢;have e:ch (n+1) (m+1)=ch n m+ch n (m+1):=rfl;rw[h,e,Nat.pow_succ]
  grind
theorem Xo (a:Nat):∀n,(a+1)^n=pu (fun k=>ch n k*a^k) (n+1)
 |0=>by simp[pu,F7]
 |n+1=>by
  rw[agz];have e:pu (fun k=>ch n k*a^k) (n+1+1)=pu (fun k=>ch n k*a^k) (n+1):=by
   show pu _ (n+1)+ch n (n+1)*a^(n+1)=_;rw[Ks (Nat.lt_succ_self n)];simp
  rw[e,<-Xo a n,Nat.pow_succ]
  grind
theorem agy {p:Nat} {f:Nat->Nat}:∀m,(∀k,0<k->k<=m->p∣f k)->pu f (m+1)%p=f 0%p
 |0,h=>by simp[pu]
 |m+1,h=>by
  have i:=agy m fun k h1 h2=>h k h1 (by omega);obtain⟨c,hc⟩:=h (m+1) (by omega) (Nat.le_refl _);show(pu f (m+1)+f (m+1))%p=_;rw[hc,Nat.add_mul_mod_self_left,i]
def Ab (p:Nat):Prop:=2<=p/\∀d,d∣p->d=1\/d=p
theorem Ab.qD {p a:Nat} (hp:Ab p) (h:¬p∣a):Nat.Coprime p a:=by
 have:=hp.2 (Nat.gcd p a) (Nat.gcd_dvd_left p a);rcases this with h1|h1
 ·exact h1
 ·exact absurd (h1▸Nat.gcd_dvd_right p a) h
theorem Ab.ch {p k:Nat} (hp:Ab p) (h1:0<k) (h2:k<p):p∣ch p k:=by
 obtain⟨q,rfl⟩:∃q,p=q+1:=⟨p - 1,by omega⟩;obtain⟨j,rfl⟩:∃j,k=j+1:=⟨k - 1,by omega⟩;have hm:=Kt q j;have hd:(q+1)∣(j+1)*Go.Am.ch (q+1) (j+1):=⟨Go.Am.ch q j,hm⟩;exact(hp.qD fun h=>absurd (Nat.le_of_dvd (by omega) h) (by omega)).dvd_of_dvd_mul_left hd
theorem YM {p:Nat} (hp:Ab p):∀a,a^p%p=a%p
 |0=>by rw[Nat.zero_pow (by have:=hp.1;omega)]
 |a+1=>by
  rw[Xo];show(pu _ p+Go.Am.ch p p*a^p)%p=_;obtain⟨q,rfl⟩:∃q,p=q+1:=⟨p - 1,by have:=hp.1;omega⟩;have h:=agy (p:=q+1) (f:=fun k=>Go.Am.ch (q+1) k*a^k) q fun k h1 h2=>Nat.dvd_trans (hp.ch h1 (by omega)) (Nat.dvd_mul_right _ _);rw[XD,Nat.one_mul,Nat.add_mod,h,YM hp a];simp only[F7,Nat.pow_zero,Nat.mul_one];rw[<-Nat.add_mod,Nat.add_comm]
theorem akG {p a:Nat} (hp:Ab p) (ha:¬p∣a):a*a^(p - 2)%p=1:=by
 have h2:=hp.1;have h:=YM hp a;have e:a^p=a*(a*a^(p - 2)):=by
  obtain⟨q,rfl⟩:∃q,p=q+2:=⟨p - 2,by omega⟩;rw[Nat.pow_succ,Nat.pow_succ,Nat.add_sub_cancel];rw[Nat.mul_comm a (a^q),Nat.mul_comm a (a^q*a)]
 rw[e] at h;have ha0:0<a:=by
  rcases Nat.eq_zero_or_pos a with h|h
  ·subst h;exact absurd ⟨0,by simp⟩ ha
  ·exact h
 have hz:0<a*a^(p - 2):=Nat.mul_pos ha0 (Nat.pow_pos ha0);generalize a*a^(p - 2)=z at h hz⊢;obtain⟨y,rfl⟩:∃y,z=y+1:=⟨z - 1,by omega⟩;have hd:p∣a*y:=by
  have e:a*(y+1)=a*y+a:=by rw[Nat.mul_add,Nat.mul_one]
  rw[e] at h;have:(a*y+a - a)%p=0:=Nat.sub_mod_eq_zero_of_mod_eq h;rw[Nat.add_sub_cancel] at this;exact Nat.dvd_of_mod_eq_zero this
 obtain⟨c,rfl⟩:=(hp.qD ha).dvd_of_dvd_mul_left hd;rw[Nat.add_comm,Nat.add_mul_mod_self_left];exact Nat.mod_eq_of_lt (by omega)
theorem amg {p:Int} (h:gZ p=true):Ab p.toNat:=by
 have hp:=q8 h;obtain⟨n,rfl⟩:=rp (show 0<=p by omega);simp only[Int.toNat_natCast];refine⟨by omega,fun d hd=>?_⟩;rcases Nat.lt_or_ge d 2 with h2|h2
 ·rcases Nat.eq_zero_or_pos d with h0|h0
  ·subst h0;have:=Nat.eq_zero_of_zero_dvd hd;omega
  ·exact .inl (by omega)
 ·obtain⟨e,he⟩:=hd;simp only[gZ,Bool.and_eq_true,decide_eq_true_eq,Bool.not_eq_true',List.any_eq_false] at h;have cW:∀a b:Nat,2<=a->2<=b->a<=b->n≠a*b:=by
   intro a b ha hb gi e;have h1:a*a<=n:=by rw[e];exact Nat.mul_le_mul_left _ gi
   have h3:a<1001:=by
    rcases Nat.lt_or_ge a 1001 with h|h
    ·exact h
    ·have:=Nat.mul_le_mul h h;omega
   refine h.2 a (by simp;omega) ?_;unfold rW;have ea:((a:Int))*(a:Int)=((a*a:Nat):Int):=by norm_cast
   simp only[Bool.and_eq_true,decide_eq_true_eq];constructor
   ·rw[ea];omega
   ·rw[e];push_cast;exact Int.mul_emod_right _ _
  right;rcases Nat.lt_or_ge e 2 with h3|h3
  ·have:e=1:=by
    rcases Nat.eq_zero_or_pos e with h0|h0
    ·subst h0;simp at he;omega
    ·omega
   subst this;omega
  ·exfalso;rcases Nat.le_total d e with Rs|Rs
   ·exact cW d e h2 h3 Rs he
   ·exact cW e d h3 h2 Rs (by rw[he,Nat.mul_comm])
theorem adx (x:Int) (b:Nat):∀m:Nat,(x*x)^m*x^b=x^(2*m+b)
 |0=>by simp
 |m+1=>by
  have ih:=adx x b m;rw[show 2*(m+1)+b=2*m+b+1+1 by omega,Int.pow_succ,Int.pow_succ (n:=2*m+b+1),Int.pow_succ (n:=2*m+b),<-ih]
  grind
theorem amb {p:Int} (hp:pj p):∀(n:Nat) (out x:Int),vq p out x n%p=out*x^n%p:=by
 intro n;induction n using Nat.strongRecOn with
 |ind n ih=>
  intro out x;by_cases h0:n=0
  ·subst h0;rw[ama];simp
  ·rw[amc h0,ih (n/2) (by omega)];have e:x^n=(x*x)^(n/2)*x^(n%2):=by
    rw[adx,Nat.div_add_mod]
   rw[e];have h1:((x*x%p)^(n/2))%p=((x*x)^(n/2))%p:=by
    have:∀k:Nat,((x*x%p)^k)%p=((x*x)^k)%p:=by
     intro k;induction k with
     |zero=>simp
     |succ k ih=>rw[Int.pow_succ,Int.pow_succ,Int.mul_emod,ih,Int.emod_emod,<-Int.mul_emod]
    exact this _
   by_cases hb:n%2=1
   ·rw[if_pos hb,hb,Int.mul_emod,h1,Int.emod_emod,<-Int.mul_emod];congr 1
    grind
   ·rw[if_neg hb,show n%2=0 by omega,Int.mul_emod,h1,<-Int.mul_emod];congr 1
    grind
theorem ame {p x:Int} (Hh:gZ p=true) (hx:qY p x) (h0:x≠0):x*vq p 1 x (p - 2).toNat%p=1:=by
 have hp:=q8 Hh;have bB:pj p:=⟨hp.1,hp.2⟩;obtain⟨n,rfl⟩:=rp (show 0<=p by omega);obtain⟨a,rfl⟩:=rp hx.1;have hN:=amg Hh;simp only[Int.toNat_natCast] at hN;have ha:¬n∣a:=fun h=>by
  have:=Nat.le_of_dvd (by omega) h;have:=hx.2;omega
 have hf:=akG hN ha;have e:(((n:Int)) - 2).toNat=n - 2:=by omega
 rw[Int.mul_emod,amb bB,e,Int.one_mul,<-Int.mul_emod]
 exact_mod_cast hf
def ij (f g:Nat->Int):Nat->Int
 |0=>0
 |n+1=>ij f g n+f n*g n
theorem agx {p:Int} {f f' g:Nat->Int}:∀n,(∀k,k<n->∃q,f k=f' k+p*q)->∃q,ij f g n=ij f' g n+p*q
 |0,_=>⟨0,by simp[ij]⟩
 |n+1,h=>by
  obtain⟨q,hq⟩:=agx (g:=g) n fun k hk=>h k (by omega);obtain⟨q',fc⟩:=h n (by omega);exact⟨q+q'*g n,by simp only[ij,hq,fc];grind⟩
theorem V5 (f f2 g:Nat->Int) (c:Int):∀n,ij (fun k=>f k+c*f2 k) g n=ij f g n+c*ij f2 g n
 |0=>by simp[ij]
 |n+1=>by simp only[ij,V5 f f2 g c n];grind
theorem NT (f g g2:Nat->Int) (c:Int):∀n,ij f (fun k=>g k - c*g2 k) n=ij f g n - c*ij f g2 n
 |0=>by simp[ij]
 |n+1=>by simp only[ij,NT f g g2 c n];grind
theorem V6 (f g:Nat->Int) (c:Int):∀n,ij (fun k=>f k*c) g n=ij f g n*c
 |0=>by simp[ij]
 |n+1=>by simp only[ij,V6 f g c n];grind
theorem V7 (f g:Nat->Int) (c:Int):∀n,ij f (fun k=>g k*c) n=ij f g n*c
 |0=>by simp[ij]
 |n+1=>by simp only[ij,V7 f g c n];grind
def dl (a b:Nat):Int:=if a=b then 1 else 0
def mY (p:Int) (n:Nat) (E X:eA):Prop:=∀a,a<n->∀b,b<n->∃q,ij (E a) (fun k=>X k b) n=dl a b+p*q
theorem mY.congr {p:Int} {n:Nat} {E E' X:eA} (h:mY p n E X) (he:∀a,a<n->∀k,k<n->∃q,E' a k=E a k+p*q):mY p n E' X:=by
 intro a ha b hb;obtain⟨q,hq⟩:=h a ha b hb;obtain⟨q',fc⟩:=agx (p:=p) (f:=E' a) (f':=E a) (g:=fun k=>X k b) n (he a ha);exact⟨q+q',by rw[fc,hq];grind⟩
theorem mY.swap {p:Int} {n:Nat} {E X:eA} (h:mY p n E X) {s t:Nat} (hs:s<n) (ht:t<n):∃X',mY p n (qt E s t) X':=by
 let sw:Nat->Nat:=fun i=>if i=s then t else if i=t then s else i
 have LC:∀i,i<n->sw i<n:=by
  intro i hi;show(if i=s then t else if i=t then s else i)<n
  split
  ·exact ht
  ·split
   ·exact hs
   ·exact hi
 have u5:∀i j,sw i=sw j->i=j:=by
  intro i j;show(if i=s then t else if i=t then s else i)=(if j=s then t else if j=t then s else j)->i=j
  intro h
  repeat' split at h
  all_goals omega
 refine⟨fun k b=>X k (sw b),fun a ha b hb=>?_⟩;obtain⟨q,hq⟩:=h (sw a) (LC a ha) (sw b) (LC b hb);refine⟨q,?_⟩;have e:qt E s t a=E (sw a):=by
  funext k;show(if a=s then E t k else if a=t then E s k else E a k)=E (if a=s then t else if a=t then s else a) k
  split
  ·rfl
  ·split<;>rfl
 rw[e,hq];congr 1;unfold dl;by_cases gi:a=b
 ·subst gi;simp
 ·rw[if_neg gi,if_neg fun h=>gi (u5 _ _ h)]
theorem mY.as2 {p inv u:Int} {n:Nat} {E X:eA} (h:mY p n E X) {t:Nat} (ht:t<n) (hu:u*inv%p=1):∃X',mY p n (BU p inv E t) X':=by
 have n6:∃z,u*inv=1+p*z:=⟨u*inv/p,by have:=Int.emod_add_mul_ediv (u*inv) p;omega⟩;obtain⟨z,hz⟩:=n6;refine⟨fun k b=>if b=t then X k t*u else X k b,mY.congr (E:=fun a k=>if a=t then E t k*inv else E a k) (fun a ha b hb=>?_) (fun a ha k hk=>?_)⟩
 ·obtain⟨q,hq⟩:=h a ha b hb;by_cases cG:a=t
  ·subst cG;by_cases qM:b=a
   ·subst qM;refine⟨z+q*inv*u,?_⟩;simp only[if_true];rw[V6,V7,hq,dl,if_pos rfl]
    grind
   ·refine⟨q*inv,?_⟩;simp only[if_true,if_neg qM];rw[V6,hq,dl,if_neg (Ne.symm qM)]
    grind
  ·by_cases qM:b=t
   ·subst qM;refine⟨q*u,?_⟩;simp only[if_neg cG,if_true];rw[V7];have:ij (fun k=>E a k) (fun k=>X k b) n=dl a b+p*q:=hq;rw[this,dl,if_neg cG]
    grind
   ·refine⟨q,?_⟩;simp only[if_neg cG,if_neg qM];exact hq
 ·unfold BU;by_cases cG:a=t
  ·simp only[cG,if_true];refine⟨-(E t k*inv/p),?_⟩;have:=Int.emod_add_mul_ediv (E t k*inv) p;have e:p* -(E t k*inv/p)= -(p*(E t k*inv/p)):=Int.mul_neg _ _;omega
  ·simp only[cG,if_false];exact⟨0,by simp⟩
theorem mY.add {p f:Int} {n:Nat} {E E' X:eA} (h:mY p n E X) {m t:Nat} (hm:m<n) (ht:t<n) (DU:m≠t) (he:∀a,a<n->∀k,k<n->∃q,E' a k=(if a=m then E m k+f*E t k else E a k)+p*q):∃X',mY p n E' X':=by
 refine⟨fun k b=>if b=t then X k t - f*X k m else X k b,mY.congr (E:=fun a k=>if a=m then E m k+f*E t k else E a k) (fun a ha b hb=>?_) he⟩
 obtain⟨q1,h1⟩:=h a ha b hb;obtain⟨q2,h2⟩:=h t ht b hb;obtain⟨q3,h3⟩:=h a ha m hm;obtain⟨q4,h4⟩:=h t ht m hm;have iU:ij (fun k=>E a k) (fun k=>X k b) n=dl a b+p*q1:=h1;have yJ:ij (fun k=>E t k) (fun k=>X k b) n=dl t b+p*q2:=h2;have yK:ij (fun k=>E a k) (fun k=>X k m) n=dl a m+p*q3:=h3;have h4':ij (fun k=>E t k) (fun k=>X k m) n=dl t m+p*q4:=h4;have d1:dl t m=0:=if_neg (Ne.symm DU);by_cases AQ:a=m
 ·subst AQ;have d2:dl a a=1:=if_pos rfl;by_cases qM:b=t
  ·subst qM;have d3:dl a b=0:=if_neg DU;have d4:dl b b=1:=if_pos rfl;refine⟨q1+f*q2 - f*q3 - f*f*q4,?_⟩;simp only[if_true];rw[V5,NT,NT,iU,yJ,yK,h4',d1,d2,d3,d4]
   grind
  ·refine⟨q1+f*q2,?_⟩;have d3:dl t b=0:=if_neg (Ne.symm qM);simp only[if_true,if_neg qM];rw[V5,iU,yJ,d3]
   grind
 ·by_cases qM:b=t
  ·subst qM;have d3:dl a m=0:=if_neg AQ;refine⟨q1 - f*q3,?_⟩;simp only[if_neg AQ,if_true];rw[NT,iU,yK,d3]
   grind
  ·refine⟨q1,?_⟩;simp only[if_neg AQ,if_neg qM];exact iU
def RK (p:Int) (n:Nat) (s:eA×J×Int) (j:Nat):Prop:=
 (∃X,mY p n (fun a k=>s.1 a (n+k)) X)/\∀b,b<j->∀i,s.2.1.length<=i->i<n->s.1 i b=0
theorem RK.step {p:Int} {n:Nat} {s:eA×J×Int} {j:Nat} (Hh:gZ p=true) (hj:j<2*n) (I:RI p n (2*n) s j) (h:RK p n s j):RK p n (xC p n s j) (j+1):=by
 have hp:pj p:=q8 Hh;obtain⟨⟨X,hX⟩,hz⟩:=h;obtain⟨M,L,d⟩:=s;simp only at hX hz;by_cases hl:L.length<n
 ·cases hk:xA M j (n - L.length) L.length with
  |none=>
   rw[asj (s:=(M,L,d)) hl hk];refine⟨⟨X,hX⟩,fun b hb i h1 h2=>?_⟩;by_cases Ri:b=j
   ·subst Ri;exact adt hk i h1 (by simp only at h1;omega)
   ·exact hz b (by omega) i h1 h2
  |some k=>
   rw[asl (s:=(M,L,d)) hl hk];simp only
   have hq:=TJ hk;have Lr:k<n:=by omega
   have hM:qX p n (2*n) M:=I.m;have hx:qY p (M k j):=hM k Lr j hj;have LC:qt M L.length k L.length j=M k j:=if_pos rfl;have hi:=ame Hh hx hq.2.2;generalize ali:vq p 1 (M k j) (p - 2).toNat=inv at hi;have alB:HZ p M L.length j k=BU p inv (qt M L.length k) L.length:=by unfold HZ;rw[LC,ali]
   rw[alB];have hS:qX p n (2*n) (qt M L.length k):=agA hM hl Lr;generalize DA:BU p inv (qt M L.length k) L.length=M2;have auD:qX p n (2*n) M2:=by rw[<-DA];exact afC hp hS _
   constructor
   ·obtain⟨X1,hX1⟩:=hX.swap (s:=L.length) (t:=k) hl Lr;obtain⟨X2,hX2⟩:=hX1.as2 (inv:=inv) (u:=M k j) hl hi;have base:mY p n (fun a b=>kq p M2 L.length j 0 a (n+b)) X2:=by
     rw[ah3,<-DA];exact hX2
    have cW:∀m,m<=n->∃X',mY p n (fun a b=>kq p M2 L.length j m a (n+b)) X':=by
     intro m;induction m with
     |zero=>intro _;exact⟨X2,base⟩
     |succ m ih=>
      intro hm;obtain⟨X',hX'⟩:=ih (by omega);by_cases DU:m=L.length
      ·subst DU;rw[ah6];exact⟨X',hX'⟩
      ·refine hX'.add (f:=p - M2 m j) (m:=m) (t:=L.length) (by omega) hl DU fun a ha b hb=>?_;show∃q,kq p M2 L.length j (m+1) a (n+b)=_;by_cases AQ:a=m
       ·subst AQ;rw[if_pos rfl];show∃q,kq p M2 L.length j (a+1) a (n+b)=(kq p M2 L.length j a a (n+b)+(p - M2 a j)*kq p M2 L.length j a L.length (n+b))+p*q;rw[ah5,ah7];unfold kq;rw[if_pos ⟨by omega,DU⟩];refine⟨-((M2 a (n+b)+(p - M2 a j)*M2 L.length (n+b))/p),?_⟩;have e1:=Int.emod_add_mul_ediv (M2 a (n+b)+(p - M2 a j)*M2 L.length (n+b)) p;have e2:=Int.mul_neg p ((M2 a (n+b)+(p - M2 a j)*M2 L.length (n+b))/p);omega
       ·rw[if_neg AQ];refine⟨0,?_⟩;show kq p M2 L.length j (m+1) a (n+b)=kq p M2 L.length j m a (n+b)+p*0;unfold kq;by_cases hc:a<m/\a≠L.length
        ·rw[if_pos hc,if_pos ⟨by omega,hc.2⟩];simp
        ·rw[if_neg hc,if_neg (by omega)];simp
    exact cW n (Nat.le_refl _)
   ·intro b hb i h1 h2;simp only[List.length_append,List.length_cons,List.length_nil] at h1;show kq p M2 L.length j n i b=0;unfold kq;rw[if_pos ⟨h2,by omega⟩];have e2:∀c,M2 i c=qt M L.length k i c:=fun c=>by rw[<-DA];exact if_neg (by omega)
    have e3:∀c,M2 L.length c=M k c*inv%p:=fun c=>by rw[<-DA];show(if L.length=L.length then _ else _)=_;rw[if_pos rfl];congr 2;exact if_pos rfl
    by_cases Ri:b=j
    ·subst Ri;rw[e3 b,hi];have:M2 i b+(p - M2 i b)*1=p:=by omega
     rw[this];exact Int.emod_self
    ·have Rj:b<j:=by omega
     rw[e3 b,hz b Rj k hq.1 Lr,e2 b];have:qt M L.length k i b=0:=by
      unfold qt;rw[if_neg (by omega)];split
      ·exact hz b Rj L.length (Nat.le_refl _) hl
      ·exact hz b Rj i (by omega) h2
     rw[this];simp
 ·unfold xC;rw[if_neg hl];exact⟨⟨X,hX⟩,fun b hb i h1 h2=>by simp only at h1;omega⟩
def aun (n:Nat) (M:eA):eA:=fun a b=>if b<n then M a b else dl a (b - n)
def auo (n:Nat) (M:eA):eA:=ofD (2*n) (aab n (2*n) (aun n M))
def aaX (p:Int) (n:Nat) (M:eA):eA×J×Int:=adS p n (auo n M) (2*n)
def amd (p:Int) (n:Nat) (M:eA):Prop:=∀i,i<n->(aaX p n M).2.1.getD i 0=(i:Int)
instance (p:Int) (n:Nat) (M:eA):Decidable (amd p n M):=inferInstanceAs (Decidable (∀i,i<n->(aaX p n M).2.1.getD i 0=(i:Int)))
section
variable {p:Int} {n:Nat} {M R:eA} {L:J}
end
section
variable {p:Int} {n:Nat} {M R:eA} {L:J}
end
abbrev lS:=Int×Int×J
abbrev Ok:=Int×Int×J×List (Int×Int×J)×J
def Oc (k:Nat) (w:J):Prop:=∀c∈w,0<=c/\c<(k:Int)
instance (k:Nat) (w:J):Decidable (Oc k w):=inferInstanceAs (Decidable (∀c∈w,0<=c/\c<(k:Int)))
def ahC (x:Ok):Bool:=match x with
 |(m,n,a,ms,b)=>gZ m&&(decide (0<=n/\n<=24)&&((rB m a&&decide ((a.length:Int)=n))&&((rB m b&&decide ((b.length:Int)=n))&&(decide (1<=ms.length/\ms.length<=4)&&ms.all fun y=>decide (y.1=n/\y.2.1=n/\y.2.2.length=n.toNat*n.toNat)&&rB m y.2.2))))
def adP (x:Ok×J):Prop:=ahC x.1=true/\Oc x.1.2.2.2.1.length x.2/\x.2.length<=1048576
instance (x:Ok×J):Decidable (adP x):=by unfold adP;infer_instance
theorem ad4 {m:Int} {l:J}:rB m l=true↔qA m l:=by
 simp only[rB,qA,List.all_eq_true,y9,decide_eq_true_eq,qY]
structure FC (N:Nat) (p:Int) (n:Nat) (a:J) (ms:List lS) (b:J):Prop where
 pr:gZ p=true
 hn:n<=N
 al:a.length=n
 ap:qA p a
 bl:b.length=n
 bp:qA p b
 l1:1<=ms.length
 l4:ms.length<=4
 hm:∀x∈ms,∃M:eA,x=((n:Int),(n:Int),aab n n M)/\qX p n n M
abbrev ahh:=FC 12
abbrev ahg:=FC 24
theorem FC.p {N:Nat} {p:Int} {n:Nat} {a b:J} {ms:List lS} (h:FC N p n a ms b):pj p:=q8 h.pr
theorem FC.b {p:Int} {n:Nat} {a b:J} {ms:List lS} (h:ahh p n a ms b):ahg p n a ms b:=⟨h.pr,Nat.le_trans h.hn (by omega),h.al,h.ap,h.bl,h.bp,h.l1,h.l4,h.hm⟩
section
variable {p:Int} {n:Nat} {a b:J} {ms:List lS}
end
section
variable {p:Int} {n m:Nat} {a b a2 b2:J} {ms Tn:List lS}
end
section
variable {p sg:Int} {n m:Nat} {a b a2 b2:J} {ms Tn:List lS}
end
section
variable {n:Int} {d:List (Int×Int)} {a b:Int}
end
def ry (b a:Int) (l:J):J:=l.map fun x=>if x=b then a else x
def yn (l:J) (i:Int):Int:=l.getD i.toNat 0
def zd (n:Nat):J:=(List.range n).map fun i=>((i:Nat):Int)
def EG (s:Nat) (i:Nat) (st:Int×J) (e:Int×Int):Int×J:=
 if s.testBit i=true/\yn st.2 e.1≠yn st.2 e.2 then(st.1 - 1,ry (yn st.2 e.2) (yn st.2 e.1) st.2) else st
def parts (n:Int) (es:List (Int×Int)) (s:Int):Int×J:=uS (EG s.toNat) 0 (n,zd n.toNat) es
def S5 (s:Nat) (i:Nat) (l:J) (e:Int×Int):J:=
 if s.testBit i=true then ry (max (yn l e.1) (yn l e.2)) (min (yn l e.1) (yn l e.2)) l else l
def QN (l:J):Int:=((List.range l.length).countP fun i=>l.getD i 0==(i:Int):Nat)
theorem SK (n:Nat):(zd n).length=n:=by simp[zd]
theorem TZ (b a:Int) (l:J):(ry b a l).length=l.length:=by simp[ry]
theorem XW (p:Nat->Bool) (j:Nat):(List.range (j+1)).countP p=(List.range j).countP p+(if p j=true then 1 else 0):=by
 rw[List.range_succ,List.countP_append,List.countP_singleton]
theorem XV (p q:Nat->Bool) (k:Nat):∀n,k<n->(∀i,i<n->i≠k->p i=q i)->p k=true->q k=false->(List.range n).countP p=(List.range n).countP q+1
 |0,h,_,_,_=>by omega
 |n+1,h,R0,h1,h2=>by
  rw[XW,XW];by_cases hk:k=n
  ·subst hk;rw[h1,h2];have:(List.range k).countP p=(List.range k).countP q:=List.countP_congr fun i hi=>by
    have:=List.mem_range.1 hi;rw[R0 i (by omega) (by omega)]
   rw[this];simp
  ·rw[XV p q k n (by omega) (fun i hi=>R0 i (by omega)) h1 h2,R0 n (by omega) (by omega)];omega
structure FR (m:Nat) (l:J) (c:Int) (q:J):Prop where
 ll:l.length=m
 lq:q.length=m
 h9:∀i j:Nat,i<m->j<m->(l.getD i 0=l.getD j 0↔q.getD i 0=q.getD j 0)
 low:∀i:Nat,i<m->0<=l.getD i 0/\l.getD i 0<=(i:Int)/\l.getD (l.getD i 0).toNat 0=l.getD i 0
 cF:QN l=c
theorem adW {b a:Int} {l:J} {i:Nat} (h:i<l.length):(ry b a l).getD i 0=if l.getD i 0=b then a else l.getD i 0:=by
 simp[ry,List.getD,List.getElem?_map,List.getElem?_eq_getElem h]
theorem asr (b:Int) (l:J):ry b b l=l:=by
 unfold ry
 conv=>rhs;rw[<-List.map_id l]
 refine List.map_congr_left fun x _=>?_;split
 ·rename_i h;exact h.symm
 ·rfl
theorem abz {b a x y:Int}:((if x=b then a else x)=(if y=b then a else y))↔(x=y\/((x=b\/x=a)/\(y=b\/y=a))):=by
 constructor
 ·intro h;split at h<;>split at h<;>omega
 ·intro h;split<;>split<;>omega
theorem FR.step {m:Nat} {l:J} {c:Int} {q:J} (h:FR m l c q) {u v:Nat} (hu:u<m) (hv:v<m) {s i:Nat}:
  FR m (S5 s i l ((u:Int),(v:Int))) (EG s i (c,q) ((u:Int),(v:Int))).1 (EG s i (c,q) ((u:Int),(v:Int))).2:=by
 cases hb:s.testBit i with
 |false=>
  have e1:S5 s i l ((u:Int),(v:Int))=l:=if_neg (by rw[hb];decide);have e2:EG s i (c,q) ((u:Int),(v:Int))=(c,q):=if_neg (fun hh=>by rw[hb] at hh;exact absurd hh.1 (by decide));rw[e1,e2];exact h
 |true=>
  have ep:q.getD u 0=q.getD v 0->EG s i (c,q) ((u:Int),(v:Int))=(c,q):=fun h=>if_neg (fun hh=>hh.2 h);have en:q.getD u 0≠q.getD v 0->EG s i (c,q) ((u:Int),(v:Int))=(c - 1,ry (q.getD v 0) (q.getD u 0) q):=fun h=>if_pos ⟨hb,h⟩;have el:S5 s i l ((u:Int),(v:Int))=ry (max (l.getD u 0) (l.getD v 0)) (min (l.getD u 0) (l.getD v 0)) l:=if_pos hb;obtain⟨ll,lq,h9,low,cF⟩:=h;by_cases hq:q.getD u 0=q.getD v 0
  ·have hl:=(h9 u v hu hv).2 hq;rw[ep hq,el,hl,Int.max_self,Int.min_self,asr];exact⟨ll,lq,h9,low,cF⟩
  ·have hl:l.getD u 0≠l.getD v 0:=fun e=>hq ((h9 u v hu hv).1 e);rw[en hq,el];obtain⟨lu0,lu1,Te⟩:=low u hu;obtain⟨lv0,lv1,Tf⟩:=low v hv;obtain⟨lo,hi,e1,e2,cu,vd,alo,qO,wQ,aas⟩:∃lo hi:Nat,min (l.getD u 0) (l.getD v 0)=(lo:Int)/\max (l.getD u 0) (l.getD v 0)=(hi:Int)/\lo<hi/\
     (∀x:Int,(x=(hi:Int)\/x=(lo:Int))↔(x=l.getD v 0\/x=l.getD u 0))/\lo<m/\l.getD lo 0=(lo:Int)/\l.getD hi 0=(hi:Int)/\hi<m:=by
    obtain⟨a,ha⟩:=rp lu0;obtain⟨b,hb⟩:=rp lv0;rw[ha,Int.toNat_natCast] at Te;rw[hb,Int.toNat_natCast] at Tf;rw[ha] at lu1 hl;rw[hb] at lv1 hl;rw[ha,hb];rcases Nat.lt_or_ge a b with gi|gi
    ·exact⟨a,b,by omega,by omega,gi,fun x=>by omega,by omega,Te,Tf,by omega⟩
    ·exact⟨b,a,by omega,by omega,by omega,fun x=>by omega,by omega,Tf,Te,by omega⟩
   rw[e1,e2];have gl:∀j,j<m->(ry (hi:Int) (lo:Int) l).getD j 0=if l.getD j 0=(hi:Int) then(lo:Int) else l.getD j 0:=fun j hj=>adW (by omega)
   have gq:∀j,j<m->(ry (q.getD v 0) (q.getD u 0) q).getD j 0=if q.getD j 0=q.getD v 0 then q.getD u 0 else q.getD j 0:=fun j hj=>adW (by omega)
   refine⟨by rw[TZ];exact ll,by rw[TZ];exact lq,?_,?_,?_⟩
   ·intro x y hx hy;rw[gl x hx,gl y hy,gq x hx,gq y hy,abz,abz,vd,vd,h9 x y hx hy,h9 x u hx hu,h9 x v hx hv,h9 y u hy hu,h9 y v hy hv]
   ·intro x hx;obtain⟨h0,h1,h2⟩:=low x hx;rw[gl x hx];by_cases Si:l.getD x 0=(hi:Int)
    ·rw[if_pos Si];refine⟨by omega,by omega,?_⟩;rw[Int.toNat_natCast,gl lo alo,qO,if_neg (by omega)]
    ·rw[if_neg Si];refine⟨h0,h1,?_⟩;rw[gl _ (by omega),h2,if_neg Si]
   ·have hc:=XV (fun j=>l.getD j 0==(j:Int)) (fun j=>(ry (hi:Int) (lo:Int) l).getD j 0==(j:Int)) hi m aas ?_ (by rw[wQ];simp) (by rw[gl hi aas,if_pos wQ];simp;omega)
    ·unfold QN at cF⊢;rw[TZ,ll];rw[ll,hc] at cF;omega
    ·intro j hj aD;rw[gl j hj];by_cases RG:l.getD j 0=(hi:Int)
     ·rw[if_pos RG,RG,Bool.eq_iff_iff];simp only[beq_iff_eq];constructor
      ·intro h;omega
      ·intro h;have:lo=j:=by omega
       subst this;omega
     ·rw[if_neg RG]
theorem SJ {m i:Nat} (h:i<m):(zd m).getD i 0=(i:Int):=by
 simp[zd,List.getD,List.getElem?_map,List.getElem?_range h]
theorem FR.init (m:Nat):FR m (zd m) (m:Int) (zd m):=by
 refine⟨SK m,SK m,fun _ _ _ _=>Iff.rfl,fun i hi=>?_,?_⟩
 ·rw[SJ hi,Int.toNat_natCast,SJ hi];omega
 ·unfold QN;rw[SK];have:(List.range m).countP (fun i=>(zd m).getD i 0==(i:Int))=(List.range m).length:=by
   rw[List.countP_eq_length];intro i hi;rw[SJ (List.mem_range.1 hi)];simp
  rw[this,List.length_range]

def cS (om:Bool) (w:Nat) (x y:Nat->Int) (t:Nat):Int:=sm w (fun i=>sm w (fun j=>kW om x y t i j))
def pc (x y:Nat->Int) (t:Nat):Int:=sm (t+1) (fun i=>x i*y (t - i))
theorem VK:∀(n:Nat) {f:Nat->Int},(∀i,i<n->f i=0)->sm n f=0
 |0,_,_=>rfl
 |n+1,f,h=>by simp only[sm];rw[VK n (fun i hi=>h i (by omega)),h n (by omega)];rfl
theorem VI {a:Nat} {f:Nat->Int}:∀(n:Nat),a<n->(∀i,i<n->i≠a->f i=0)->sm n f=f a
 |0,h,_=>by omega
 |n+1,h,hf=>by
  simp only[sm];by_cases e:a=n
  ·subst e;rw[VK a (fun i hi=>hf i (by omega) (by omega))];omega
  ·rw[VI n (by omega) (fun i hi aD=>hf i (by omega) aD),hf n (by omega) (by omega)];omega
theorem afV {m:Nat} {f:Nat->Int}:∀(n:Nat),m<=n->(∀i,i<n->m<=i->f i=0)->sm n f=sm m f
 |0,h,_=>by rw[show m=0 by omega]
 |n+1,h,hf=>by
  by_cases e:m=n+1
  ·rw[e]
  ·simp only[sm];rw[afV n (by omega) (fun i hi hm=>hf i (by omega) hm),hf n (by omega) (by omega)];omega
theorem VJ {p:Int} {f g:Nat->Int}:∀{n:Nat},(∀i,i<n->f i%p=g i%p)->sm n f%p=sm n g%p
 |0,_=>rfl
 |n+1,h=>by simp only[sm];rw[Int.add_emod,VJ (n:=n) (fun i hi=>h i (by omega)),h n (by omega),<-Int.add_emod]
theorem F0 {w t:Nat} (x y:Nat->Int) (h:t<w):cS false w x y t=pc x y t:=by
 have dw:∀i,i<w->sm w (fun j=>kW false x y t i j)=if i<=t then x i*y (t - i) else 0:=by
  intro i hi;split
  ·rename_i yP;rw[VI (a:=t - i) w (by omega) (fun j hj aD=>by unfold kW;rw[if_neg (by omega),if_neg (by simp)])];unfold kW;rw[if_pos (by omega)]
  ·exact VK w fun j hj=>by unfold kW;rw[if_neg (by omega),if_neg (by simp)]
 unfold cS pc;rw[Iw dw,afV (m:=t+1) w (by omega) (fun i hi hm=>if_neg (by omega))];exact Iw fun i hi=>if_pos (by omega)
theorem aqC {p a b:Int} (gi:a%p=b%p):(-a)%p=(-b)%p:=by
 have:(0 - a)%p=(0 - b)%p:=by rw[Int.sub_emod,gi,<-Int.sub_emod]
 simpa using this
theorem Xz {om:Bool} {w t:Nat} {p:Int} {x x' y y':Nat->Int} (hx:∀i,i<w->x i%p=x' i%p) (hy:∀i,i<w->y i%p=y' i%p):cS om w x y t%p=cS om w x' y' t%p:=by
 refine VJ fun i hi=>VJ fun j hj=>?_;have hm:(x i*y j)%p=(x' i*y' j)%p:=by rw[Int.mul_emod,hx i hi,hy j hj,<-Int.mul_emod]
 unfold kW;split
 ·exact hm
 ·split
  ·exact aqC hm
  ·rfl
theorem P6 {om:Bool} {w t:Nat} {x x' y y':Nat->Int} (hx:∀i,i<w->x i=x' i) (hy:∀i,i<w->y i=y' i):cS om w x y t=cS om w x' y' t:=
 Iw fun i hi=>Iw fun j hj=>by unfold kW;rw[hx i hi,hy j hj]
theorem arV (x y z:Nat->Int) {t:Nat} (h:t<6):pc (pc x y) z t=pc x (pc y z) t:=by
 match t,h with
 |0,_=>simp only[pc,sm,Nat.reduceSub,Nat.reduceAdd,Nat.zero_add];try grind
 |1,_=>simp only[pc,sm,Nat.reduceSub,Nat.reduceAdd,Nat.zero_add];try grind
 |2,_=>simp only[pc,sm,Nat.reduceSub,Nat.reduceAdd,Nat.zero_add];try grind
 |3,_=>simp only[pc,sm,Nat.reduceSub,Nat.reduceAdd,Nat.zero_add];try grind
 |4,_=>simp only[pc,sm,Nat.reduceSub,Nat.reduceAdd,Nat.zero_add];try grind
 |5,_=>simp only[pc,sm,Nat.reduceSub,Nat.reduceAdd,Nat.zero_add];try grind
theorem Ak (x y:Nat->Int):cS true 4 x y 0=x 0*y 0 - x 1*y 3 - x 2*y 2 - x 3*y 1:=by simp[cS,sm,kW];grind
theorem Al (x y:Nat->Int):cS true 4 x y 1=x 0*y 1+x 1*y 0 - x 2*y 3 - x 3*y 2:=by simp[cS,sm,kW];grind
theorem An (x y:Nat->Int):cS true 4 x y 2=x 0*y 2+x 1*y 1+x 2*y 0 - x 3*y 3:=by simp[cS,sm,kW];grind
theorem Ao (x y:Nat->Int):cS true 4 x y 3=x 0*y 3+x 1*y 2+x 2*y 1+x 3*y 0:=by simp[cS,sm,kW]
theorem aib (x y z:Nat->Int) {t:Nat} (h:t<4):cS true 4 (cS true 4 x y) z t=cS true 4 x (cS true 4 y z) t:=by
 match t,h with
 |0,_=>rw[Ak,Ak];simp only[Ak,Al,An,Ao];grind
 |1,_=>rw[Al,Al];simp only[Ak,Al,An,Ao];grind
 |2,_=>rw[An,An];simp only[Ak,Al,An,Ao];grind
 |3,_=>rw[Ao,Ao];simp only[Ak,Al,An,Ao];grind
theorem ahR {k p:Int} {w:Nat} (c:Ol k p w) (x y z:Nat->Int) {t:Nat} (h:t<w):cS (decide (k=8)) w (cS (decide (k=8)) w x y) z t=cS (decide (k=8)) w x (cS (decide (k=8)) w y z) t:=by
 by_cases h8:k=8
 ·obtain rfl:=c.w8 h8;rw[decide_eq_true h8];exact aib x y z h
 ·rw[decide_eq_false h8];have h6:=c.cw;rw[P6 (x':=pc x y) (y':=z) (fun i hi=>F0 x y hi) (fun _ _=>rfl),F0 _ _ h,P6 (x':=x) (y':=pc y z) (fun _ _=>rfl) (fun i hi=>F0 y z hi),F0 _ _ h];exact arV x y z (by omega)
theorem Qr (p:Int) (om:Bool) (w:Nat) (x y:Nat->Int):Ar p om w x y=pA w fun t=>cS om w x y t%p:=rfl
theorem Gk {r:Int×Int×Int} (h:r.1=7\/r.1=8) (x y:J):zp r x y=Ar r.2.1 (decide (r.1=8)) (bc r) (fz x) (fz y):=if_pos h
theorem abA {a b c p:Int} (hp:0<=p) (ha:0<=a) (hb:0<=b) (hc:0<=c):min (min (a*b) p*c) p=min (a*b*c) p:=by
 generalize hm:a*b=m;by_cases h:m<=p
 ·rw[show min m p=m by omega]
 ·rw[show min m p=p by omega];by_cases h0:c=0
  ·subst h0;simp
  ·have h1:p*1<=p*c:=Int.mul_le_mul_of_nonneg_left (by omega) hp;have h2:p*c<=m*c:=Int.mul_le_mul_of_nonneg_right (by omega) hc;omega
theorem ag9 {r:Int×Int×Int} (hk:¬(r.1=7\/r.1=8)):bc r=1:=by
 obtain⟨k,p,n⟩:=r;simp only at hk;simp only[bc,jQ];rw[if_neg (by omega),if_neg (by omega)];rfl
theorem aqQ {r:Int×Int×Int} (hr:gn r=true) (hk:¬(r.1=7\/r.1=8)) {a b c:Int} (ha:0<=a/\a<=fg r) (hb:0<=b/\b<=fg r) (hc:0<=c/\c<=fg r):ru r (ru r a b) c=ru r a (ru r b c):=by
 obtain⟨k,p,n⟩:=r;simp only at hk;rcases ET hr with⟨rfl,rfl,rfl⟩|⟨rfl,hp,rfl⟩|⟨rfl,hp,rfl⟩|⟨rfl,hp,rfl⟩|⟨rfl,hp,rfl⟩|⟨rfl,rfl,hn⟩|⟨rfl,hp,hn⟩|⟨rfl,hp,qU,rfl⟩
 ·have o:∀u v,ru (1,0,0) u v=((u.toNat&&&v.toNat:Nat):Int):=fun _ _=>rfl;rw[o,o,o,o,Int.toNat_natCast,Int.toNat_natCast,Nat.and_assoc]
 ·have o:∀u v,ru (2,p,0) u v=u*v%p:=fun _ _=>rfl;rw[o,o,o,o,Int.mul_emod,Int.emod_emod,<-Int.mul_emod,Int.mul_emod a,Int.emod_emod,<-Int.mul_emod,Int.mul_assoc]
 ·have o:∀u v,ru (3,p,0) u v=min (u*v) p:=fun _ _=>rfl;rw[o,o,o,o,abA (by omega) ha.1 hb.1 hc.1,Int.mul_comm a (min _ _),abA (by omega) hb.1 hc.1 ha.1,Int.mul_assoc a b c,Int.mul_comm a]
 ·have o:∀u v,ru (4,p,0) u v=min (u+v) p:=fun _ _=>rfl;rw[o,o,o,o];omega
 ·have o:∀u v,ru (5,p,0) u v=min u v:=fun _ _=>rfl;rw[o,o,o,o];omega
 ·have o:∀u v,ru (6,0,n) u v=((u.toNat&&&v.toNat:Nat):Int):=fun _ _=>rfl;rw[o,o,o,o,Int.toNat_natCast,Int.toNat_natCast,Nat.and_assoc]
 ·omega
 ·omega
theorem mul_assoc {r:Int×Int×Int} {x y z:J} (hr:gn r=true) (hx:nO r x=true) (hy:nO r y=true) (hz:nO r z=true):zp r (zp r x y) z=zp r x (zp r y z):=by
 by_cases hk:r.1=7\/r.1=8
 ·obtain⟨k,p,n⟩:=r;have c:=XA hr hk;rw[Gk hk,Gk hk,Gk hk,Gk hk];simp only
  refine agF fun t ht=>?_;show cS (decide (k=8)) (bc (k,p,n)) (fz (Ar p (decide (k=8)) (bc (k,p,n)) (fz x) (fz y))) (fz z) t%p=cS (decide (k=8)) (bc (k,p,n)) (fz x) (fz (Ar p (decide (k=8)) (bc (k,p,n)) (fz y) (fz z))) t%p;have e1:cS (decide (k=8)) (bc (k,p,n)) (fz (Ar p (decide (k=8)) (bc (k,p,n)) (fz x) (fz y))) (fz z) t%p=cS (decide (k=8)) (bc (k,p,n)) (cS (decide (k=8)) (bc (k,p,n)) (fz x) (fz y)) (fz z) t%p:=
   Xz (fun i hi=>by rw[Qr,QQ _ hi,Int.emod_emod]) (fun _ _=>rfl)
  have e2:cS (decide (k=8)) (bc (k,p,n)) (fz x) (fz (Ar p (decide (k=8)) (bc (k,p,n)) (fz y) (fz z))) t%p=cS (decide (k=8)) (bc (k,p,n)) (fz x) (cS (decide (k=8)) (bc (k,p,n)) (fz y) (fz z)) t%p:=
   Xz (fun _ _=>rfl) (fun i hi=>by rw[Qr,QQ _ hi,Int.emod_emod])
  rw[e1,e2,ahR c _ _ _ ht]
 ·have hw:=ag9 hk;obtain⟨a,b,rfl,rfl,ha,hb⟩:=Yh hx hy hw;obtain⟨_,c,e,rfl,_,hc⟩:=Yh hx hz hw;rw[HN hk,HN hk,HN hk,HN hk,aqQ hr hk ha hb hc]
theorem akJ {k p n:Int} (hk:k=7\/k=8) {j:Nat} (hj:j<bc (k,p,n)):fz (ED (k,p,n)) j=if j=0 then 1 else 0:=by
 rw[aqP,QQ _ hj,if_neg (show¬k=4 by omega),if_neg (show¬(k=5\/k=6) by omega)]
theorem ahQ {k p:Int} {w:Nat} (c:Ol k p w) (u:Nat->Int) (v:Int) {t:Nat} (h:t<w):cS (decide (k=8)) w u (fun j=>if j=0 then v else 0) t=u t*v:=by
 by_cases h8:k=8
 ·obtain rfl:=c.w8 h8;rw[decide_eq_true h8];match t,h with
  |0,_=>rw[Ak];simp
  |1,_=>rw[Al];simp
  |2,_=>rw[An];simp
  |3,_=>rw[Ao];simp
 ·rw[decide_eq_false h8,F0 _ _ h];unfold pc;rw[VI (a:=t) (t+1) (by omega) (fun i hi aD=>by simp only;rw[if_neg (by omega),Int.mul_zero])];simp only
  rw[if_pos (by omega)]
theorem aqR {k p n:Int} (hr:gn (k,p,n)=true) (hk:¬(k=7\/k=8)) {a:Int} (ha:0<=a/\a<=fg (k,p,n)):ru (k,p,n) a (if k=4 then 0 else if k=5\/k=6 then fg (k,p,n) else 1)=a:=by
 rcases ET hr with⟨rfl,rfl,rfl⟩|⟨rfl,hp,rfl⟩|⟨rfl,hp,rfl⟩|⟨rfl,hp,rfl⟩|⟨rfl,hp,rfl⟩|⟨rfl,rfl,hn⟩|⟨rfl,hp,hn⟩|⟨rfl,hp,qU,rfl⟩
 ·have e:fg (1,0,0)=1:=rfl;have h1:a=0\/a=1:=by omega
  rcases h1 with rfl|rfl<;>decide
 ·have e:fg (2,p,0)=p - 1:=rfl;have:=q8 hp;show a*1%p=a;rw[Int.mul_one,Int.emod_eq_of_lt (by omega) (by omega)]
 ·have e:fg (3,p,0)=p:=rfl;show min (a*1) p=a;omega
 ·have e:fg (4,p,0)=p:=rfl;show min (a+0) p=a;omega
 ·have e:fg (5,p,0)=p:=rfl;show min a p=a;omega
 ·have e:fg (6,0,n)=2^n.toNat - 1:=rfl;have e2:(((2:Nat)^n.toNat:Nat):Int)=(2:Int)^n.toNat:=by push_cast;rfl
  show((a.toNat&&&(2^n.toNat - 1:Int).toNat:Nat):Int)=a;rw[show(2^n.toNat - 1:Int).toNat=2^n.toNat - 1 by omega,Nat.and_two_pow_sub_one_eq_mod,Nat.mod_eq_of_lt (by omega)];omega
 ·omega
 ·omega
theorem mul_one {r:Int×Int×Int} {x:J} (hr:gn r=true) (hx:nO r x=true):zp r x (ED r)=x:=by
 obtain⟨k,p,n⟩:=r;by_cases hk:k=7\/k=8
 ·have c:=XA hr hk;rw[Gk hk,Qr];simp only
  have hT:fg (k,p,n)=p - 1:=by
   simp only[fg];rw[if_neg (by omega),if_neg (by omega),if_neg (by omega)]
  refine(agF fun t ht=>?_).trans (atT (Yg hx));rw[P6 (x':=fz x) (y':=fun j=>if j=0 then 1 else 0) (fun _ _=>rfl) (fun i hi=>akJ hk hi),ahQ c _ _ ht,Int.mul_one]
  have:=Yf hx ht;rw[hT] at this;exact Int.emod_eq_of_lt this.1 (by omega)
 ·have hw:=ag9 (r:=(k,p,n)) hk;obtain⟨e,ha⟩:=Gt hx hw;have e1:ED (k,p,n)=[if k=4 then 0 else if k=5\/k=6 then fg (k,p,n) else 1]:=by simp only[ED];exact asu hw
  rw[e,e1,HN hk,aqR hr hk ha]
abbrev Rg:=Int×Int×Int
abbrev T3:=J×J×J
abbrev iA:=Int×List J
def kF (r:Rg) (t:T3):Bool:=gn r&&(decide (0<=ga t.1 t.2.1)&&(decide ((t.2.2.length:Int)=ga t.1 t.2.1*jQ r)&&t.2.2.all (qZ (fg r))))
def ye:Rg×T3->Option Bool:=fun x=>if x.2.1.length<=1048576/\x.2.2.1.length<=1048576/\x.2.2.2.length<=1048576 then some (kF x.1 x.2) else none
def Ci:Rg×T3->Option Bool:=ye
def F6 (R:List J) (ix:J) (i:Nat):Int:=(R.getD i []).getD (ix.getD i 0).toNat 0
def NU (x:iA×J):Prop:=(1<=x.1.1/\x.1.1<=12)/\x.2.length<=12/\∀i,i<x.2.length->i<x.1.2.length/\(0<=x.2.getD i 0/\(x.2.getD i 0).toNat<(x.1.2.getD i []).length)/\0<=F6 x.1.2 x.2 i/\F6 x.1.2 x.2 i<=12
instance (x:iA×J):Decidable (NU x):=by unfold NU;infer_instance
def WM:iA×J->Option Int:=fun x=>if NU x then some (sm x.2.length (F6 x.1.2 x.2)%x.1.1) else none
def Ct:J->Option Int:=fun l=>if l.length<=12/\∀v∈l,0<=v/\v<=12 then some (sm l.length fun i=>l.getD i 0) else none
def Co:J->Option Int:=fun l=>if l.length<=12/\∀v∈l,1<=v/\v<=8 then some (eC l) else none
def mU (l:J) (o:Nat) (x:J):J:=l.take o++x++l.drop (o+x.length)
def TT (x:Rg×T3×Int×J):Prop:=gn x.1=true/\0<=x.2.2.1/\x.2.2.1.toNat*bc x.1+x.2.2.2.length<=x.2.1.2.2.length/\x.2.1.2.2.length<=1048576
instance (x:Rg×T3×Int×J):Decidable (TT x):=by unfold TT;infer_instance
def z8:Rg×T3×Int×J->Option J:=fun x=>if TT x then some (mU x.2.1.2.2 (x.2.2.1.toNat*bc x.1) x.2.2.2) else none
def KO (x:Rg×T3×Int):Prop:=gn x.1=true/\0<=x.2.2/\(x.2.2.toNat+1)*bc x.1<=x.2.1.2.2.length/\x.2.1.2.2.length<=1048576
instance (x:Rg×T3×Int):Decidable (KO x):=by unfold KO;infer_instance
def XT (x:Rg×T3×iA):Prop:=(x.2.1.1.length<=1048576/\x.2.1.2.1.length<=1048576/\x.2.1.2.2.length<=1048576)/\F4 (x.2.1,x.2.2)
instance (x:Rg×T3×iA):Decidable (XT x):=by unfold XT;infer_instance
def JX:ak:=[(.agg,[.int .i64,.int .i64,.int .i64]),(.agg,[.list [.int .i64],.list [.int .i64],.list [.int .i64]])]
def U2:ak:=[(.one,[.bool])]
def aoZ:aK:=[]
def I9:ak:=[(.agg,[.int .i64,.int .i64,.int .i64]),(.agg,[.list [.int .i64],.list [.int .i64],.list [.int .i64]])]
def Uc:ak:=[(.one,[.bool])]
def aoh:aK:=[]
def Jr:ak:=[(.one,[.list [.int .i64]])]
def Uu:ak:=[(.one,[.int .i64])]
def aox:aK:=[]
def Jl:ak:=[(.one,[.list [.int .i64]])]
def Uo:ak:=[(.one,[.int .i64])]
def aos:aK:=[]
def Ph (NN:Nat):((Int×(Int×Int))×(J×(J×J)))->(Option Bool):=
 (fun(((i0,i1,i2),l3,l4,l5):((Int×(Int×Int))×(J×(J×J))))=>
 (ur (l3,l4,l5)).ae (fun i6=>
 (yd (i0,i1,i2)).ae (fun b7=>
 aw (cZ b7)
 (some false)
 (aw (bG i6 (0:Int))
 (some false)
 ((uu (i0,i1,i2)).ae (fun i8=>
 aw (fL (aA (aa l5)) (kC .i64 i6 i8))
 (some false)
 (bT (cq NN (fun(((l9,kQ,j3),jb,nv,pT):((J×(Int×Int))×(Int×(Int×Int))))=>
 aw (bG j3 kQ)
 ((dm l9 j3).ae (fun xf=>
 (FI (jb,nv,pT)).ae (fun vk=>
 (kG (xf,(0:Int),vk)).ae (fun b17=>
 aw (cZ b17)
 (some (Sum.inr (Sum.inr false)))
 (some (Sum.inl ((l9,kQ,cR .i64 j3 1),jb,nv,pT)))))))
 (some (Sum.inr (Sum.inl ()))))
 ((l5,aA (aa l5),(0:Int)),i0,i1,i2))
 (fun _=>
 some true))))))))
def Ow (NN:Nat):((Int×(Int×Int))×(J×(J×J)))->(Option Bool):=
 (fun(((i0,i1,i2),l3,l4,l5):((Int×(Int×Int))×(J×(J×J))))=>
 (xY (i0,i1,i2)).ae (fun b6=>
 aw (cZ b6)
 (some false)
 ((xZ (l3,l4,l5)).ae (fun i7=>
 aw (fL i7 ((-1:Int)))
 ((rL (i0,i1,i2)).ae (fun i8=>
 aw (dJ (aA (aa l5)) (kC .i64 i7 i8))
 ((Cl ((i0,i1,i2),l5)).ae (fun b9=>
 some b9))
 (some false)))
 (some false)))))
def OO (NN:Nat):J->(Option Int):=
 (fun(l0:J)=>
 bT (cq NN (fun((i1,l2,i3,i4):(Int×(J×(Int×Int))))=>
 aw (bG i4 i3)
 ((dm l2 i4).ae (fun i5=>
 some (Sum.inl (cR .i64 i1 i5,l2,i3,cR .i64 i4 1))))
 (some (Sum.inr (Sum.inl i1))))
 ((0:Int),l0,aA (aa l0),(0:Int)))
 (fun i6=>
 some i6))
def OJ (NN:Nat):J->(Option Int):=
 (fun(l0:J)=>
 bT (cq NN (fun((i1,l2,i3,i4):(Int×(J×(Int×Int))))=>
 aw (bG i4 i3)
 ((dm l2 i4).ae (fun i5=>
 some (Sum.inl (kC .i64 i1 i5,l2,i3,cR .i64 i4 1))))
 (some (Sum.inr (Sum.inl i1))))
 ((1:Int),l0,aA (aa l0),(0:Int)))
 (fun i6=>
 some i6))
theorem ao {α β:Type} (x:α) (f:α->Option β):(some x).ae f=f x:=by
 have h:∀o:Option α,o=some x->o.ae f=f x:=by intro o h;subst h;rfl
 exact h _ rfl
theorem IJ {r:Rg} {L D A:J} (h:kF r (L,D,A)=true):gn r=true/\(D.length<=12/\(∀x∈D,1<=x/\x<=8))/\ga L D=(bW D:Int)/\(1<=bW D/\bW D<=4096)/\A.length=bW D*bc r/\mI D/\Af 4096 D=(bW D:Int)/\eC D=(bW D:Int)/\A.all (qZ (fg r))=true:=by
 simp only[kF,Bool.and_eq_true,decide_eq_true_eq] at h;obtain⟨h1,h2,h3,h4⟩:=h;have hw:=rK h1;by_cases ha:pL L D=true/\eC D<=4096
 ·have e:ga L D=eC D:=if_pos ha;have hd:=CX ha.1;have hl:=yq ha.1;have hI:=EL (D:=D) fun x hx=>(hd x hx).1;have eS:=BK (D:=D) fun x hx=>(hd x hx).1;refine⟨h1,⟨by omega,hd⟩,e.trans hI,⟨eS,by omega⟩,?_,⟨by omega,fun x hx=>by have:=hd x hx;omega⟩,?_,hI,h4⟩
  ·rw[e,hI,hw.1] at h3
   exact_mod_cast h3
  ·unfold Af;rw[Kr (by decide) _ 0 1 (fun x hx=>(hd x hx).1) (by decide) (by decide),Int.one_mul,hI,Int.min_eq_left (by omega)]
 ·have e:ga L D= -1:=if_neg ha;rw[e] at h2;exact absurd h2 (by decide)
theorem agT (L D:J):ga L D= -1\/(0<=ga L D/\ga L D<=4096):=by
 unfold ga;split
 ·rename_i h;have hd:=CX h.1;have hI:=EL (D:=D) fun x hx=>(hd x hx).1;right;omega
 ·exact .inl rfl
theorem agP {L D:J} {r:Rg} (h:gn r=true) (h0:0<=ga L D):kC .i64 (ga L D) (jQ r)=ga L D*jQ r:=by
 have hw:=rK h;have h1:ga L D<=4096:=by
  rcases agT L D with e|e
  ·omega
  ·exact e.2
 have h2:ga L D*jQ r<=4096*6:=Int.mul_le_mul h1 (by omega) (by omega) (by decide);have h3:0<=ga L D*jQ r:=Int.mul_nonneg h0 (by omega);exact pi (by omega) (by omega)
theorem akm (x:Rg×T3) (y:Bool) (h:ye x=some y):Ph aP x=some y:=by
 obtain⟨⟨k,p,n⟩,L,D,A⟩:=x;simp only[ye] at h;split at h
 ·rename_i hc;rw[<-h];simp only[Ph];rw[show ur (L,D,A)=some (ga L D) from if_pos ⟨hc.1,hc.2.1⟩]
  simp only[ao,yd];cases hr:gn (k,p,n) with
  |false=>rw[ba (b:=cZ false) rfl];simp[kF,hr]
  |true=>
   rw[be (b:=cZ true) rfl];by_cases h0:0<=ga L D
   ·rw[be (eO h0)];simp only[uu,ao];rw[agP hr h0,nl];by_cases hl:(A.length:Int)=ga L D*jQ (k,p,n)
    ·rw[be (show fL _ _=false by unfold fL;rw[hl];simp)];have tP:FI (k,p,n)=some (fg (k,p,n)):=if_pos hr;rw[Ep A (fun i=>((A,(A.length:Int),(i:Int)),k,p,n)) (qZ (fg (k,p,n))) (.inr false) (.inl ()) ?_ ?_ ?_ ?_ (ew (by have:=hc.2.2;omega))]
     ·cases ha:A.all (qZ (fg (k,p,n)))
      ·rw[if_neg (by simp)];simp[kF,hr,ha,bT]
      ·rw[if_pos rfl];simp[kF,hr,ha,bT,h0,hl]
     ·intro i a ha hb;have aL:decide (0<=a/\a<=fg (k,p,n))=true:=hb;dsimp only
      rw[ba (d6 (by have:=Es ha;omega)),dn,ha,ao,tP];simp only[kG,ao];rw[aL,be ac5,nC ha (by have:=hc.2.2;omega)]
     ·intro i a ha hb;have aL:decide (0<=a/\a<=fg (k,p,n))=false:=hb;dsimp only
      rw[ba (d6 (by have:=Es ha;omega)),dn,ha,ao,tP];simp only[kG,ao];rw[aL,ba (b:=cZ false) rfl]
     ·dsimp only;rw[be (eO (by omega))]
     ·rfl
    ·rw[ba (show fL _ _=true from bne_iff_ne.2 hl)]
     simp[kF,hr,hl]
   ·rw[ba (d6 (by omega))];simp[kF,hr,h0]
 ·cases h
theorem ajA (x:Rg×T3) (y:Bool) (h:Ci x=some y):Ow aP x=some y:=by
 obtain⟨⟨k,p,n⟩,L,D,A⟩:=x;simp only[Ci,ye] at h;split at h
 ·rename_i hc;rw[<-h];simp only[Ow,xY,ao];cases hr:gn (k,p,n) with
  |false=>rw[ba (b:=cZ false) rfl];simp[kF,hr]
  |true=>
   rw[be (b:=cZ true) rfl,show xZ (L,D,A)=some (ga L D) from if_pos ⟨hc.1,hc.2.1⟩]
   simp only[ao];by_cases h0:0<=ga L D
   ·rw[ba (show fL _ _=true from bne_iff_ne.2 (by omega))]
    simp only[rL,ao];rw[agP hr h0,nl];by_cases hl:(A.length:Int)=ga L D*jQ (k,p,n)
    ·rw[ba (show dJ _ _=true from beq_iff_eq.2 hl),show Cl ((k,p,n),A)=some _ from if_pos ⟨hr,by have:=hc.2.2;omega⟩,ao]
     simp[kF,hr,h0,hl]
    ·rw[be (show dJ _ _=false from beq_eq_false_iff_ne.2 hl)]
     simp[kF,hr,hl]
   ·have:ga L D= -1:=by rcases agT L D with e|e<;>omega
    rw[be (show fL _ _=false by unfold fL;rw[this];rfl)];simp[kF,hr,h0]
 ·cases h
theorem ajP (x:J) (y:Int) (h:Ct x=some y):OO aP x=some y:=by
 simp only[Ct] at h;split at h
 ·rename_i hc;rw[<-h];obtain⟨hl,hv⟩:=hc;have hb:∀k,k<=x.length->0<=sm k (fun i=>x.getD i 0)/\sm k (fun i=>x.getD i 0)<=12*k:=by
   intro k;induction k with
   |zero=>exact fun _=>⟨Int.le_refl 0,Int.le_refl 0⟩
   |succ k ih=>
    intro hk;have ih:=ih (by omega);have:=hv _ (List.mem_of_getElem? (getD_some 0 (show k<x.length by omega)));simp only[sm];omega
  simp only[OO];rw[fF (fun k=>(sm k (fun i=>x.getD i 0),x,aA (aa x),(k:Int))) x.length ?a1 ?a2 ?a3 (ew (by omega))]
  case a3=>rfl
  case a2=>dsimp only;rw[be (g9 x)]
  case a1=>
   intro k hk;have g:=getD_some (0:Int) hk;have h1:=hb k (by omega);have h2:=hv _ (List.mem_of_getElem? g);dsimp only
   rw[ba (d6 (by rw[nl];omega)),dn,g,ao,fe (by omega) (by omega),fe (by omega) (by omega)];rfl
  simp only[bT,Option.bind]
 ·cases h
theorem ajM (x:J) (y:Int) (h:Co x=some y):OJ aP x=some y:=by
 simp only[Co] at h;split at h
 ·rename_i hc;rw[<-h];obtain⟨hl,hv⟩:=hc;have hb:∀k,k<=x.length->1<=eC (x.take k)/\eC (x.take k)<=8^k:=by
   intro k;induction k with
   |zero=>exact fun _=>⟨Int.le_refl 1,Int.le_refl 1⟩
   |succ k ih=>
    intro hk;obtain⟨i1,i2⟩:=ih (by omega);have h1:=hv _ (List.mem_of_getElem? (getD_some 0 (show k<x.length by omega)));rw[EK (by omega)];have a1:1*1<=eC (x.take k)*x.getD k 0:=Int.mul_le_mul i1 h1.1 (by decide) (by omega);have a2:eC (x.take k)*x.getD k 0<=8^k*8:=Int.mul_le_mul i2 h1.2 (by omega) (by exact Int.pow_nonneg (by decide));exact⟨by omega,by rw[Int.pow_succ];exact a2⟩
  have Rb:∀k,k<=12->(8:Int)^k<=68719476736:=by decide
  simp only[OJ];rw[fF (fun k=>(eC (x.take k),x,aA (aa x),(k:Int))) x.length ?a1 ?a2 ?a3 (ew (by omega))]
  case a3=>rfl
  case a2=>dsimp only;rw[be (g9 x)]
  case a1=>
   intro k hk;have g:=getD_some (0:Int) hk;have h1:=hb (k+1) (by omega);have h2:=Rb (k+1) (by omega);rw[EK hk] at h1;dsimp only
   rw[ba (d6 (by rw[nl];omega)),dn,g,ao,pi (by omega) (by omega),fe (by omega) (by omega),<-EK hk];rfl
  simp only[bT,Option.bind,List.take_length]
 ·cases h
def Cp:Rg×T3×Int->Option (Int×Int):=fun x=>if KO x then some (((x.2.2.toNat*bc x.1:Nat):Int),(((x.2.2.toNat+1)*bc x.1:Nat):Int)) else none
def Ka:ak:=[(.agg,[.int .i64,.int .i64,.int .i64]),(.agg,[.list [.int .i64],.list [.int .i64],.list [.int .i64]]),(.one,[.int .i64]),(.one,[.list [.int .i64]])]
def Vf:ak:=[(.one,[.list [.int .i64]])]
def MA:aK:=[[],[none,none,some .aN]]
def Jm:ak:=[(.agg,[.int .i64,.int .i64,.int .i64]),(.agg,[.list [.int .i64],.list [.int .i64],.list [.int .i64]]),(.one,[.int .i64])]
def asG:ak:=[(.one,[.int .i64]),(.one,[.int .i64])]
def Mu:aK:=[[some .aJ,some .aJ],[],[none,none,some .aN]]
def Ps (NN:Nat):((Int×(Int×Int))×((J×(J×J))×(Int×J)))->(Option J):=
 (fun(((i0,i1,i2),(l3,l4,l5),i6,l7):((Int×(Int×Int))×((J×(J×J))×(Int×J))))=>
 (uu (i0,i1,i2)).ae (fun i8=>
 ar l5 (
 cq NN (fun(((i9,e7,j3,jb,nv),ff,eU,g0):((Int×(J×(Int×(Int×Int))))×(J×(J×J))))=>
 aw (bG nv jb)
 ((dm e7 nv).ae (fun y5=>
 (eY (cR .i64 (kC .i64 i9 j3) nv) (aa ff)).ae (fun SR=>
 (cK ff (aI 0 SR)).ae (fun tQ=>
 (bn 0 (aa ff) (aa (cg ff (aI 0 SR) y5))).ae (fun _=>
 some (Sum.inl ((i9,e7,j3,jb,cR .i64 nv 1),cg ff (aI 0 SR) y5,eU,g0)))))))
 (((kE (aa ff) (aa l5)).ae (fun _=>
 some ff)).ae (fun re=>
 some (Sum.inr re))))
 ((i6,l7,i8,aA (aa l7),(0:Int)),l5,l3,l4))))
def OK (NN:Nat):((Int×(Int×Int))×((J×(J×J))×Int))->(Option (Int×Int)):=
 (fun(((i0,i1,i2),(l3,l4,l5),i6):((Int×(Int×Int))×((J×(J×J))×Int)))=>
 (rL (i0,i1,i2)).ae (fun i7=>
 (jN (kC .i64 i6 i7) (kC .i64 (cR .i64 i6 1) i7) (aa l5)).ae (fun(k8,k9)=>
 (eY (0:Int) (aa l5)).ae (fun k10=>
 some (aA (aI 0 k8),aA (aI (aI 0 k8) k9))))))
theorem BC {a b:Nat} (h:a*b<=1099511627776):kC .i64 (a:Int) (b:Int)=((a*b:Nat):Int):=by
 have e:(a:Int)*(b:Int)=((a*b:Nat):Int):=(Int.natCast_mul a b).symm;rw[pi (by omega) (by omega),e]
theorem H6 {l:J} {o:Nat} {x:J} (h:o+x.length<=l.length):(mU l o x).length=l.length:=by
 unfold mU;simp only[List.length_append,List.length_take,List.length_drop];omega
theorem adH {l:J} {o:Nat} {x:J} (h:o+x.length<=l.length) (q:Nat):(mU l o x)[q]? =if q<o then l[q]? else if q<o+x.length then x[q - o]? else l[q]? :=by
 unfold mU;have h1:(l.take o).length=o:=by rw[List.length_take];omega
 have h2:(l.take o++x).length=o+x.length:=by rw[List.length_append,h1]
 by_cases a:q<o
 ·rw[if_pos a,List.getElem?_append_left (by omega),List.getElem?_append_left (by omega),List.getElem?_take,if_pos a]
 ·rw[if_neg a];by_cases b:q<o+x.length
  ·rw[if_pos b,List.getElem?_append_left (by omega),List.getElem?_append_right (by omega),h1]
  ·rw[if_neg b,List.getElem?_append_right (by omega),h2,List.getElem?_drop];congr 1;omega
theorem asg {l:J} {o i:Nat} {x:J} (h:o+x.length<=l.length) (hi:i<x.length):cg (mU l o (x.take i)) (o+i) (x.getD i 0)=mU l o (x.take (i+1)):=by
 have l1:(x.take i).length=i:=by rw[List.length_take];omega
 have l2:(x.take (i+1)).length=i+1:=by rw[List.length_take];omega
 have lp:=H6 (l:=l) (o:=o) (x:=x.take i) (by omega);apply List.ext_getElem?;intro q;unfold cg;rw[adH (by omega) q,l2];by_cases e:q=o+i
 ·subst e;rw[List.getElem?_set_self (by omega),if_neg (by omega),if_pos (by omega),Nat.add_sub_cancel_left,List.getElem?_take,if_pos (by omega)];exact(getD_some 0 hi).symm
 ·rw[List.getElem?_set_ne (fun h=>e h.symm),adH (by omega) q,l1];by_cases a:q<o
  ·rw[if_pos a,if_pos a]
  ·rw[if_neg a,if_neg a];by_cases b:q<o+i
   ·rw[if_pos b,if_pos (by omega),List.getElem?_take,List.getElem?_take,if_pos (by omega),if_pos (by omega)]
   ·rw[if_neg b,if_neg (by omega)]
theorem akz (x:Rg×T3×Int×J) (y:J) (h:z8 x=some y):Ps aP x=some y:=by
 obtain⟨⟨k,p,m⟩,⟨L,D,A⟩,n,x⟩:=x;simp only[z8] at h;split at h
 ·rename_i hc;rw[<-h];obtain⟨hr,h0,h1,h2⟩:=hc;dsimp only at hr h0 h1 h2;obtain⟨n,rfl⟩:=rp h0;have hw:=rK hr;simp only[Int.toNat_natCast] at h1⊢;have hnw:n*bc (k,p,m)<=1048576:=by omega
  have hn:n<=1048576:=by have:=Nat.le_mul_of_pos_right n (show 0<bc (k,p,m) by omega);omega
  simp only[Ps,uu,ao,bM,ar];rw[hw.1];rw[fF (fun i=>(((n:Int),x,((bc (k,p,m):Nat):Int),aA (aa x),(i:Int)),mU A (n*bc (k,p,m)) (x.take i),L,D)) (r:=mU A (n*bc (k,p,m)) x) x.length ?a1 ?a2 ?a3 (ew (by omega))]
  case a3=>rw[List.take_zero];simp[mU]
  case a2=>
   dsimp only
   rw[be (g9 x),List.take_length];have:aa (mU A (n*bc (k,p,m)) x)=aa A:=H6 h1;rw[this,show kE (aa A) (aa A)=some () from if_pos rfl]
   simp only[ao]
  case a1=>
   intro i hi;have l1:(x.take i).length=i:=by rw[List.length_take];omega
   have hl:aa (mU A (n*bc (k,p,m)) (x.take i))=A.length:=H6 (by omega);dsimp only
   rw[ba (d6 (by rw[nl];omega)),dn,getD_some 0 hi];simp only[ao];rw[BC (a:=n) (b:=bc (k,p,m)) (by omega)];rw[fe (by omega) (by omega),show((n*bc (k,p,m):Nat):Int)+(i:Int)=((n*bc (k,p,m)+i:Nat):Int) by push_cast;rfl];rw[hl,lU (by omega)];simp only[ao,gd];obtain⟨v,hv⟩:∃v,(mU A (n*bc (k,p,m)) (x.take i))[n*bc (k,p,m)+i]? =some v:=⟨_,List.getElem?_eq_getElem (show n*bc (k,p,m)+i<(mU A (n*bc (k,p,m)) (x.take i)).length by have:(mU A (n*bc (k,p,m)) (x.take i)).length=A.length:=hl;omega)⟩;rw[show cK (mU A (n*bc (k,p,m)) (x.take i)) (n*bc (k,p,m)+i)=some v from hv]
   simp only[ao];have l2:(x.take (i+1)).length=i+1:=by rw[List.length_take];omega
   rw[asg h1 hi,show bn 0 A.length (aa (mU A (n*bc (k,p,m)) (x.take (i+1))))=some () from uU (H6 (by omega)).symm]
   simp only[ao];rw[fe (by omega) (by omega)];rfl
 ·cases h
theorem WE {r:Rg} (h:gn r=true):(lR r).length=bc r:=by
 have:=aiD h;simp only[nO,Bool.and_eq_true,decide_eq_true_eq] at this;exact this.1
theorem atO {L D A:J} {c:iA} {r:Rg} (ht:kF r (L,D,A)=true) (hc:m7 ((L,D,A),c)=true) (n:Nat):NU (c,aU D n):=by
 obtain⟨_,⟨hl,hd⟩,_,_,_,hD,_,_,_⟩:=IJ ht;obtain⟨m,R⟩:=c;simp only[m7,Bool.and_eq_true,decide_eq_true_eq] at hc;obtain⟨_,hm,hR,hp⟩:=hc;have nW:(aU D n).length=D.length:=gA _ _;refine⟨hm,by dsimp only;omega,fun i hi=>?_⟩;dsimp only at hi⊢;rw[nW] at hi;obtain⟨d,d1,d2,d3,d4,d5⟩:=Gl hD hi;obtain⟨p1,p2⟩:=hp i (by omega);have yQ:(aU D n).getD i 0=((n/eW D (i+1)%d:Nat):Int):=by rw[Bh hi];unfold eN;rw[d3]
 have cu:=Nat.mod_lt (n/eW D (i+1)) (show 0<d by omega);rw[d2] at p1;have dw:n/eW D (i+1)%d<(R.getD i []).length:=by omega
 refine⟨by omega,by rw[yQ,Int.toNat_natCast];exact⟨by omega,dw⟩,?_⟩;unfold F6;rw[yQ,Int.toNat_natCast];have eH:=ad4.1 p2;have:=eH _ (List.mem_of_getElem? (getD_some 0 dw));exact⟨this.1,by have:=this.2;omega⟩
theorem V8 {L D A:J} {c:iA} {r:Rg} (ht:kF r (L,D,A)=true) (hc:m7 ((L,D,A),c)=true) (n:Nat):WM (c,aU D n)=some (sm D.length (F6 c.2 (aU D n))%c.1):=by
 have h:=atO ht hc n;have nW:(aU D n).length=D.length:=gA _ _;rw[show WM (c,aU D n)=_ from if_pos h]
 dsimp only
 rw[nW]
theorem ajN (x:Rg×T3×Int) (y:Int×Int) (h:Cp x=some y):OK aP x=some y:=by
 obtain⟨⟨k,p,m⟩,⟨L,D,A⟩,n⟩:=x;simp only[Cp] at h;split at h
 ·rename_i hc;rw[<-h];obtain⟨hr,h0,h1,h2⟩:=hc;dsimp only at hr h0 h1 h2;obtain⟨n,rfl⟩:=rp h0;have hw:=rK hr;simp only[Int.toNat_natCast] at h1⊢;have lG:(n+1)*bc (k,p,m)=n*bc (k,p,m)+bc (k,p,m):=by rw[Nat.add_mul,Nat.one_mul]
  have hn:n+1<=1048576:=by have:=Nat.le_mul_of_pos_right (n+1) (show 0<bc (k,p,m) by omega);omega
  simp only[OK,rL,ao];rw[hw.1,fe (by omega) (by omega),show(n:Int)+1=((n+1:Nat):Int) by push_cast;rfl];rw[BC (a:=n) (b:=bc (k,p,m)) (by omega)];rw[BC (a:=n+1) (b:=bc (k,p,m)) (by omega)];rw[show jN ((n*bc (k,p,m):Nat):Int) (((n+1)*bc (k,p,m):Nat):Int) (aa A)=some (n*bc (k,p,m),bc (k,p,m)) by
   unfold jN aa;rw[if_pos ⟨by omega,by omega,by omega⟩];congr 2;omega]
  simp only[ao];rw[show eY (0:Int) (aa A)=some 0 by unfold eY aa;rw[if_pos ⟨by omega,by omega⟩];rfl];simp only[ao,aA,aI,Nat.zero_add];rw[lG]
 ·cases h
theorem yH {α:Type}:bn 0 0 (aa ([]:List α))=some ():=rfl
theorem tE {α:Type} (l:List α) (x:α):bn 0 (aI (aa l) (aa [x])) (aa (dQ l [x]))=some ():=by
 rw[show aa (dQ l [x])=aI (aa l) (aa [x]) by simp[aI,aa,dQ]];exact bM _
def aa7 (x:Int×lS×lS):Prop:=pj x.1/\BA x.2.1/\BA x.2.2/\(x.2.1.1*x.2.2.1<=4096/\x.2.1.2.1*x.2.2.2.1<=4096)/\(x.2.1.1*x.2.2.1)*(x.2.1.2.1*x.2.2.2.1)<=1048576/\qA x.1 x.2.1.2.2/\qA x.1 x.2.2.2.2
instance (x:Int×lS×lS):Decidable (aa7 x):=by unfold aa7;infer_instance
section
variable {p:Int} {r c s d:Nat} {A B:eA}
end
section
variable {p:Int} {n m:Nat} {a b a2 b2:J} {ms Tn:List lS}
end

abbrev Wd:=J
structure BI (p:Int) (n t:Nat) (S:List Wd×J) (q:List Wd):Prop where
 dl:S.2.length=S.1.length*n
 dp:qA p S.2
 kn:S.1.length<=n
 qo:∀w∈q,Oc t w/\w.length<=S.1.length
 wo:∀w∈S.1,Oc t w/\w.length<=n
section
variable {p:Int} {n:Nat} {s b:J} {ms:List lS}
theorem BI.no {S:List Wd×J} {w:Wd} {q:List Wd} (h:BI p n ms.length S (w::q)):BI p n ms.length S q:=⟨h.dl,h.dp,h.kn,fun v hv=>h.qo v (by simp[hv]),h.wo⟩
end
theorem agJ {α:Type} {l:List α} {n:Nat} (h:n=l.length):dN l n=some l:=by subst h;unfold dN;rw[if_pos (Nat.le_refl _),List.take_length]
section
variable {p:Int} {n:Nat} {s b:J} {ms:List lS}
end
section
variable {p:Int} {n:Nat} {s b:J} {ms:List lS}
end
def afY (x:Int×lS×lS):Prop:=pj x.1/\(0<=x.2.1.1/\x.2.1.1<=x.2.1.2.1/\x.2.1.2.1<=12)/\(0<=x.2.2.1/\x.2.2.1<=12)/\x.2.2.2.1=x.2.1.2.1/\(x.2.1.2.2.length=x.2.1.1.toNat*x.2.1.2.1.toNat/\x.2.2.2.2.length=x.2.2.1.toNat*x.2.1.2.1.toNat)/\qA x.1 x.2.1.2.2/\qA x.1 x.2.2.2.2
instance (x:Int×lS×lS):Decidable (afY x):=by unfold afY;infer_instance


def PP (p:Int) (M:eA) (i j:Nat):Prop:=(M i j+M j i)%p=0/\(i=j->M i j=0)
instance (p:Int) (M:eA) (i j:Nat):Decidable (PP p M i j):=by unfold PP;infer_instance
def Xa (p:Int) (M:eA) (i:Nat):Prop:=∀j,j<i+1->PP p M i j
instance (p:Int) (M:eA) (i:Nat):Decidable (Xa p M i):=by unfold Xa;infer_instance
def nb (p a b:Int):Prop:=∃q,a=b+p*q
theorem nb.refl (p a:Int):nb p a a:=⟨0,by simp⟩
theorem nb.trans {p a b c:Int} (h:nb p a b) (h':nb p b c):nb p a c:=by
 obtain⟨q,rfl⟩:=h;obtain⟨q',rfl⟩:=h';exact⟨q'+q,by rw[Int.mul_add];omega⟩
theorem nb.symm {p a b:Int} (h:nb p a b):nb p b a:=by
 obtain⟨q,rfl⟩:=h;exact⟨-q,by rw[Int.mul_neg];omega⟩
theorem nb.add {p a b c d:Int} (h:nb p a b) (h':nb p c d):nb p (a+c) (b+d):=by
 obtain⟨q,rfl⟩:=h;obtain⟨q',rfl⟩:=h';exact⟨q+q',by grind⟩
theorem nb.mul {p a b c d:Int} (h:nb p a b) (h':nb p c d):nb p (a*c) (b*d):=by
 obtain⟨q,rfl⟩:=h;obtain⟨q',rfl⟩:=h';exact⟨q*d+b*q'+p*q*q',by grind⟩
section
variable {p inv:Int} {n k:Nat} {A:eA}
end
section
variable {p:Int} {n:Nat} {M:eA}
end
section
variable {p:Int} {n:Nat} {M:eA}
end

section
variable {p:Int} {n m:Nat} {a b a2 b2:J} {ms Tn:List lS}
end
def afR:Nat->J->J
 |0,l=>l
 |k+1,l=>if l.getD (k+1) 0<l.getD k 0 then afR k (cg (cg l (k+1) (l.getD k 0)) k (l.getD (k+1) 0)) else l
def af0 (l:J):Nat->J
 |0=>l
 |i+1=>afR i (af0 l i)
def sN (f:Nat->Nat):Nat->Nat
 |0=>0
 |q+1=>sN f q+f q
def zy (L D S:J):J:=eD S.length fun i=>D.getD (gz L (S.getD i 0)) 0
def gP (L D S:J) (n:Nat) (v:Int):Nat:=(eN (zy L D S) n (gz S v)).toNat*eW D (gz L v+1)
def Tu (L D S:J) (n:Nat):Nat:=sN (fun i=>gP L D S n (S.getD i 0)) S.length
def ads (x:Rg×T3×J):Prop:=kF x.1 x.2.1=true/\x.2.2=af0 x.2.1.1 x.2.1.1.length
instance (x:Rg×T3×J):Decidable (ads x):=by unfold ads;infer_instance
def vQ (l:J) (b:Int):Prop:=l.length<=12/\∀x∈l,0<=x/\x<=b
instance (l:J) (b:Int):Decidable (vQ l b):=by unfold vQ;infer_instance
def yf:J×J->Option Int:=fun x=>if vQ x.1 8/\vQ x.2 8/\x.1.length=x.2.length then some ((hJ x.1 x.2 x.1.length:Nat):Int) else none
def Nw (l:J) (b:Int):Prop:=l.length<=24/\∀x∈l,0<=x/\x<=b
instance (l:J) (b:Int):Decidable (Nw l b):=by unfold Nw;infer_instance
theorem vQ.m {l:J} {b:Int} (h:vQ l b):Nw l b:=⟨Nat.le_trans h.1 (by decide),h.2⟩
def v5:Rg×T3×Int->Option J:=fun x=>if KO x then some (iM x.2.1.2.2 (x.2.2.toNat*bc x.1) (bc x.1)) else none
def Cq:Rg×T3×Int->Option J:=v5
def J8:ak:=[(.one,[.list [.int .i64]]),(.one,[.list [.int .i64]])]
def Vd:ak:=[(.one,[.int .i64])]
def apa:aK:=[]
def J5:ak:=[(.agg,[.int .i64,.int .i64,.int .i64]),(.agg,[.list [.int .i64],.list [.int .i64],.list [.int .i64]]),(.one,[.int .i64])]
def Va:ak:=[(.one,[.list [.int .i64]])]
def ao7:aK:=[]
def Jn:ak:=[(.agg,[.int .i64,.int .i64,.int .i64]),(.agg,[.list [.int .i64],.list [.int .i64],.list [.int .i64]]),(.one,[.int .i64])]
def Up:ak:=[(.one,[.list [.int .i64]])]
def aot:aK:=[[some .aJ]]
def Pq (NN:Nat):(J×J)->(Option Int):=
 (fun((l0,l1):(J×J))=>
 bT (cq NN (fun((l2,i3,l4,i5,i6):(J×(Int×(J×(Int×Int)))))=>
 aw (bG i6 i5)
 ((dm l4 i6).ae (fun i7=>
 (dm l2 i6).ae (fun i8=>
 some (Sum.inl (l2,cR .i64 (kC .i64 i3 i7) i8,l4,i5,cR .i64 i6 1)))))
 (some (Sum.inr (Sum.inl i3))))
 (l1,(0:Int),l0,aA (aa l0),(0:Int)))
 (fun i9=>
 some i9))
def Pn (NN:Nat):((Int×(Int×Int))×((J×(J×J))×Int))->(Option J):=
 (fun(((i0,i1,i2),(l3,l4,l5),i6):((Int×(Int×Int))×((J×(J×J))×Int)))=>
 (uu (i0,i1,i2)).ae (fun i7=>
 (jN (kC .i64 i6 i7) (cR .i64 (kC .i64 i6 i7) i7) (aa l5)).ae (fun(k8,k9)=>
 (bn 0 0 (aa (([]:J)))).ae (fun _=>
 (ku (aI (aa (([]:J))) (aa (iM l5 k8 k9))) 8).ae (fun _=>
 (dN (dQ (([]:J)) (iM l5 k8 k9)) (aI (aa (([]:J))) (aa (iM l5 k8 k9)))).ae (fun e7=>
 some e7))))))
def OL (NN:Nat):((Int×(Int×Int))×((J×(J×J))×Int))->(Option J):=
 (fun(((i0,i1,i2),(l3,l4,l5),i6):((Int×(Int×Int))×((J×(J×J))×Int)))=>
 (rL (i0,i1,i2)).ae (fun i7=>
 (jN (kC .i64 i6 i7) (kC .i64 (cR .i64 i6 1) i7) (aa l5)).ae (fun(k8,k9)=>
 some (iM l5 k8 k9))))
theorem aed {f g:Nat->Nat}:∀q,(∀i,i<q->f i=g i)->sN f q=sN g q
 |0,_=>rfl
 |q+1,h=>by simp only[sN];rw[aed q fun i hi=>h i (by omega),h q (by omega)]
theorem aef (g:Int->Nat) (l:J):∀q,q<=l.length->sN (fun i=>g (l.getD i 0)) q=((l.take q).map g).sum
 |0,_=>by simp[sN]
 |q+1,h=>by
  simp only[sN];rw[aef g l q (by omega),List.take_succ_eq_append_getElem (by omega),List.map_append,List.sum_append_nat,List.getD_eq_getElem?_getD,List.getElem?_eq_getElem (by omega)];simp
theorem aee (g:Int->Nat) (l:J):sN (fun i=>g (l.getD i 0)) l.length=(l.map g).sum:=by
 rw[aef g l _ (Nat.le_refl _),List.take_length]
theorem asW {S L:J} (h:S.Perm L) (g:Int->Nat):sN (fun i=>g (S.getD i 0)) S.length=sN (fun i=>g (L.getD i 0)) L.length:=by
 rw[aee,aee];exact(h.map g).sum_nat
theorem MS {l:J} {v:Int} (h:v∈l):gz l v<l.length:=by
 refine Nat.lt_of_le_of_ne (MR l v) fun e=>?_;obtain⟨i,hi⟩:=List.getElem?_of_mem h;have hl:=(List.getElem?_eq_some_iff.1 hi).1;exact MQ (by omega) hi
theorem adv {l:J} {v:Int} (h:v∈l):l.getD (gz l v) 0=v:=by
 rw[List.getD_eq_getElem?_getD,H4 (MS h)];rfl
theorem tG {l:J} {i:Nat} (h:i<l.length):l.getD i 0∈l:=by
 rw[List.getD_eq_getElem?_getD,List.getElem?_eq_getElem h];exact List.getElem_mem h
theorem TK {l:J} (hn:l.Nodup) {i:Nat} (h:i<l.length):gz l (l.getD i 0)=i:=by
 have hm:=tG h;have h1:=MS hm;have h2:=H4 h1;rw[List.getElem?_eq_getElem h1] at h2;have e:l[gz l (l.getD i 0)]=l[i]:=by
  injection h2 with h2;rw[h2,List.getD_eq_getElem?_getD,List.getElem?_eq_getElem h];rfl
 exact(List.getElem_inj hn).1 e
structure tm (L D S:J):Prop where
 p:S.Perm L
 nL:L.Nodup
 nS:S.Nodup
 len:L.length=D.length
 eR:L.length<=12
 rV:∀x∈D,1<=x/\x<=8
section
variable {L D S:J} (I:tm L D S)
include I
theorem tm.inv {q k:Nat} (hq:q<S.length) (hk:k<L.length):gz L (S.getD q 0)=k↔gz S (L.getD k 0)=q:=by
 have m1:S.getD q 0∈L:=I.p.mem_iff.1 (tG hq);have m2:L.getD k 0∈S:=I.p.mem_iff.2 (tG hk);constructor
 ·intro e;have:=adv m1;rw[e] at this;rw[this,TK I.nS hq]
 ·intro e;have:=adv m2;rw[e] at this;rw[this,TK I.nL hk]
theorem tm.ahA {q:Nat} (hq:q<S.length):gz L (S.getD q 0)<L.length:=MS (I.p.mem_iff.1 (tG hq))
theorem tm.amh {k:Nat} (hk:k<L.length):gz S (L.getD k 0)<S.length:=MS (I.p.mem_iff.2 (tG hk))
theorem tm.mI:mI D:=⟨by have:=I.len;have:=I.eR;omega,fun x hx=>by have:=I.rV x hx;omega⟩
omit I in
omit I in
def BH (L D S:J) (n:Nat):J:=eD D.length fun k=>eN (zy L D S) n (gz S (L.getD k 0))
theorem tm.pd {i:Nat} (hi:i<S.length):(zy L D S).getD i 0=D.getD (gz L (S.getD i 0)) 0:=by
 unfold zy;rw[List.getD_eq_getElem?_getD,xJ _ hi];rfl
theorem tm.aip (n:Nat) {i:Nat} (hi:i<S.length):0<=eN (zy L D S) n i/\eN (zy L D S) n i<D.getD (gz L (S.getD i 0)) 0:=by
 have hd:=I.rV _ (tG (l:=D) (i:=gz L (S.getD i 0)) (by have:=I.ahA hi;have:=I.len;omega));unfold eN;rw[I.pd hi];have:=Nat.mod_lt (n/eW (zy L D S) (i+1)) (show 0<(D.getD (gz L (S.getD i 0)) 0).toNat by omega);omega
omit I in
theorem Ts {D ix:J} (h:∀k,k<D.length->(ix.getD k 0).toNat<(D.getD k 0).toNat):∀j,j<=D.length->(hJ D ix j+1)*eW D j<=bW D
 |0,_=>by simp[hJ,eW]
 |j+1,hj=>by
  have ih:=Ts h j (by omega);have hk:=h j (by omega);rw[Fm (by omega),<-Nat.mul_assoc] at ih;refine Nat.le_trans (Nat.mul_le_mul_right _ ?_) ih;simp only[hJ];rw[Nat.add_mul,Nat.one_mul];omega
omit I in
theorem ac7 {D ix:J}:∀j,j<=D.length->hJ D ix j*eW D j=sN (fun k=>(ix.getD k 0).toNat*eW D (k+1)) j
 |0,_=>by simp[hJ,sN]
 |j+1,hj=>by
  simp only[hJ,sN];rw[<-ac7 j (by omega),Fm (i:=j) (by omega),Nat.add_mul,Nat.mul_assoc]
theorem tm.ac8 (n:Nat) {k:Nat} (hk:k<D.length):(BH L D S n).getD k 0=eN (zy L D S) n (gz S (L.getD k 0)):=by
 unfold BH;rw[List.getD_eq_getElem?_getD,xJ _ hk];rfl
theorem tm.aqO (n:Nat) {k:Nat} (hk:k<D.length):0<=(BH L D S n).getD k 0/\(BH L D S n).getD k 0<D.getD k 0:=by
 rw[I.ac8 n hk];have bL:k<L.length:=by have:=I.len;omega
 have h1:=I.amh bL;have h2:=I.aip n h1;rw[(I.inv h1 bL).2 rfl] at h2;exact h2
theorem tm.off (n:Nat):hJ D (BH L D S n) D.length=Tu L D S n:=by
 have h1:=ac7 (D:=D) (ix:=BH L D S n) D.length (Nat.le_refl _);rw[Fl,Nat.mul_one] at h1;rw[h1];unfold Tu;rw[asW I.p (gP L D S n),I.len];refine aed _ fun k hk=>?_;rw[I.ac8 n hk];unfold gP;rw[TK I.nL (by have:=I.len;omega)]
theorem tm.MI (n:Nat):Tu L D S n<bW D:=by
 have:=Ts (D:=D) (ix:=BH L D S n) (fun k hk=>by have:=I.aqO n hk;omega) D.length (Nat.le_refl _);rw[Fl,Nat.mul_one,I.off n] at this;omega
end
theorem E6 {l:J} {b:Int} (h:Nw l b) {i:Nat} (hi:i<l.length):∃a:Nat,l[i]? =some (a:Int)/\(l.getD i 0).toNat=a/\(a:Int)<=b:=by
 have:=h.2 _ (List.getElem_mem hi);refine⟨l[i].toNat,?_,?_,by omega⟩
 ·rw[List.getElem?_eq_getElem hi];congr 1;omega
 ·rw[List.getD_eq_getElem?_getD,List.getElem?_eq_getElem hi];rfl
theorem Tr {D ix:J} (h1:vQ D 8) (h2:vQ ix 8) (he:D.length=ix.length):∀j,j<=D.length->hJ D ix j<=17^j
 |0,_=>by simp[hJ]
 |j+1,hj=>by
  have ih:=Tr h1 h2 he j (by omega);obtain⟨a,_,a2,a3⟩:=E6 h1.m (i:=j) (by omega);obtain⟨b,_,b2,b3⟩:=E6 h2.m (i:=j) (by omega);have hp:17^0<=17^j:=Nat.pow_le_pow_right (by omega) (Nat.zero_le j);rw[Nat.pow_zero] at hp;simp only[hJ];rw[a2,b2,Nat.pow_succ];have:=Nat.mul_le_mul ih (show a<=8 by omega);omega
theorem akx (x:J×J) (y:Int) (h:yf x=some y):Pq aP x=some y:=by
 obtain⟨D,ix⟩:=x;simp only[yf] at h;split at h
 ·rename_i hc;rw[<-h];obtain⟨h1,h2,he⟩:=hc;simp only[Pq];have hb:∀j,j<=D.length->hJ D ix j<=582622237229761:=fun j hj=>Nat.le_trans (Tr h1 h2 he j hj) (Nat.le_trans (Nat.pow_le_pow_right (by omega) (show j<=12 by have:=h1.1;omega)) (by decide));rw[fF (fun j=>(ix,((hJ D ix j:Nat):Int),D,(D.length:Int),(j:Int))) D.length ?a1 ?a2 ?a3 (ew (by have:=h1.1;omega))]
  case a3=>rfl
  case a2=>
   dsimp only
   rw[be (eO (by omega))]
  case a1=>
   intro j hj;obtain⟨a,a1,a2,a3⟩:=E6 h1.m (i:=j) (by omega);obtain⟨b,b1,b2,b3⟩:=E6 h2.m (i:=j) (by omega);have GM:=hb j (by omega);have hl:=h1.1;have e:hJ D ix (j+1)=hJ D ix j*a+b:=by simp only[hJ];rw[a2,b2]
   have hm:=Nat.mul_le_mul GM (show a<=8 by omega);dsimp only
   rw[ba (d6 (by omega)),dn,dn,a1,b1];simp only[ao];rw[pi (by rw[<-Int.natCast_mul];omega) (by rw[<-Int.natCast_mul];omega),<-Int.natCast_mul,fe (by omega) (by omega),fe (by omega) (by omega),e];rfl
  simp only[bT,Option.bind]
 ·cases h
theorem ajO (x:Rg×T3×Int) (y:J) (h:Cq x=some y):OL aP x=some y:=by
 obtain⟨⟨k,p,m⟩,⟨L,D,A⟩,n⟩:=x;simp only[Cq,v5] at h;split at h
 ·rename_i hc;rw[<-h];obtain⟨hr,h0,h1,h2⟩:=hc;dsimp only at hr h0 h1 h2;obtain⟨n,rfl⟩:=rp h0;have hw:=rK hr;simp only[Int.toNat_natCast] at h1⊢;have lG:(n+1)*bc (k,p,m)=n*bc (k,p,m)+bc (k,p,m):=by rw[Nat.add_mul,Nat.one_mul]
  have hn:n+1<=1048576:=by have:=Nat.le_mul_of_pos_right (n+1) (show 0<bc (k,p,m) by omega);omega
  simp only[OL,rL,ao];rw[hw.1,fe (by omega) (by omega),show(n:Int)+1=((n+1:Nat):Int) by push_cast;rfl];rw[BC (a:=n) (b:=bc (k,p,m)) (by omega)];rw[BC (a:=n+1) (b:=bc (k,p,m)) (by omega)];rw[show jN ((n*bc (k,p,m):Nat):Int) (((n+1)*bc (k,p,m):Nat):Int) (aa A)=some (n*bc (k,p,m),bc (k,p,m)) by
   unfold jN aa;rw[if_pos ⟨by omega,by omega,by omega⟩];congr 2;omega]
  simp only[ao]
 ·cases h
theorem aku (x:Rg×T3×Int) (y:J) (h:v5 x=some y):Pn aP x=some y:=by
 obtain⟨⟨k,p,m⟩,⟨L,D,A⟩,n⟩:=x;simp only[v5] at h;split at h
 ·rename_i hc;rw[<-h];obtain⟨hr,h0,h1,h2⟩:=hc;dsimp only at hr h0 h1 h2;obtain⟨n,rfl⟩:=rp h0;have hw:=rK hr;simp only[Int.toNat_natCast] at h1⊢;have lG:(n+1)*bc (k,p,m)=n*bc (k,p,m)+bc (k,p,m):=by rw[Nat.add_mul,Nat.one_mul]
  have hn:n+1<=1048576:=by have:=Nat.le_mul_of_pos_right (n+1) (show 0<bc (k,p,m) by omega);omega
  simp only[Pn,uu,ao];rw[hw.1,BC (a:=n) (b:=bc (k,p,m)) (by omega),fe (by omega) (by omega),show((n*bc (k,p,m):Nat):Int)+((bc (k,p,m):Nat):Int)=(((n+1)*bc (k,p,m):Nat):Int) by rw[lG];push_cast;rfl];rw[show jN ((n*bc (k,p,m):Nat):Int) (((n+1)*bc (k,p,m):Nat):Int) (aa A)=some (n*bc (k,p,m),bc (k,p,m)) by
   unfold jN aa;rw[if_pos ⟨by omega,by omega,by omega⟩];congr 2;omega]
  simp only[ao];rw[show bn 0 0 (aa ([]:J))=some () from rfl]
  simp only[ao];have hlen:(iM A (n*bc (k,p,m)) (bc (k,p,m))).length<=bc (k,p,m):=by unfold iM;rw[List.length_take];omega
  rw[lA (by simp only[aI,aa,List.length_nil,dX];omega)];simp only[ao];rw[agJ (by simp[aI,aa,dQ])];rfl
 ·cases h
abbrev Bk:=J×J×J×J
def lO (of:J) (x:Int):Nat->J
 |0=>[]
 |n+1=>if of.getD n 0=x then lO of x n++[(n:Int)] else lO of x n
def vals (of:J) (x:Int):J:=lO of x of.length
def tf:J×Int->Option J:=fun x=>if x.1.length<=1048576 then some (vals x.1 x.2) else none
def yg:J×Int->Option J:=tf
def Kk (V:List J) (ix:J):J:=eD ix.length fun i=>(V.getD i []).getD (ix.getD i 0).toNat 0
def FX (V:List J) (ix:J):Prop:=ix.length<=12/\∀i,i<ix.length->i<V.length/\0<=ix.getD i 0/\(ix.getD i 0).toNat<(V.getD i []).length
instance (V:List J) (ix:J):Decidable (FX V ix):=by unfold FX;infer_instance
def CJ:List J×J->Option J:=fun x=>if FX x.1 x.2 then some (Kk x.1 x.2) else none
def iz (R:List J) (ch:J):List J:=(List.range ch.length).map fun i=>vals (R.getD i []) (ch.getD i 0)
def bI (R:List J) (ch:J):J:=eD ch.length fun i=>((vals (R.getD i []) (ch.getD i 0)).length:Int)
def CL:iA×J->Option (List J×J):=fun x=>if x.2.length<=12/\x.2.length<=x.1.2.length/\∀of∈x.1.2,of.length<=8 then some (iz x.1.2 x.2,bI x.1.2 x.2) else none
def Cm:J×J->Option Int:=yf
def pE (R:List J) (ch:J) (n:Nat):J:=Kk (iz R ch) (aU (bI R ch) n)
def fy (D:J) (R:List J) (ch:J) (n:Nat):Nat:=hJ D (pE R ch n) D.length
def mE (R:List J) (ch:J):Prop:=ch.length=R.length/\∀i,i<R.length->ch.getD i 0∈R.getD i []
instance (R:List J) (ch:J):Decidable (mE R ch):=by unfold mE;infer_instance
def P2 (x:T3×iA×Bk):Prop:=m7 (x.1,x.2.1)=true/\mE x.2.1.2 x.2.2.1/\x.2.2.2.2.1=bI x.2.1.2 x.2.2.1
instance (x:T3×iA×Bk):Decidable (P2 x):=by unfold P2;infer_instance
def Cj:T3×iA×Bk->Option J:=fun x=>if P2 x then some (eD (bW (bI x.2.1.2 x.2.2.1)) fun n=>(fy x.1.2.1 x.2.1.2 x.2.2.1 n:Int)) else none
def Js:ak:=[(.one,[.list [.int .i64]]),(.one,[.int .i64])]
def Uv:ak:=[(.one,[.list [.int .i64]])]
def aoy:aK:=[]
def Kh:ak:=[(.one,[.list [.int .i64]]),(.one,[.int .i64])]
def Vl:ak:=[(.one,[.list [.int .i64]])]
def aph:aK:=[]
def Jk:ak:=[(.one,[.list [.int .i64]]),(.one,[.list [.int .i64]])]
def Un:ak:=[(.one,[.int .i64])]
def aor:aK:=[]
def Ke:ak:=[(.one,[.list [.list [.int .i64]]]),(.one,[.list [.int .i64]])]
def Vi:ak:=[(.one,[.list [.int .i64]])]
def ape:aK:=[]
def Kg:ak:=[(.agg,[.int .i64,.list [.list [.int .i64]]]),(.one,[.list [.int .i64]])]
def Vk:ak:=[(.one,[.list [.list [.int .i64]]]),(.one,[.list [.int .i64]])]
def apg:aK:=[]
def Jc:ak:=[(.agg,[.list [.int .i64],.list [.int .i64],.list [.int .i64]]),(.agg,[.int .i64,.list [.list [.int .i64]]]),(.agg,[.list [.int .i64],.list [.int .i64],.list [.int .i64],.list [.int .i64]])]
def Uf:ak:=[(.one,[.list [.int .i64]])]
def aok:aK:=[]
def OP (NN:Nat):(J×Int)->(Option J):=
 (fun((l0,i1):(J×Int))=>
 bT ((bn 0 0 (aa (([]:J)))).ae (fun _=>
 cq NN (fun(((i2,l3,i4,i5),l6):((Int×(J×(Int×Int)))×J))=>
 aw (bG i5 i4)
 ((dm l3 i5).ae (fun i7=>
 aw (dJ i7 i2)
 (ar l6 (
 (cr ((i5::([]:J))) 0 1).ae (fun l8=>
 (ku (aI (aa l6) (aa l8)) 8).ae (fun _=>
 (bn 0 (aI (aa l6) (aa l8)) (aa (dQ l6 l8))).ae (fun _=>
 some (Sum.inl ((i2,l3,i4,cR .i64 i5 1),dQ l6 l8)))))))
 (ar l6 (
 some (Sum.inl ((i2,l3,i4,cR .i64 i5 1),l6))))))
 ((ar l6 (
 some (Sum.inl l6))).ae (fun l9=>
 some (Sum.inr l9))))
 ((i1,l0,aA (aa l0),(0:Int)),([]:J))))
 (fun e7=>
 (dN e7 (aa e7)).ae (fun fQ=>
 some fQ)))
def Py (NN:Nat):(J×Int)->(Option J):=
 (fun((l0,i1):(J×Int))=>
 bT ((bn 0 0 (aa (([]:J)))).ae (fun _=>
 cq NN (fun(((i2,l3,i4,i5),l6):((Int×(J×(Int×Int)))×J))=>
 aw (bG i5 i4)
 ((dm l3 i5).ae (fun i7=>
 aw (dJ i7 i2)
 (ar l6 (
 (cr ((i5::([]:J))) 0 1).ae (fun l8=>
 (ku (aI (aa l6) (aa l8)) 8).ae (fun _=>
 (bn 0 (aI (aa l6) (aa l8)) (aa (dQ l6 l8))).ae (fun _=>
 some (Sum.inl ((i2,l3,i4,cR .i64 i5 1),dQ l6 l8)))))))
 (ar l6 (
 some (Sum.inl ((i2,l3,i4,cR .i64 i5 1),l6))))))
 ((ar l6 (
 some (Sum.inl l6))).ae (fun l9=>
 some (Sum.inr l9))))
 ((i1,l0,aA (aa l0),(0:Int)),([]:J))))
 (fun e7=>
 (dN e7 (aa e7)).ae (fun fQ=>
 some fQ)))
def OI (NN:Nat):(J×J)->(Option Int):=
 (fun((l0,l1):(J×J))=>
 bT (cq NN (fun((l2,i3,l4,i5,i6):(J×(Int×(J×(Int×Int)))))=>
 aw (bG i6 i5)
 ((dm l4 i6).ae (fun i7=>
 (dm l2 i6).ae (fun i8=>
 some (Sum.inl (l2,cR .i64 (kC .i64 i3 i8) i7,l4,i5,cR .i64 i6 1)))))
 (some (Sum.inr (Sum.inl i3))))
 (l0,(0:Int),l1,aA (aa l1),(0:Int)))
 (fun i9=>
 some i9))
def Pv (NN:Nat):((List J)×J)->(Option J):=
 (fun((l0,l1):((List J)×J))=>
 bT ((bn 0 0 (aa (([]:J)))).ae (fun _=>
 cq NN (fun(((l2,l3,i4,i5),l6):(((List J)×(J×(Int×Int)))×J))=>
 aw (bG i5 i4)
 ((dm l3 i5).ae (fun i7=>
 (dm l2 i5).ae (fun l8=>
 (dm l8 i7).ae (fun i9=>
 ar l6 (
 (cr ((i9::([]:J))) 0 1).ae (fun e7=>
 (ku (aI (aa l6) (aa e7)) 8).ae (fun _=>
 (bn 0 (aI (aa l6) (aa e7)) (aa (dQ l6 e7))).ae (fun _=>
 some (Sum.inl ((l2,l3,i4,cR .i64 i5 1),dQ l6 e7))))))))))
 ((ar l6 (
 some (Sum.inl l6))).ae (fun fQ=>
 some (Sum.inr fQ))))
 ((l0,l1,aA (aa l1),(0:Int)),([]:J))))
 (fun eR=>
 (dN eR (aa eR)).ae (fun gm=>
 some gm)))
def Px (NN:Nat):((Int×(List J))×J)->(Option ((List J)×J)):=
 (fun(((i0,l1),l2):((Int×(List J))×J))=>
 bT ((bn 0 0 (aa (([]:List J)))).ae (fun _=>
 (bn 0 0 (aa (([]:J)))).ae (fun _=>
 cq NN (fun(((l3,i4,i5),(i6,l7),l8,l9):((J×(Int×Int))×((Int×(List J))×((List J)×J))))=>
 aw (bG i5 i4)
 ((dm l3 i5).ae (fun kQ=>
 (dm l7 i5).ae (fun fQ=>
 (yg (fQ,kQ)).ae (fun eR=>
 (kE (aa eR) (aa eR)).ae (fun _=>
 (dN eR (aa eR)).ae (fun gm=>
 ar l8 (
 (bn 0 1 (aa ((gm::([]:List J))))).ae (fun _=>
 (ku (aI (aa l8) (aa ((gm::([]:List J))))) 24).ae (fun _=>
 ar l9 (
 (cr ((aA (aa gm)::([]:J))) 0 1).ae (fun ff=>
 (ku (aI (aa l9) (aa ff)) 8).ae (fun _=>
 (bn 0 (aI (aa l8) (aa ((gm::([]:List J))))) (aa (dQ l8 ((gm::([]:List J)))))).ae (fun _=>
 (bn 0 (aI (aa l9) (aa ff)) (aa (dQ l9 ff))).ae (fun _=>
 some (Sum.inl ((l3,i4,cR .i64 i5 1),(i6,l7),dQ l8 ((gm::([]:List J))),dQ l9 ff))))))))))))))))
 ((ar l8 (
 ar l9 (
 some (Sum.inl (l8,l9))))).ae (fun eU=>
 some (Sum.inr eU))))
 ((l2,aA (aa l2),(0:Int)),(i0,l1),([]:List J),([]:J)))))
 (fun(g0,fj)=>
 (dN g0 (aa g0)).ae (fun fR=>
 (dN fj (aa fj)).ae (fun fS=>
 some (fR,fS)))))
def Oz (NN:Nat):((J×(J×J))×((Int×(List J))×(J×(J×(J×J)))))->(Option J):=
 (fun(((l0,l1,l2),(i3,l4),l5,l6,l7,l8):((J×(J×J))×((Int×(List J))×(J×(J×(J×J))))))=>
 (lc (aA (aa l5)) (aA (aa l5)) 24).ae (fun k9=>
 bT ((bn 0 k9 (aa (dG k9 (([]:J))))).ae (fun _=>
 cq NN (fun(((e7,j3,jb),(gm,ff,eU),(vk,fj),(fR,fS,re,od),jp):((J×(Int×Int))×((J×(J×J))×((Int×(List J))×((J×(J×(J×J)))×(List J))))))=>
 aw (bG jb j3)
 ((dm e7 jb).ae (fun Bg=>
 (dm fj jb).ae (fun kS=>
 (tf (kS,Bg)).ae (fun ky=>
 (eY jb (aa jp)).ae (fun SS=>
 (cK jp (aI 0 SS)).ae (fun lJ=>
 (dN ky (aa ky)).ae (fun ir=>
 (bn 0 (aa jp) (aa (cg jp (aI 0 SS) ir))).ae (fun _=>
 some (Sum.inl ((e7,j3,cR .i64 jb 1),(gm,ff,eU),(vk,fj),(fR,fS,re,od),cg jp (aI 0 SS) ir))))))))))
 ((ar jp (
 some (Sum.inl ((gm,ff,eU),(fR,fS,re,od),jp)))).ae (fun iI=>
 some (Sum.inr iI))))
 ((l5,aA (aa l5),(0:Int)),(l0,l1,l2),(i3,l4),(l5,l6,l7,l8),dG k9 (([]:J)))))
 (fun((gx,gR,ig),(iu,iv,kT,oe),oh)=>
 (lc (aA (aa iu)) (aA (aa iu)) 8).ae (fun SU=>
 ar oh (
 (bn 0 0 (aa (([]:J)))).ae (fun _=>
 (bn 0 SU (aa (dG SU (0:Int)))).ae (fun _=>
 cq NN (fun(((tT,rf,vB),(tU,xm,p9,ot),jH,nA,jq):((J×(J×J))×((J×(J×(J×J)))×((List J)×(J×J)))))=>
 (lc (aA (aa jq)) (aA (aa jq)) 8).ae (fun Eh=>
 bT (ar jH (
 ar nA (
 ar jq (
 (bn 0 Eh (aa (dG Eh (0:Int)))).ae (fun _=>
 ar jq (
 cq NN (fun(((vm,qW),(HI,HJ,zj),(o6,xn,rh,qa),o7,qb,j5,kA):((Int×Int)×((J×(J×J))×((J×(J×(J×J)))×((List J)×(J×(J×J)))))))=>
 aw (bG qW vm)
 ((eY qW (aa j5)).ae (fun k63=>
 (cK j5 (aI 0 k63)).ae (fun i64=>
 (eY qW (aa o7)).ae (fun k65=>
 (cK o7 (aI 0 k65)).ae (fun kU=>
 (dm kU i64).ae (fun D8=>
 (eY qW (aa kA)).ae (fun SX=>
 (cK kA (aI 0 SX)).ae (fun i69=>
 ar o7 (
 ar qb (
 ar j5 (
 (bn 0 (aa kA) (aa (cg kA (aI 0 SX) D8))).ae (fun _=>
 ar j5 (
 some (Sum.inl ((vm,cR .i64 qW 1),(HI,HJ,zj),(o6,xn,rh,qa),o7,qb,j5,cg kA (aI 0 SX) D8)))))))))))))))
 ((ar qb (
 ar kA (
 ar o7 (
 ar j5 (
 some (Sum.inl ((HI,HJ,zj),(o6,xn,rh,qa),qb,kA,o7,j5))))))).ae (fun jc=>
 some (Sum.inr jc))))
 ((aA (aa jq),(0:Int)),(tT,rf,vB),(tU,xm,p9,ot),jH,nA,jq,dG Eh (0:Int))))))))
 (fun((j6,xo,qc),(xp,El,Bw,xq),pf,zk,zl,tV)=>
 (cr zk 0 (aa zk)).ae (fun vC=>
 (Cm (xo,vC)).ae (fun LU=>
 ar pf (
 (cr ((LU::([]:J))) 0 1).ae (fun mQ=>
 (ku (aI (aa pf) (aa mQ)) 8).ae (fun _=>
 ar tV (
 (x3 (Bw,tV)).ae (fun(b85,tY)=>
 aw (cZ b85)
 (((dN (dQ pf mQ) (aI (aa pf) (aa mQ))).ae (fun zm=>
 some zm)).ae (fun xr=>
 some (Sum.inr xr)))
 (ar zl (
 (bn 0 (aI (aa pf) (aa mQ)) (aa (dQ pf mQ))).ae (fun _=>
 (bn 0 (aa tV) (aa tY)).ae (fun _=>
 some (Sum.inl ((j6,xo,qc),(xp,El,Bw,xq),zl,dQ pf mQ,tY))))))))))))))))
 ((gx,gR,ig),(iu,iv,kT,oe),oh,([]:J),dG SU (0:Int)))))))))
theorem aeg (n:Nat):kE n n=some ():=if_pos rfl
theorem N6 (of:J) (x:Int):∀n,(lO of x n).length<=n
 |0=>Nat.le_refl 0
 |n+1=>by
  have ih:=N6 of x n;simp only[lO];split
  ·rw[List.length_append,List.length_singleton];omega
  ·omega
theorem N7 (of:J) (x:Int):∀n v,v∈lO of x n->∃i:Nat,i<n/\v=(i:Int)/\of.getD i 0=x
 |0,v,h=>by cases h
 |n+1,v,h=>by
  simp only[lO] at h;split at h
  ·rename_i e;rcases List.mem_append.1 h with h|h
   ·obtain⟨i,h1,h2⟩:=N7 of x n v h;exact⟨i,by omega,h2⟩
   ·exact⟨n,by omega,List.mem_singleton.1 h,e⟩
  ·obtain⟨i,h1,h2⟩:=N7 of x n v h;exact⟨i,by omega,h2⟩
theorem ag2 {of:J} {x:Int}:∀{n i:Nat},i<n->of.getD i 0=x->(i:Int)∈lO of x n
 |n+1,i,h,e=>by
  by_cases hi:i=n
  ·subst hi;simp only[lO,if_pos e];simp
  ·have ih:=ag2 (of:=of) (x:=x) (show i<n by omega) e;simp only[lO];split
   ·exact List.mem_append_left _ ih
   ·exact ih
theorem ag4 {of:J} {x:Int} (h:x∈of):0<(vals of x).length:=by
 obtain⟨i,hi,e⟩:=List.mem_iff_getElem.1 h;exact List.length_pos_of_mem (ag2 (of:=of) (x:=x) hi (by rw[List.getD_eq_getElem?_getD,List.getElem?_eq_getElem hi];exact e))
theorem aud {of:J} {x:Int} (h:x∉of):vals of x=[]:=by
 rcases hv:vals of x with _|⟨v,l⟩
 ·rfl
 ·exfalso;obtain⟨i,h1,_,h3⟩:=N7 of x of.length v (by show v∈vals of x;rw[hv];simp);apply h;rw[<-h3,List.getD_eq_getElem?_getD,List.getElem?_eq_getElem h1];exact List.getElem_mem h1
theorem N8 (of:J) (x:Int):(vals of x).length<=of.length:=N6 of x of.length
theorem ajQ (x:J×Int) (y:J) (h:tf x=some y):OP aP x=some y:=by
 obtain⟨of,x⟩:=x;simp only[tf] at h;split at h
 ·rename_i hl;rw[<-h];simp only[OP,ar];rw[fF (fun k=>((x,of,aA (aa of),(k:Int)),lO of x k)) (r:=Sum.inl (vals of x)) of.length ?a1 ?a2 ?a3 (ew (by omega))]
  case a3=>rfl
  case a2=>
   dsimp only
   rw[be (g9 of)];simp only[bM,ao];rfl
  case a1=>
   intro k hk;have hv:=N6 of x k;dsimp only
   rw[ba (d6 (by rw[nl];omega)),dn,getD_some (0:Int) hk];simp only[ao,bM];rw[fe (by omega) (by omega),show(k:Int)+1=((k+1:Nat):Int) by push_cast;rfl];by_cases e:of.getD k 0=x
   ·rw[ba (r6 e),show cr [(k:Int)] 0 1=some [(k:Int)] from rfl]
    simp only[ao];rw[lA (by simp only[aI,aa,List.length_singleton,dX];omega)];simp only[ao,tE];rw[show lO of x (k+1)=lO of x k++[(k:Int)] from if_pos e]
    rfl
   ·rw[be (r5 e),show lO of x (k+1)=lO of x k from if_neg e]
  simp only[bT,Option.bind,yH,iy,ao]
 ·cases h
theorem akF (x:J×Int) (y:J) (h:yg x=some y):Py aP x=some y:=by
 obtain⟨of,x⟩:=x;simp only[yg,tf] at h;split at h
 ·rename_i hl;rw[<-h];simp only[Py,ar];rw[fF (fun k=>((x,of,aA (aa of),(k:Int)),lO of x k)) (r:=Sum.inl (vals of x)) of.length ?a1 ?a2 ?a3 (ew (by omega))]
  case a3=>rfl
  case a2=>
   dsimp only
   rw[be (g9 of)];simp only[bM,ao];rfl
  case a1=>
   intro k hk;have hv:=N6 of x k;dsimp only
   rw[ba (d6 (by rw[nl];omega)),dn,getD_some (0:Int) hk];simp only[ao,bM];rw[fe (by omega) (by omega),show(k:Int)+1=((k+1:Nat):Int) by push_cast;rfl];by_cases e:of.getD k 0=x
   ·rw[ba (r6 e),show cr [(k:Int)] 0 1=some [(k:Int)] from rfl]
    simp only[ao];rw[lA (by simp only[aI,aa,List.length_singleton,dX];omega)];simp only[ao,tE];rw[show lO of x (k+1)=lO of x k++[(k:Int)] from if_pos e]
    rfl
   ·rw[be (r5 e),show lO of x (k+1)=lO of x k from if_neg e]
  simp only[bT,Option.bind,yH,iy,ao]
 ·cases h
theorem ajL (x:J×J) (y:Int) (h:Cm x=some y):OI aP x=some y:=by
 obtain⟨D,ix⟩:=x;simp only[Cm,yf] at h;split at h
 ·rename_i hc;rw[<-h];obtain⟨h1,h2,he⟩:=hc;simp only[OI];have hb:∀j,j<=D.length->hJ D ix j<=582622237229761:=fun j hj=>Nat.le_trans (Tr h1 h2 he j hj) (Nat.le_trans (Nat.pow_le_pow_right (by omega) (show j<=12 by have:=h1.1;omega)) (by decide));rw[fF (fun j=>(D,((hJ D ix j:Nat):Int),ix,aA (aa ix),(j:Int))) D.length ?a1 ?a2 ?a3 (ew (by have:=h1.1;omega))]
  case a3=>rfl
  case a2=>
   dsimp only
   rw[be (eO (by rw[nl];omega))]
  case a1=>
   intro j hj;obtain⟨a,a1,a2,a3⟩:=E6 h1.m (i:=j) (by omega);obtain⟨b,b1,b2,b3⟩:=E6 h2.m (i:=j) (by omega);have GM:=hb j (by omega);have hl:=h1.1;have e:hJ D ix (j+1)=hJ D ix j*a+b:=by simp only[hJ];rw[a2,b2]
   have hm:=Nat.mul_le_mul GM (show a<=8 by omega);dsimp only
   rw[ba (d6 (by rw[nl];omega)),dn,dn,a1,b1];simp only[ao];rw[pi (by rw[<-Int.natCast_mul];omega) (by rw[<-Int.natCast_mul];omega),<-Int.natCast_mul,fe (by omega) (by omega),fe (by omega) (by omega),e];rfl
  simp only[bT,Option.bind]
 ·cases h
theorem PQ {V:List J} {ix:J} (h:FX V ix) {i:Nat} (hi:i<ix.length):
  dm ix (i:Int)=some (ix.getD i 0)/\dm V (i:Int)=some (V.getD i [])/\dm (V.getD i []) (ix.getD i 0)=some ((V.getD i []).getD (ix.getD i 0).toNat 0):=by
 obtain⟨h1,h2,h3⟩:=h.2 i hi;refine⟨by rw[dn];exact getD_some 0 hi,by rw[dn];exact getD_some [] h1,?_⟩;rw[show ix.getD i 0=(((ix.getD i 0).toNat:Nat):Int) by omega,dn,Int.toNat_natCast];exact getD_some 0 h3
theorem akC (x:List J×J) (y:J) (h:CJ x=some y):Pv aP x=some y:=by
 obtain⟨V,ix⟩:=x;simp only[CJ] at h;split at h
 ·rename_i hc;rw[<-h];have hl:=hc.1;simp only[Pv,ar];rw[fF (fun k=>((V,ix,aA (aa ix),(k:Int)),eD k fun i=>(V.getD i []).getD (ix.getD i 0).toNat 0)) (r:=Sum.inl (Kk V ix)) ix.length ?a1 ?a2 ?a3 (ew (by omega))]
  case a3=>rfl
  case a2=>
   dsimp only
   rw[be (g9 ix)];simp only[bM,ao];rfl
  case a1=>
   intro k hk;obtain⟨g1,g2,g3⟩:=PQ hc hk;dsimp only
   rw[ba (d6 (by rw[nl];omega)),g1,ao,g2,ao,g3,ao,bM,ao];rw[show cr [(V.getD k []).getD (ix.getD k 0).toNat 0] 0 1=some [(V.getD k []).getD (ix.getD k 0).toNat 0] from rfl,ao]
   rw[lA (by simp only[aI,aa,List.length_singleton,gA,dX];omega),ao,tE,ao];rw[BS k fun i=>(V.getD i []).getD (ix.getD i 0).toNat 0,fe (by omega) (by omega)];rfl
  simp only[bT,Option.bind,yH,iy,ao]
 ·cases h
theorem akE (x:iA×J) (y:List J×J) (h:CL x=some y):Px aP x=some y:=by
 obtain⟨⟨m,R⟩,ch⟩:=x;simp only[CL] at h;split at h
 ·rename_i hc;rw[<-h];obtain⟨h1,h2,h3⟩:=hc;simp only[Px,ar];rw[fF (fun k=>((ch,aA (aa ch),(k:Int)),(m,R),(List.range k).map (fun i=>vals (R.getD i []) (ch.getD i 0)),eD k fun i=>((vals (R.getD i []) (ch.getD i 0)).length:Int))) (r:=Sum.inl (iz R ch,bI R ch)) ch.length ?a1 ?a2 ?a3 (ew (by omega))]
  case a3=>rfl
  case a2=>
   dsimp only
   rw[be (g9 ch)];simp only[bM,ao];rfl
  case a1=>
   intro k hk;have Lq:k<R.length:=by omega
   have hR:=h3 _ (List.mem_of_getElem? (getD_some [] Lq));have hv:=N8 (R.getD k []) (ch.getD k 0);dsimp only
   rw[ba (d6 (by rw[nl];omega)),dn,getD_some (0:Int) hk,ao,dn,getD_some ([]:J) Lq,ao];rw[show yg (R.getD k [],ch.getD k 0)=some (vals (R.getD k []) (ch.getD k 0)) from if_pos (by dsimp only;omega)]
   simp only[ao,aeg,iy,bM];rw[show bn 0 1 (aa [vals (R.getD k []) (ch.getD k 0)])=some () from rfl,ao]
   rw[lA (by simp only[aI,aa,List.length_singleton,List.length_map,List.length_range,dX];omega),ao];rw[show cr [aA (aa (vals (R.getD k []) (ch.getD k 0)))] 0 1=some [aA (aa (vals (R.getD k []) (ch.getD k 0)))] from rfl,ao]
   rw[lA (by simp only[aI,aa,List.length_singleton,gA,dX];omega),ao,tE,ao,tE,ao];rw[show[aA (aa (vals (R.getD k []) (ch.getD k 0)))]=[((vals (R.getD k []) (ch.getD k 0)).length:Int)] from rfl,BS k fun i=>((vals (R.getD i []) (ch.getD i 0)).length:Int),fe (by omega) (by omega)]
   rw[show dQ ((List.range k).map fun i=>vals (R.getD i []) (ch.getD i 0)) [vals (R.getD k []) (ch.getD k 0)]=(List.range (k+1)).map fun i=>vals (R.getD i []) (ch.getD i 0) by rw[List.range_succ,List.map_append];rfl];rfl
  simp only[bT,Option.bind,yH,iy,ao]
 ·cases h
def gL {α:Type} (n:Nat) (f:Nat->α):List α:=(List.range n).map f
theorem tF {α:Type} (n:Nat) (f:Nat->α):(gL n f).length=n:=by simp[gL]
theorem Dx {α:Type} {n j:Nat} (f:Nat->α) (h:j<n):(gL n f)[j]? =some (f j):=by simp[gL,List.getElem?_range h]
theorem wH {α:Type} {n:Nat} {f g:Nat->α} (h:∀j,j<n->f j=g j):gL n f=gL n g:=List.map_congr_left fun j hj=>h j (List.mem_range.1 hj)
theorem akN {α:Type} (n:Nat) (x:α):dG n x=gL n (fun _=>x):=by unfold dG gL;rw[List.map_const',List.length_range]
theorem aaa {α:Type} {n j:Nat} (f:Nat->α) (x:α):cg (gL n f) j x=gL n (fun q=>if q=j then x else f q):=by
 unfold cg;apply List.ext_getElem?;intro k;rw[List.getElem?_set];by_cases hk:k<n
 ·by_cases e:j=k
  ·subst e;rw[if_pos rfl,if_pos (by rw[tF];exact hk),Dx _ hk,if_pos rfl]
  ·rw[if_neg e,Dx _ hk,Dx _ hk,if_neg (fun h=>e h.symm)]
 ·rw[List.getElem?_eq_none (l:=gL n fun q=>if q=j then x else f q) (by rw[tF];omega)]
  by_cases e:j=k
  ·subst e;rw[if_pos rfl,if_neg (by rw[tF];exact hk)]
  ·rw[if_neg e,List.getElem?_eq_none (by rw[tF];omega)]
theorem Z7 {α:Type} (n:Nat) (f:Nat->α):dQ (gL n f) [f n]=gL (n+1) f:=by unfold gL dQ;rw[List.range_succ,List.map_append];rfl
theorem akM {α:Type} {n j:Nat} (f:Nat->α) (d:α) (h:j<n):(gL n f).getD j d=f j:=by rw[List.getD_eq_getElem?_getD,Dx f h];rfl
theorem AJ {α:Type} (n:Nat) (f g:Nat->α):bn 0 (aa (gL n f)) (aa (gL n g))=some ():=uU (by unfold aa;rw[tF,tF])
theorem uL {α:Type} {n j:Nat} (f:Nat->α) (h:j<n):eY (j:Int) (aa (gL n f))=some j:=lU (by unfold aa;rw[tF];exact h)
theorem uW {α:Type} {n j:Nat} (f:Nat->α) (h:j<n):cK (gL n f) j=some (f j):=Dx f h
theorem Dy {α:Type} {n k:Nat} (f:Nat->α) (d:α):cg (gL n fun q=>if q<k then f q else d) k (f k)=gL n fun q=>if q<k+1 then f q else d:=by
 rw[aaa];refine wH fun q _=>?_;by_cases e:q=k
 ·rw[if_pos e,if_pos (by omega),e]
 ·rw[if_neg e];by_cases h:q<k
  ·rw[if_pos h,if_pos (by omega)]
  ·rw[if_neg h,if_neg (by omega)]
theorem AK {α:Type} (n:Nat) (f:Nat->α) (d:α):(gL n fun q=>if q<n then f q else d)=gL n f:=wH fun q hq=>if_pos hq
theorem AL {α:Type} (n:Nat) (f:Nat->α) (d:α):dG n d=gL n fun q=>if q<0 then f q else d:=by rw[akN];exact wH fun q _=>by rw[if_neg (by omega)]
theorem TP:∀{A B:J},A.length=B.length->(∀i,i<A.length->(A.getD i 0).toNat<=(B.getD i 0).toNat)->bW A<=bW B
 |[],[],_,_=>Nat.le_refl _
 |a::A,b::B,hl,h=>by
  have h0:=h 0 (by simp);have ih:=TP (A:=A) (B:=B) (by simpa using hl) fun i hi=>by simpa using h (i+1) (by simp;omega)
  simp only[bW];exact Nat.mul_le_mul (by simpa using h0) ih
structure fM (D:J) (m:Int) (R:List J):Prop where
 m1:1<=m
 Mm:m<=12
 eR:D.length<=12
 d8:∀x∈D,1<=x/\x<=8
 g:mI D
 p1:1<=bW D
 p4:bW D<=4096
 rl:R.length=D.length
 row:∀i,i<D.length->((R.getD i []).length:Int)=D.getD i 0
 al:∀i,i<D.length->∀v∈R.getD i [],0<=v/\v<m
theorem F8 {L D A:J} {m:Int} {R:List J} (h:m7 ((L,D,A),(m,R))=true):fM D m R:=by
 simp only[m7,Bool.and_eq_true,decide_eq_true_eq] at h;obtain⟨h0,⟨fU,fK⟩,hR,hp⟩:=h;by_cases ha:pL L D=true/\eC D<=4096
 ·have hd:=CX ha.1;have hl:=yq ha.1;have hI:=EL (D:=D) fun x hx=>(hd x hx).1;have eS:=BK (D:=D) fun x hx=>(hd x hx).1;refine⟨fU,fK,by omega,hd,⟨by omega,fun x hx=>by have:=hd x hx;omega⟩,eS,by omega,hR,fun i hi=>(hp i (by omega)).1,fun i hi v hv=>?_⟩;exact ad4.1 (hp i (by omega)).2 v hv
 ·have e:ga L D= -1:=if_neg ha;rw[e] at h0;exact absurd h0 (by decide)
section
variable {D:J} {m:Int} {R:List J}
theorem fM.rV (H:fM D m R) {i:Nat} (hi:i<D.length):1<=D.getD i 0/\D.getD i 0<=8:=H.d8 _ (tG hi)
theorem ais (R:List J) (ch:J):(bI R ch).length=ch.length:=gA _ _
theorem Ya {ch:J} {i:Nat} (h:i<ch.length):(bI R ch).getD i 0=((vals (R.getD i []) (ch.getD i 0)).length:Int):=by
 rw[List.getD_eq_getElem?_getD,bI,xJ _ h];rfl
structure BkF (D:J) (R:List J) (ch:J):Prop where
 cl:ch.length=D.length
 bl:(bI R ch).length=D.length
 b:∀i,i<D.length->1<=(bI R ch).getD i 0/\(bI R ch).getD i 0<=D.getD i 0
 b8:∀x∈bI R ch,1<=x/\x<=8
 g:mI (bI R ch)
 p1:1<=bW (bI R ch)
 pD:bW (bI R ch)<=bW D
theorem fM.blk (H:fM D m R) {ch:J} (hc:mE R ch):BkF D R ch:=by
 obtain⟨h1,h2⟩:=hc;have sA:=H.rl;have hb:∀i,i<D.length->1<=(bI R ch).getD i 0/\(bI R ch).getD i 0<=D.getD i 0:=fun i hi=>by
  rw[Ya (by omega)];have a1:=ag4 (h2 i (by omega));have a2:=N8 (R.getD i []) (ch.getD i 0);have a3:=H.row i hi;omega
 have hl:(bI R ch).length=D.length:=by rw[ais];omega
 have DG:∀x∈bI R ch,1<=x/\x<=8:=fun x hx=>by
  obtain⟨i,hi,rfl⟩:=List.mem_iff_getElem.1 hx;have e:(bI R ch)[i]=(bI R ch).getD i 0:=by rw[List.getD_eq_getElem?_getD,List.getElem?_eq_getElem hi];rfl
  have a1:=hb i (by omega);have a2:=H.rV (i:=i) (by omega);rw[e];omega
 have Ls:=H.eR;exact⟨by omega,hl,hb,DG,⟨by omega,fun x hx=>by have:=DG x hx;omega⟩,BK fun x hx=>(DG x hx).1,TP hl fun i hi=>by have:=hb i (by omega);omega⟩
theorem ag3 {ch:J} {i:Nat} (h:i<ch.length):(iz R ch).getD i []=vals (R.getD i []) (ch.getD i 0):=akM _ _ h
theorem fM.at (H:fM D m R) {ch:J} (hc:mE R ch) (n:Nat):FX (iz R ch) (aU (bI R ch) n):=by
 have B:=H.blk hc;have Ls:=H.eR;have nW:(aU (bI R ch) n).length=D.length:=(gA _ _).trans B.bl;refine⟨by omega,fun i hi=>?_⟩;have hiD:i<D.length:=by omega
 have cC:=B.cl;obtain⟨d,d1,d2,d3,d4,d5⟩:=Gl B.g (i:=i) (by rw[B.bl];exact hiD);have yQ:(aU (bI R ch) n).getD i 0=((n/eW (bI R ch) (i+1)%d:Nat):Int):=by rw[Bh (by rw[B.bl];exact hiD)];unfold eN;rw[d3]
 have cu:=Nat.mod_lt (n/eW (bI R ch) (i+1)) (show 0<d by omega);rw[Ya (by omega)] at d2;have oW:(iz R ch).length=ch.length:=tF _ _;rw[yQ,Int.toNat_natCast,ag3 (by omega)];exact⟨by omega,by omega,by omega⟩
theorem fM.whole (H:fM D m R) {ch:J} (hc:mE R ch) (n:Nat):(pE R ch n).length=D.length/\∀k,k<D.length->0<=(pE R ch n).getD k 0/\(pE R ch n).getD k 0<D.getD k 0:=by
 have B:=H.blk hc;have cG:=H.at hc n;have nW:(aU (bI R ch) n).length=D.length:=(gA _ _).trans B.bl;refine⟨(gA _ _).trans nW,fun k hk=>?_⟩;obtain⟨h1,h2,h3⟩:=cG.2 k (by omega);have cC:=B.cl;have e:(pE R ch n).getD k 0=((iz R ch).getD k []).getD ((aU (bI R ch) n).getD k 0).toNat 0:=by
  rw[List.getD_eq_getElem?_getD,pE,Kk,xJ _ (by omega)];rfl
 rw[ag3 (by omega)] at h3 e;obtain⟨i,i1,i2,_⟩:=N7 (R.getD k []) (ch.getD k 0) _ _ (tG h3);have:=H.row k hk;have i2:(vals (R.getD k []) (ch.getD k 0)).getD ((aU (bI R ch) n).getD k 0).toNat 0=(i:Int):=i2;rw[e,i2];omega
theorem fM.sm8 (H:fM D m R):vQ D 8:=⟨H.eR,fun x hx=>by have:=H.d8 x hx;omega⟩
theorem fM.ws8 (H:fM D m R) {ch:J} (hc:mE R ch) (n:Nat):vQ (pE R ch n) 8:=by
 obtain⟨h1,h2⟩:=H.whole hc n;refine⟨by rw[h1];exact H.eR,fun x hx=>?_⟩;obtain⟨i,hi,rfl⟩:=List.mem_iff_getElem.1 hx;have e:(pE R ch n)[i]=(pE R ch n).getD i 0:=by rw[List.getD_eq_getElem?_getD,List.getElem?_eq_getElem hi];rfl
 have a1:=h2 i (by omega);have a2:=H.rV (i:=i) (by omega);rw[e];omega
theorem fM.MI (H:fM D m R) {ch:J} (hc:mE R ch) (n:Nat):fy D R ch n<bW D:=by
 obtain⟨h1,h2⟩:=H.whole hc n;have:=Ts (D:=D) (ix:=pE R ch n) (fun k hk=>by have:=h2 k hk;omega) D.length (Nat.le_refl _);rw[Fl] at this;unfold fy;omega
theorem fM.Tv (H:fM D m R) {ch:J} (hc:mE R ch) (n:Nat):Cm (D,pE R ch n)=some ((fy D R ch n:Nat):Int):=if_pos ⟨H.sm8,H.ws8 hc n,(H.whole hc n).1.symm⟩
end
theorem ajD (x:T3×iA×Bk) (y:J) (h:Cj x=some y):Oz aP x=some y:=by
 obtain⟨⟨L,D,A⟩,⟨m,R⟩,⟨ch,bl,bd,bA⟩⟩:=x;simp only[Cj] at h;split at h
 ·rename_i hc;rw[<-h];obtain⟨hk,dw,hbd⟩:=hc;dsimp only at hk dw hbd;subst hbd;have H:=F8 hk;have B:=H.blk dw;have Ls:=H.eR;have cC:=B.cl;have sA:=H.rl;have Hf:=H.p4;have qT:=B.p1;have RX:=B.pD;have uZ:=B.bl;simp only[Oz,ar];rw[qh (n:=aa ch) (by simp only[aa,dX];omega)];simp only[ao];rw[show bn 0 (aa ch) (aa (dG (aa ch) ([]:J)))=some () by rw[qf];exact bM _];simp only[ao];rw[fF (fun k=>((ch,aA (aa ch),(k:Int)),(L,D,A),(m,R),(ch,bl,bI R ch,bA),gL ch.length fun q=>if q<k then vals (R.getD q []) (ch.getD q 0) else[])) (r:=Sum.inl ((L,D,A),(ch,bl,bI R ch,bA),iz R ch)) ch.length ?a1 ?a2 ?a3 (ew (by omega))]
  case a3=>rw[AL (aa ch) (fun q=>vals (R.getD q []) (ch.getD q 0))];rfl
  case a2=>
   dsimp only
   rw[be (g9 ch)];simp only[bM,ao];rw[AK];rfl
  case a1=>
   intro k hk;have Lq:k<R.length:=by omega
   have hR:=H.row k (by omega);have hd:=H.rV (i:=k) (by omega);dsimp only
   rw[ba (d6 (by rw[nl];omega)),dn,getD_some (0:Int) hk,ao,dn,getD_some ([]:J) Lq,ao];rw[show tf (R.getD k [],ch.getD k 0)=some (vals (R.getD k []) (ch.getD k 0)) from if_pos (by dsimp only;omega),ao,uL _ hk,ao,gd,uW _ hk,ao,iy,ao]
   rw[Dy (fun q=>vals (R.getD q []) (ch.getD q 0)),AJ,ao,fe (by omega) (by omega)];rfl
  simp only[bT,Option.bind];rw[qh (n:=aa ch) (by simp only[aa,dX];omega)];simp only[ao,bM,yH];rw[show bn 0 (aa ch) (aa (dG (aa ch) (0:Int)))=some () by rw[qf];exact bM _];simp only[ao];obtain⟨P,hP⟩:∃P,bW (bI R ch)=P+1:=⟨bW (bI R ch) - 1,by omega⟩;rw[fF (fun n=>((L,D,A),(ch,bl,bI R ch,bA),iz R ch,eD n (fun n=>(fy D R ch n:Int)),aU (bI R ch) n)) (r:=eD (P+1) fun n=>(fy D R ch n:Int)) P ?b1 ?b2 ?b3 (ew (by omega))]
  case b3=>
   rw[show aa ch=aa (bI R ch) by unfold aa;omega,aaO B.g];rfl
  case b1=>
   intro n hn;have cG:=H.at dw n;have hw:=H.whole dw n;have nW:(aU (bI R ch) n).length=D.length:=(gA _ _).trans uZ;dsimp only
   rw[qh (n:=aa (aU (bI R ch) n)) (by simp only[aa,dX];omega)];simp only[ao,bM];rw[show bn 0 (aa (aU (bI R ch) n)) (aa (dG (aa (aU (bI R ch) n)) (0:Int)))=some () by rw[qf];exact bM _];simp only[ao];rw[fF (fun j=>((aA (aa (aU (bI R ch) n)),(j:Int)),(L,D,A),(ch,bl,bI R ch,bA),iz R ch,eD n (fun n=>(fy D R ch n:Int)),aU (bI R ch) n,gL (aU (bI R ch) n).length fun q=>if q<j then((iz R ch).getD q []).getD ((aU (bI R ch) n).getD q 0).toNat 0 else 0)) (r:=Sum.inl ((L,D,A),(ch,bl,bI R ch,bA),eD n (fun n=>(fy D R ch n:Int)),pE R ch n,iz R ch,aU (bI R ch) n)) (aU (bI R ch) n).length ?c1 ?c2 ?c3 (ew (by omega))]
   case c3=>
    rw[AL (aa (aU (bI R ch) n)) (fun q=>((iz R ch).getD q []).getD ((aU (bI R ch) n).getD q 0).toNat 0)];rfl
   case c2=>
    dsimp only
    rw[be (g9 _)];rw[AK];rfl
   case c1=>
    intro j hj;obtain⟨g1,g2,g3⟩:=PQ cG hj;have hV:=(cG.2 j hj).1;dsimp only
    rw[ba (d6 (by rw[nl];omega)),lU (show j<aa (aU (bI R ch) n) from hj),ao,gd]
    rw[show cK (aU (bI R ch) n) j=some ((aU (bI R ch) n).getD j 0) from getD_some 0 hj,ao,lU (show j<aa (iz R ch) from hV),ao,gd]
    rw[show cK (iz R ch) j=some ((iz R ch).getD j []) from getD_some [] hV,ao,g3,ao,uL _ hj,ao,gd,uW _ hj,ao]
    rw[Dy (fun q=>((iz R ch).getD q []).getD ((aU (bI R ch) n).getD q 0).toNat 0),AJ,ao,fe (by omega) (by omega)];rfl
   simp only[lP,ao];rw[H.Tv dw n];simp only[ao];rw[show cr [((fy D R ch n:Nat):Int)] 0 1=some [((fy D R ch n:Nat):Int)] from rfl]
   simp only[ao];rw[lA (by simp only[aI,aa,List.length_singleton,gA,dX];omega)];simp only[ao];rw[Ey B.g (by omega) (by omega),hP];simp only[ao];rw[BS n fun n=>((fy D R ch n:Nat):Int)];rw[show decide (n+1<P+1)=true from decide_eq_true (by omega)]
   rw[be (by rfl)];rw[show bn 0 (aI (aa (eD n fun n=>((fy D R ch n:Nat):Int))) (aa [((fy D R ch n:Nat):Int)])) (aa (eD (n+1) fun n=>((fy D R ch n:Nat):Int)))=some () from uU (by simp only[aI,aa,List.length_singleton,gA])]
   rw[show bn 0 (aa (aU (bI R ch) n)) (aa (aU (bI R ch) (n+1)))=some () from uU ((gA _ _).trans (gA _ _).symm)]
   rfl
  case b2=>
   have cG:=H.at dw P;have hw:=H.whole dw P;have nW:(aU (bI R ch) P).length=D.length:=(gA _ _).trans uZ;dsimp only
   rw[qh (n:=aa (aU (bI R ch) P)) (by simp only[aa,dX];omega)];simp only[ao,bM];rw[show bn 0 (aa (aU (bI R ch) P)) (aa (dG (aa (aU (bI R ch) P)) (0:Int)))=some () by rw[qf];exact bM _];simp only[ao];rw[fF (fun j=>((aA (aa (aU (bI R ch) P)),(j:Int)),(L,D,A),(ch,bl,bI R ch,bA),iz R ch,eD P (fun n=>(fy D R ch n:Int)),aU (bI R ch) P,gL (aU (bI R ch) P).length fun q=>if q<j then((iz R ch).getD q []).getD ((aU (bI R ch) P).getD q 0).toNat 0 else 0)) (r:=Sum.inl ((L,D,A),(ch,bl,bI R ch,bA),eD P (fun n=>(fy D R ch n:Int)),pE R ch P,iz R ch,aU (bI R ch) P)) (aU (bI R ch) P).length ?c1 ?c2 ?c3 (ew (by omega))]
   case c3=>
    rw[AL (aa (aU (bI R ch) P)) (fun q=>((iz R ch).getD q []).getD ((aU (bI R ch) P).getD q 0).toNat 0)];rfl
   case c2=>
    dsimp only
    rw[be (g9 _)];rw[AK];rfl
   case c1=>
    intro j hj;obtain⟨g1,g2,g3⟩:=PQ cG hj;have hV:=(cG.2 j hj).1;dsimp only
    rw[ba (d6 (by rw[nl];omega)),lU (show j<aa (aU (bI R ch) P) from hj),ao,gd]
    rw[show cK (aU (bI R ch) P) j=some ((aU (bI R ch) P).getD j 0) from getD_some 0 hj,ao,lU (show j<aa (iz R ch) from hV),ao,gd]
    rw[show cK (iz R ch) j=some ((iz R ch).getD j []) from getD_some [] hV,ao,g3,ao,uL _ hj,ao,gd,uW _ hj,ao]
    rw[Dy (fun q=>((iz R ch).getD q []).getD ((aU (bI R ch) P).getD q 0).toNat 0),AJ,ao,fe (by omega) (by omega)];rfl
   simp only[lP,ao];rw[H.Tv dw P];simp only[ao];rw[show cr [((fy D R ch P:Nat):Int)] 0 1=some [((fy D R ch P:Nat):Int)] from rfl]
   simp only[ao];rw[lA (by simp only[aI,aa,List.length_singleton,gA,dX];omega)];simp only[ao];rw[Ey B.g (by omega) (by omega),hP];simp only[ao];rw[BS P fun n=>((fy D R ch n:Nat):Int)];rw[show decide (P+1<P+1)=false from decide_eq_false (by omega)]
   rw[ba (by rfl)];rw[show dN (eD (P+1) fun n=>((fy D R ch n:Nat):Int)) (aI (aa (eD P fun n=>((fy D R ch n:Nat):Int))) (aa [((fy D R ch P:Nat):Int)]))=some (eD (P+1) fun n=>((fy D R ch n:Nat):Int)) by
    rw[show aI (aa (eD P fun n=>((fy D R ch n:Nat):Int))) (aa [((fy D R ch P:Nat):Int)])=aa (eD (P+1) fun n=>((fy D R ch n:Nat):Int)) by simp only[aI,aa,List.length_singleton,gA]];exact iy _]
   simp only[ao]
  rw[hP]
 ·cases h
def lf (of:J):Nat->J
 |0=>[]
 |n+1=>if(n:Int)∈of then lf of n++[(n:Int)] else lf of n
def di (m:Int) (of:J):J:=lf of m.toNat
def dv (m:Int) (R:List J):List J:=R.foldl (fun K of=>K.flatMap fun l=>(di m of).map fun x=>l++[x]) [[]]
def oB (l:J):Int:=sm l.length fun i=>l.getD i 0
def t9 (m:Int) (l:J):Bool:=decide (oB l%m=0)
def bO (m:Int) (R:List J):List J:=(dv m R).filter (t9 m)
def t5 (R:List J):J:=R.map fun l=>(l.length:Int)
def F3 (c:iA):Prop:=(1<=c.1/\c.1<=12)/\c.2.length<=12/\(∀l∈c.2,(1<=l.length/\l.length<=8)/\∀v∈l,0<=v/\v<c.1)/\bW (t5 c.2)<=4096
instance (c:iA):Decidable (F3 c):=by unfold F3;infer_instance
def CK:iA->Option (List J):=fun c=>if F3 c then some (bO c.1 c.2) else none
def pg (L:J) (R:List J) (ch:J):Bk:=(ch,L,bI R ch,[])
def FH:T3×iA->Option (List Bk):=fun x=>if m7 x=true then some ((bO x.2.1 x.2.2).map (pg x.1.1 x.2.2)) else none
def Oo:T3×iA->Option (List Bk):=FH
def bj (m:Int) (R:List J):J:=R.map fun of=>((di m of).length:Int)
def dU (m:Int) (R:List J) (ix:J):J:=eD R.length fun i=>(di m (R.getD i [])).getD (ix.getD i 0).toNat 0
def Kf:ak:=[(.agg,[.int .i64,.list [.list [.int .i64]]])]
def Vj:ak:=[(.one,[.list [.list [.int .i64]]])]
def apf:aK:=[[some .aJ]]
def Jb:ak:=[(.agg,[.list [.int .i64],.list [.int .i64],.list [.int .i64]]),(.agg,[.int .i64,.list [.list [.int .i64]]])]
def Ue:ak:=[(.one,[.list [.list [.int .i64],.list [.int .i64],.list [.int .i64],.list [.int .i64]]])]
def acX:aK:=[[some .aJ,some .aJ,some .aJ,some .aJ]]
def Pw (NN:Nat):(Int×(List J))->(Option (List J)):=
 (fun((i0,l1):(Int×(List J)))=>
 (dN (([]:J)) 0).ae (fun l2=>
 bT ((bn 0 1 (aa ((l2::([]:List J))))).ae (fun _=>
 cq NN (fun(((l3,i4,i5),(i6,l7),l8):(((List J)×(Int×Int))×((Int×(List J))×(List J))))=>
 aw (bG i5 i4)
 (bT ((dm l3 i5).ae (fun l9=>
 bT ((bn 0 0 (aa (([]:List J)))).ae (fun _=>
 ar l8 (
 cq NN (fun(((e7,fQ,jb,nv,pT,xf),(vk,fj),fR,fS):((J×((List J)×(Int×(Int×(Int×Int)))))×((Int×(List J))×((List J)×(List J)))))=>
 aw (bG xf pT)
 (bT ((eY xf (aa fS)).ae (fun q9=>
 (cK fS (aI 0 q9)).ae (fun od=>
 ar fR (
 ar fS (
 cq NN (fun(((jp,mP,Ho,ky,D6,vl,Hp,Hq),(LM,gR),ig,iu):((J×(J×(Int×((List J)×(Int×(Int×(Int×Int)))))))×((Int×(List J))×((List J)×(List J)))))=>
 aw (bG Ho LM)
 ((yg (jp,Ho)).ae (fun iv=>
 aw (bG (0:Int) (aA (aa iv)))
 ((uv mP).ae (fun kT=>
 ar kT (
 (cr ((Ho::([]:J))) 0 1).ae (fun oe=>
 (ku (aI (aa kT) (aa oe)) 8).ae (fun _=>
 (dN (dQ kT oe) (aI (aa kT) (aa oe))).ae (fun oh=>
 ar ig (
 (bn 0 1 (aa ((oh::([]:List J))))).ae (fun _=>
 (ku (aI (aa ig) (aa ((oh::([]:List J))))) 24).ae (fun _=>
 (bn 0 (aI (aa ig) (aa ((oh::([]:List J))))) (aa (dQ ig ((oh::([]:List J)))))).ae (fun _=>
 ar iu (
 some (Sum.inl ((jp,mP,cR .i64 Ho 1,ky,D6,vl,Hp,Hq),(LM,gR),dQ ig ((oh::([]:List J))),iu)))))))))))))
 (ar ig (
 ar iu (
 some (Sum.inl ((jp,mP,cR .i64 Ho 1,ky,D6,vl,Hp,Hq),(LM,gR),ig,iu)))))))
 ((ar ig (
 ar iu (
 some (Sum.inl ((Hq,jp,ky,D6,vl,Hp),(LM,gR),ig,iu))))).ae (fun zi=>
 some (Sum.inr zi))))
 ((e7,od,(0:Int),fQ,jb,nv,pT,xf),(vk,fj),fR,fS))))))
 (fun((Sn,rf,vB,i42,i43,So),(Sp,jH),nA,jq)=>
 ar nA (
 ar jq (
 some (Sum.inl ((rf,vB,i42,i43,So,cR .i64 Sn 1),(Sp,jH),nA,jq))))))
 ((ar fR (
 some (Sum.inl ((nv,fQ,jb),(vk,fj),fR)))).ae (fun sE=>
 some (Sum.inr sE))))
 ((l9,l3,i4,i5,aA (aa l8),(0:Int)),(i6,l7),([]:List J),l8))))
 (fun((vm,Bv,xi),(sC,zj),o6)=>
 ar o6 (
 some (Sum.inl ((vm,Bv,xi),(sC,zj),o6))))))
 (fun((y6,rh,i58),(Sq,qb),j5)=>
 ar j5 (
 some (Sum.inl ((rh,i58,cR .i64 y6 1),(Sq,qb),j5)))))
 ((ar l8 (
 some (Sum.inl ((i6,l7),l8)))).ae (fun kA=>
 some (Sum.inr kA))))
 ((l1,aA (aa l1),(0:Int)),(i0,l1),(l2::([]:List J)))))
 (fun((i63,sF),ri)=>
 bT ((bn 0 0 (aa (([]:List J)))).ae (fun _=>
 ar ri (
 cq NN (fun(((i66,D8),(Ss,pb),jc,j6):((Int×Int)×((Int×(List J))×((List J)×(List J)))))=>
 aw (bG D8 i66)
 (bT ((eY D8 (aa j6)).ae (fun HC=>
 (cK j6 (aI 0 HC)).ae (fun qc=>
 bT (ar jc (
 ar j6 (
 cq NN (fun(((xp,LR,LS,i77,pf,D9,Hr),(i81,vC),tW,mQ):((J×(Int×(Int×(Int×(J×(Int×Int))))))×((Int×(List J))×((List J)×(List J)))))=>
 aw (bG Hr D9)
 ((dm pf Hr).ae (fun Sv=>
 ar tW (
 ar mQ (
 some (Sum.inl ((xp,cR .i64 LR Sv,LS,i77,pf,D9,cR .i64 Hr 1),(i81,vC),tW,mQ))))))
 ((ar tW (
 ar mQ (
 some (Sum.inl ((LR,xp,i77,LS),(i81,vC),tW,mQ))))).ae (fun tY=>
 some (Sum.inr tY))))
 ((qc,(0:Int),i66,D8,qc,aA (aa qc),(0:Int)),(Ss,pb),jc,j6))))
 (fun((Sw,xr,xj,Ea),(Ht,sH),kV,ou)=>
 (rz Sw Ht).ae (fun i95=>
 aw (dJ i95 (0:Int))
 (ar kV (
 (bn 0 1 (aa ((xr::([]:List J))))).ae (fun _=>
 (ku (aI (aa kV) (aa ((xr::([]:List J))))) 24).ae (fun _=>
 (bn 0 (aI (aa kV) (aa ((xr::([]:List J))))) (aa (dQ kV ((xr::([]:List J)))))).ae (fun _=>
 ar ou (
 some (Sum.inl ((xj,Ea),(Ht,sH),dQ kV ((xr::([]:List J))),ou))))))))
 (ar kV (
 ar ou (
 some (Sum.inl ((xj,Ea),(Ht,sH),kV,ou))))))))))
 (fun((y7,Sx),(Sy,xu),tR,ra)=>
 ar tR (
 ar ra (
 some (Sum.inl ((Sx,cR .i64 y7 1),(Sy,xu),tR,ra))))))
 ((ar jc (
 some (Sum.inl jc))).ae (fun vz=>
 some (Sum.inr vz))))
 ((aA (aa ri),(0:Int)),(i63,sF),([]:List J),ri))))
 (fun Bo=>
 (cr Bo 0 (aa Bo)).ae (fun Bp=>
 some Bp)))))
def Oy (NN:Nat):((J×(J×J))×(Int×(List J)))->(Option (List (J×(J×(J×J))))):=
 (fun(((l0,l1,l2),i3,l4):((J×(J×J))×(Int×(List J))))=>
 (lc (aA (aa l4)) (aA (aa l4)) 24).ae (fun k5=>
 (lc (aA (aa l4)) (aA (aa l4)) 8).ae (fun k6=>
 bT ((bn 0 k5 (aa (dG k5 (([]:J))))).ae (fun _=>
 (bn 0 k6 (aa (dG k6 (0:Int)))).ae (fun _=>
 cq NN (fun(((l7,i8,i9),(e7,fQ,eR),(nv,ff),eU,g0):(((List J)×(Int×Int))×((J×(J×J))×((Int×(List J))×((List J)×J)))))=>
 aw (bG i9 i8)
 (bT ((dm l7 i9).ae (fun fj=>
 bT (ar eU (
 ar g0 (
 cq NN (fun(((n9,fS,oY,od,D5,Bg),(kS,ky,kz),(vl,ir),iI,gx):((Int×(J×(Int×((List J)×(Int×Int)))))×((J×(J×J))×((Int×(List J))×((List J)×J)))))=>
 aw (bG oY vl)
 ((vY (fS,oY)).ae (fun b31=>
 aw (b31)
 ((eY n9 (aa iI)).ae (fun k32=>
 (cK iI (aI 0 k32)).ae (fun iu=>
 (eY n9 (aa iI)).ae (fun L6=>
 (kE (aI 0 k32) (aI 0 L6)).ae (fun _=>
 (cK iI (aI 0 L6)).ae (fun kT=>
 (cr ((oY::([]:J))) 0 1).ae (fun oe=>
 (ku (aI (aa kT) (aa oe)) 8).ae (fun _=>
 (bn 0 (aa iI) (aa (cg iI (aI 0 L6) (dQ kT oe)))).ae (fun _=>
 ar gx (
 some (Sum.inl ((n9,fS,cR .i64 oY 1,od,D5,Bg),(kS,ky,kz),(vl,ir),cg iI (aI 0 L6) (dQ kT oe),gx))))))))))))
 (ar iI (
 ar gx (
 some (Sum.inl ((n9,fS,cR .i64 oY 1,od,D5,Bg),(kS,ky,kz),(vl,ir),iI,gx)))))))
 ((ar iI (
 ar gx (
 some (Sum.inl ((n9,Bg,od,D5),(kS,ky,kz),(vl,ir),iI,gx))))).ae (fun oh=>
 some (Sum.inr oh))))
 ((i9,fj,(0:Int),l7,i8,i9),(e7,fQ,eR),(nv,ff),eU,g0))))
 (fun((LN,Sn,rf,i41),(tU,xm,p9),(Sp,jH),nA,jq)=>
 (eY LN (aa nA)).ae (fun Eh=>
 (cK nA (aI 0 Eh)).ae (fun l50=>
 (cK nA (aI 0 Eh)).ae (fun Bv=>
 (eY LN (aa jq)).ae (fun SW=>
 (cK jq (aI 0 SW)).ae (fun sC=>
 ar nA (
 (bn 0 (aa jq) (aa (cg jq (aI 0 SW) (aA (aa Bv))))).ae (fun _=>
 some (Sum.inl ((Sn,rf,i41),(tU,xm,p9),(Sp,jH),nA,cg jq (aI 0 SW) (aA (aa Bv))))))))))))))
 (fun((D7,o6,y6),(rh,qa,o7),(LQ,j5),kA,o8)=>
 ar kA (
 ar o8 (
 some (Sum.inl ((o6,y6,cR .i64 D7 1),(rh,qa,o7),(LQ,j5),kA,o8))))))
 ((ar eU (
 ar g0 (
 some (Sum.inl ((e7,fQ,eR),(nv,ff),eU,g0))))).ae (fun sF=>
 some (Sum.inr sF))))
 ((l4,aA (aa l4),(0:Int)),(l0,l1,l2),(i3,l4),dG k5 (([]:J)),dG k6 (0:Int)))))
 (fun((ri,kU,o9),(Ss,pb),jc,j6)=>
 (lc (aA (aa j6)) (aA (aa j6)) 8).ae (fun HC=>
 ar jc (
 ar j6 (
 (bn 0 0 (aa (([]:List (J×(J×(J×J))))))).ae (fun _=>
 (bn 0 HC (aa (dG HC (0:Int)))).ae (fun _=>
 cq NN (fun(((qc,xp,El),(LS,xq),pf,zk,zl,tV):((J×(J×J))×((Int×(List J))×((List J)×(J×((List (J×(J×(J×J))))×J))))))=>
 (lc (aA (aa zk)) (aA (aa zk)) 8).ae (fun SY=>
 bT (ar pf (
 ar zk (
 ar zl (
 ar tV (
 (bn 0 SY (aa (dG SY (0:Int)))).ae (fun _=>
 ar tV (
 cq NN (fun(((LU,Hs),(Em,tY,zm),(LV,l89),tZ,xt,sH,kV,ou):((Int×Int)×((J×(J×J))×((Int×(List J))×((List J)×(J×((List (J×(J×(J×J))))×(J×J))))))))=>
 aw (bG Hs LU)
 ((eY Hs (aa kV)).ae (fun k95=>
 (cK kV (aI 0 k95)).ae (fun y7=>
 (eY Hs (aa tZ)).ae (fun SZ=>
 (cK tZ (aI 0 SZ)).ae (fun En=>
 (cK tZ (aI 0 SZ)).ae (fun xu=>
 (eY y7 (aa xu)).ae (fun ami=>
 (cK tZ (aI 0 SZ)).ae (fun ra=>
 (cK ra ami).ae (fun aaM=>
 (eY Hs (aa ou)).ae (fun SM=>
 (cK ou (aI 0 SM)).ae (fun auN=>
 ar tZ (
 ar xt (
 ar sH (
 ar kV (
 (bn 0 (aa ou) (aa (cg ou (aI 0 SM) aaM))).ae (fun _=>
 ar kV (
 some (Sum.inl ((LU,cR .i64 Hs 1),(Em,tY,zm),(LV,l89),tZ,xt,sH,kV,cg ou (aI 0 SM) aaM)))))))))))))))))))
 ((ar ou (
 ar tZ (
 ar xt (
 ar sH (
 ar kV (
 some (Sum.inl ((Em,tY,zm),(LV,l89),ou,tZ,xt,sH,kV)))))))).ae (fun Ej=>
 some (Sum.inr Ej))))
 ((aA (aa tV),(0:Int)),(qc,xp,El),(LS,xq),pf,zk,zl,tV,dG SY (0:Int)))))))))
 (fun((Bq,zh,vA),(Sl,xk),rb,tS,xl,L7,Ek)=>
 (cr rb 0 (aa rb)).ae (fun S1=>
 (Ct S1).ae (fun alV=>
 (rz alV Sl).ae (fun alW=>
 bT (aw (dJ alW (0:Int))
 ((te Bq).ae (fun L8=>
 bT (ar tS (
 ar xl (
 ar L7 (
 ar Ek (
 ar rb (
 ar rb (
 ar L8 (
 (bn 0 0 (aa (([]:J)))).ae (fun _=>
 cq NN (fun(((aaN,LJ),(L9,Ma,Mb),(Hm,S2),Bt,Mc,Bu,Md,Me,Mf,Mg):((Int×Int)×((J×(J×J))×((Int×(List J))×(J×(J×(J×((List J)×(J×((List (J×(J×(J×J))))×J))))))))))=>
 aw (bG LJ aaN)
 ((eY LJ (aa Bt)).ae (fun amj=>
 (cK Bt (aI 0 amj)).ae (fun alX=>
 (dm S2 LJ).ae (fun anF=>
 (tf (anF,alX)).ae (fun anG=>
 ar Bu (
 (cr ((aA (aa anG)::([]:J))) 0 1).ae (fun Mh=>
 (ku (aI (aa Bu) (aa Mh)) 8).ae (fun _=>
 ar Md (
 ar Me (
 ar Mf (
 ar Mg (
 ar Bt (
 ar Bt (
 ar Mc (
 (bn 0 (aI (aa Bu) (aa Mh)) (aa (dQ Bu Mh))).ae (fun _=>
 some (Sum.inl ((aaN,cR .i64 LJ 1),(L9,Ma,Mb),(Hm,S2),Bt,Mc,dQ Bu Mh,Md,Me,Mf,Mg))))))))))))))))))
 ((ar Mf (
 ar Md (
 ar Me (
 ar Mg (
 ar Bt (
 ar Mc (
 ar Bu (
 some (Sum.inl ((L9,Ma,Mb),(Hm,S2),Bt,Mc,Bu,Mf,Md,Me,Mg)))))))))).ae (fun anH=>
 some (Sum.inr anH))))
 ((aA (aa rb),(0:Int)),(Bq,zh,vA),(Sl,xk),rb,L8,([]:J),tS,xl,L7,Ek))))))))))
 (fun((anI,anJ,anK),(alY,anL),aa8,aa9,aba,HD,abb,abc,abd)=>
 (dN aa8 (aa aa8)).ae (fun HE=>
 (dN aa9 (aa aa9)).ae (fun HG=>
 (dN aba (aa aba)).ae (fun HH=>
 ar HD (
 (bn 0 1 (aa (((HE,HG,HH,([]:J))::([]:List (J×(J×(J×J)))))))).ae (fun _=>
 (ku (aI (aa HD) (aa (((HE,HG,HH,([]:J))::([]:List (J×(J×(J×J)))))))) 96).ae (fun _=>
 ar abb (
 ar abc (
 (bn 0 (aI (aa HD) (aa (((HE,HG,HH,([]:J))::([]:List (J×(J×(J×J)))))))) (aa (dQ HD (((HE,HG,HH,([]:J))::([]:List (J×(J×(J×J))))))))).ae (fun _=>
 ar abd (
 some (Sum.inl ((anI,anJ,anK),(alY,anL),abb,abc,dQ HD (((HE,HG,HH,([]:J))::([]:List (J×(J×(J×J)))))),abd)))))))))))))))
 (ar tS (
 ar xl (
 ar L7 (
 ar Ek (
 some (Sum.inl ((Bq,zh,vA),(Sl,xk),tS,xl,L7,Ek))))))))
 (fun((anM,anN,anO),(alZ,anP),abe,Mi,Mj,S3)=>
 (cr Mi 0 (aa Mi)).ae (fun anQ=>
 ar S3 (
 (x3 (anQ,S3)).ae (fun(ahF,abf)=>
 aw (cZ ahF)
 (((dN Mj (aa Mj)).ae (fun anR=>
 some anR)).ae (fun anS=>
 some (Sum.inr anS)))
 (ar abe (
 ar Mi (
 ar Mj (
 (bn 0 (aa S3) (aa abf)).ae (fun _=>
 some (Sum.inl ((anM,anN,anO),(alZ,anP),abe,Mi,Mj,abf)))))))))))))))))
 ((ri,kU,o9),(Ss,pb),jc,j6,([]:List (J×(J×(J×J)))),dG HC (0:Int)))))))))))
theorem TN (of:J) (x:Int):∀n,x∈lf of n↔∃i:Nat,i<n/\x=(i:Int)/\x∈of
 |0=>by simp[lf]
 |n+1=>by
  have ih:=TN of x n;simp only[lf];constructor
  ·intro h;split at h
   ·rename_i hm;rcases List.mem_append.1 h with h|h
    ·obtain⟨i,h1,h2⟩:=ih.1 h;exact⟨i,by omega,h2⟩
    ·have:=List.mem_singleton.1 h;exact⟨n,by omega,this,by rw[this];exact hm⟩
   ·obtain⟨i,h1,h2⟩:=ih.1 h;exact⟨i,by omega,h2⟩
  ·rintro⟨i,h1,h2,h3⟩;by_cases e:i=n
   ·subst e;rw[if_pos (by rw[<-h2];exact h3),h2];simp
   ·have:=ih.2 ⟨i,by omega,h2,h3⟩;split
    ·exact List.mem_append_left _ this
    ·exact this
theorem XP (n:Int):∀l:J,l.countP (fun v=>decide (v<n))+(if n∈l then 1 else 0)<=l.countP (fun v=>decide (v<n+1))
 |[]=>by simp
 |v::l=>by
  have ih:=XP n l;have mono:l.countP (fun v=>decide (v<n))<=l.countP (fun v=>decide (v<n+1)):=by
   have:0<=(if n∈l then 1 else 0):=Nat.zero_le _
   omega
  simp only[List.countP_cons,List.mem_cons,decide_eq_true_eq];by_cases h1:n=v
  ·subst h1;rw[if_neg (show¬n<n by omega),if_pos (show n=n\/n∈l from .inl rfl),if_pos (show n<n+1 by omega)]
   omega
  ·by_cases h2:n∈l
   ·rw[if_pos h2] at ih;rw[if_pos (show n=v\/n∈l from .inr h2)]
    by_cases h3:v<n
    ·rw[if_pos h3,if_pos (show v<n+1 by omega)];omega
    ·rw[if_neg h3];omega
   ·rw[if_neg (show¬(n=v\/n∈l) from fun h=>h.elim h1 h2)]
    by_cases h3:v<n
    ·rw[if_pos h3,if_pos (show v<n+1 by omega)];omega
    ·rw[if_neg h3];omega
theorem TM (of:J):∀n,(lf of n).length<=of.countP (fun v=>decide (v<(n:Int)))
 |0=>Nat.zero_le _
 |n+1=>by
  have ih:=TM of n;have st:=XP (n:Int) of;simp only[lf];split
  ·rename_i h;rw[if_pos h] at st;rw[List.length_append,List.length_singleton];push_cast;omega
  ·rename_i h;rw[if_neg h] at st;push_cast;omega
theorem TL (m:Int) (of:J):(di m of).length<=of.length:=Nat.le_trans (TM of m.toNat) List.countP_le_length
theorem ar4 {m:Int} {of:J} {x:Int} (h:x∈di m of):x∈of:=by obtain⟨_,_,_,h⟩:=(TN of x _).1 h;exact h
theorem ar5 {m:Int} {of:J} (h1:of≠[]) (h2:∀v∈of,0<=v/\v<m):0<(di m of).length:=by
 rcases of with _|⟨v,l⟩
 ·exact absurd rfl h1
 ·have:=h2 v (by simp);exact List.length_pos_of_mem ((TN (v::l) v _).2 ⟨v.toNat,by omega,by omega,by simp⟩)
theorem TO:∀(A:J) (q:Int),bW (A++[q])=bW A*q.toNat
 |[],q=>by simp[bW]
 |a::A,q=>by
  have:=TO A q;simp only[List.cons_append,bW,this,Nat.mul_assoc]
theorem air {P:J} {q:Int} {n i:Nat} (h:i<P.length):eN (P++[q]) n i=eN P (n/q.toNat) i:=by
 unfold eN eW;rw[List.drop_append_of_le_length (by omega),TO,Nat.mul_comm,<-Nat.div_div_eq_div_mul];rw[show(P++[q]).getD i 0=P.getD i 0 by rw[List.getD_eq_getElem?_getD,List.getElem?_append_left h,<-List.getD_eq_getElem?_getD]]
theorem aio (P:J) (q:Int) (n:Nat):eN (P++[q]) n P.length=((n%q.toNat:Nat):Int):=by
 unfold eN eW;rw[show(P++[q]).drop (P.length+1)=[] from List.drop_eq_nil_of_le (by simp),show bW []=1 from rfl,Nat.div_one]
 rw[show(P++[q]).getD P.length 0=q by rw[List.getD_eq_getElem?_getD,List.getElem?_append_right (Nat.le_refl _),Nat.sub_self];rfl]
theorem Z9 {α:Type} (q:Nat) (f:Nat->α):∀a,gL (a*q) f=(gL a fun x=>gL q fun y=>f (x*q+y)).flatten
 |0=>by simp[gL]
 |a+1=>by
  have ih:=Z9 q f a;have e:gL (a+1) (fun x=>gL q fun y=>f (x*q+y))=gL a (fun x=>gL q fun y=>f (x*q+y))++[gL q fun y=>f (a*q+y)]:=by unfold gL;rw[List.range_succ,List.map_append];rfl
  rw[e,List.flatten_append,<-ih,Nat.add_mul,Nat.one_mul];unfold gL;rw[List.range_add,List.map_append,List.map_map];simp only[List.flatten_cons,List.flatten_nil,List.append_nil];rfl
theorem Z8 {α β:Type} (g:α->β) (l:List α) (d:α):gL l.length (fun i=>g (l.getD i d))=l.map g:=by
 apply List.ext_getElem?;intro i;by_cases h:i<l.length
 ·rw[Dx _ h,List.getElem?_map,getD_some d h];rfl
 ·rw[List.getElem?_eq_none (by rw[tF];omega),List.getElem?_eq_none (by rw[List.length_map];omega)]
theorem PM (m:Int) (R:List J) (of:J):dv m (R++[of])=(dv m R).flatMap fun l=>(di m of).map fun x=>l++[x]:=by
 unfold dv;rw[List.foldl_append];rfl
theorem arX {m:Int} {R:List J} {of:J} {x y:Nat} (h:y<(di m of).length):
  dU m (R++[of]) (aU (bj m (R++[of])) (x*(di m of).length+y))=dU m R (aU (bj m R) x)++[(di m of).getD y 0]:=by
 have sv:bj m (R++[of])=bj m R++[((di m of).length:Int)]:=by simp[bj]
 have hl:(bj m R).length=R.length:=by simp[bj]
 have hq:(x*(di m of).length+y)/(di m of).length=x:=by
  rw[Nat.add_comm,Nat.add_mul_div_right _ _ (by omega),Nat.div_eq_of_lt h,Nat.zero_add]
 have hr:(x*(di m of).length+y)%(di m of).length=y:=by
  rw[Nat.add_comm,Nat.add_mul_mod_self_right,Nat.mod_eq_of_lt h]
 unfold dU;rw[List.length_append,List.length_singleton];rw[show eD (R.length+1) (fun i=>(di m ((R++[of]).getD i [])).getD ((aU (bj m (R++[of])) (x*(di m of).length+y)).getD i 0).toNat 0)=eD R.length (fun i=>(di m ((R++[of]).getD i [])).getD ((aU (bj m (R++[of])) (x*(di m of).length+y)).getD i 0).toNat 0)++[(di m ((R++[of]).getD R.length [])).getD ((aU (bj m (R++[of])) (x*(di m of).length+y)).getD R.length 0).toNat 0] from(BS _ _).symm]
 congr 1
 ·refine xI fun i hi=>?_;rw[Bh (by rw[sv,List.length_append];omega),Bh (by omega),sv,air (by omega),Int.toNat_natCast,hq];rw[show(R++[of]).getD i []=R.getD i [] by rw[List.getD_eq_getElem?_getD,List.getElem?_append_left hi,<-List.getD_eq_getElem?_getD]]
 ·rw[Bh (by rw[sv,List.length_append,List.length_singleton];omega),sv];rw[show R.length=(bj m R).length from hl.symm,aio]
  simp only[Int.toNat_natCast,hr];rw[show(R++[of]).getD (bj m R).length []=of by rw[hl,List.getD_eq_getElem?_getD,List.getElem?_append_right (Nat.le_refl _),Nat.sub_self];rfl]
theorem KP (m:Int):∀(k:Nat) (R:List J),R.length=k->gL (bW (bj m R)) (fun n=>dU m R (aU (bj m R) n))=dv m R
 |0,R,h=>by
  rw[List.eq_nil_of_length_eq_zero h];rfl
 |k+1,R,h=>by
  obtain⟨R,of,rfl⟩:∃R' of,R=R'++[of]:=⟨R.dropLast,R.getLast (by intro e;rw[e] at h;simp at h),(List.dropLast_concat_getLast _).symm⟩;have ih:=KP m k R (by simpa using h);have sv:bj m (R++[of])=bj m R++[((di m of).length:Int)]:=by simp[bj]
  rw[PM,<-ih,show bW (bj m (R++[of]))=bW (bj m R)*(di m of).length by rw[sv,TO,Int.toNat_natCast],Z9,List.flatMap_def];congr 1;rw[show(gL (bW (bj m R)) fun n=>dU m R (aU (bj m R) n)).map (fun l=>(di m of).map fun x=>l++[x])=gL (bW (bj m R)) (fun n=>(di m of).map fun x=>dU m R (aU (bj m R) n)++[x]) by unfold gL;rw[List.map_map];rfl];refine wH fun x _=>?_;rw[<-Z8 (fun v=>dU m R (aU (bj m R) x)++[v]) (di m of) 0];exact wH fun y hy=>arX hy
structure PdF (D:J) (m:Int) (R:List J):Prop where
 l:(bj m R).length=D.length
 get:∀i,i<D.length->(bj m R).getD i 0=((di m (R.getD i [])).length:Int)
 b:∀i,i<D.length->1<=(di m (R.getD i [])).length/\((di m (R.getD i [])).length:Int)<=D.getD i 0
 g:mI (bj m R)
 p1:1<=bW (bj m R)
 pD:bW (bj m R)<=bW D
section
variable {D:J} {m:Int} {R:List J}
theorem fM.pd (H:fM D m R):PdF D m R:=by
 have sA:=H.rl;have hl:(bj m R).length=D.length:=by simp only[bj,List.length_map];exact sA
 have hg:∀i,i<D.length->(bj m R).getD i 0=((di m (R.getD i [])).length:Int):=fun i hi=>by
  rw[List.getD_eq_getElem?_getD,bj,List.getElem?_map,getD_some [] (show i<R.length by omega)];rfl
 have hb:∀i,i<D.length->1<=(di m (R.getD i [])).length/\((di m (R.getD i [])).length:Int)<=D.getD i 0:=fun i hi=>by
  have h1:=H.row i hi;have h2:=H.rV hi;have h3:=TL m (R.getD i []);have h4:=ar5 (m:=m) (of:=R.getD i []) (by intro e;rw[e] at h1;simp only[List.length_nil] at h1;omega) (H.al i hi);omega
 have DG:∀x∈bj m R,1<=x/\x<=8:=fun x hx=>by
  obtain⟨i,hi,rfl⟩:=List.mem_iff_getElem.1 hx;have e:(bj m R)[i]=(bj m R).getD i 0:=by rw[List.getD_eq_getElem?_getD,List.getElem?_eq_getElem hi];rfl
  have a1:=hb i (by omega);have a2:=H.rV (i:=i) (by omega);rw[e,hg i (by omega)];omega
 have Rb:=H.eR;exact⟨hl,hg,hb,⟨by omega,fun x hx=>by have:=DG x hx;omega⟩,BK fun x hx=>(DG x hx).1,TP hl fun i hi=>by rw[hg i (by omega)];have:=hb i (by omega);omega⟩
theorem al0 {P:J} (h:mI P) (n:Nat) {i:Nat} (hi:i<P.length):0<=(aU P n).getD i 0/\(aU P n).getD i 0<P.getD i 0:=by
 obtain⟨d,d1,d2,d3,d4,d5⟩:=Gl h hi;have yQ:(aU P n).getD i 0=((n/eW P (i+1)%d:Nat):Int):=by rw[Bh hi];unfold eN;rw[d3]
 have cu:=Nat.mod_lt (n/eW P (i+1)) (show 0<d by omega);rw[yQ,d2];omega
theorem fM.ix (H:fM D m R) (n:Nat) {i:Nat} (hi:i<D.length):∃k:Nat,(aU (bj m R) n).getD i 0=(k:Int)/\k<(di m (R.getD i [])).length:=by
 have P:=H.pd;have:=al0 P.g n (i:=i) (by have:=P.l;omega);rw[P.get i hi] at this;exact⟨((aU (bj m R) n).getD i 0).toNat,by omega,by omega⟩
theorem arW {ix:J} {i:Nat} (hi:i<R.length):(dU m R ix).getD i 0=(di m (R.getD i [])).getD (ix.getD i 0).toNat 0:=by
 rw[List.getD_eq_getElem?_getD,dU,xJ _ hi];rfl
theorem fM.pick (H:fM D m R) (n:Nat):mE R (dU m R (aU (bj m R) n)):=by
 refine⟨gA _ _,fun i hi=>?_⟩;have sA:=H.rl;obtain⟨k,h1,h2⟩:=H.ix n (i:=i) (by omega);rw[arW hi,h1,Int.toNat_natCast];exact ar4 (tG h2)
theorem fM.Gc (H:fM D m R) {ch:J} (hc:mE R ch):ch.length<=12/\∀v∈ch,0<=v/\v<=12:=by
 obtain⟨h1,h2⟩:=hc;have sA:=H.rl;have Rb:=H.eR;have hm:=H.Mm;refine⟨by omega,fun v hv=>?_⟩;obtain⟨i,hi,rfl⟩:=List.mem_iff_getElem.1 hv;have e:ch[i]=ch.getD i 0:=by rw[List.getD_eq_getElem?_getD,List.getElem?_eq_getElem hi];rfl
 have:=H.al i (by omega) _ (h2 i (by omega));rw[e];omega
theorem fM.V8 (H:fM D m R) {ch:J} (hc:mE R ch):Ct ch=some (oB ch):=if_pos (H.Gc hc)
theorem fM.atM (H:fM D m R) {ch:J} (hc:mE R ch):0<=oB ch/\oB ch<=144:=by
 obtain⟨h1,h2⟩:=H.Gc hc;have hb:∀k,k<=ch.length->0<=sm k (fun i=>ch.getD i 0)/\sm k (fun i=>ch.getD i 0)<=12*k:=by
  intro k;induction k with
  |zero=>exact fun _=>⟨Int.le_refl 0,Int.le_refl 0⟩
  |succ k ih=>
   intro hk;have ih:=ih (by omega);have:=h2 _ (tG (show k<ch.length by omega));simp only[sm];omega
 have:=hb ch.length (Nat.le_refl _);unfold oB;omega
theorem fM.T0 (H:fM D m R) {ch:J} (hc:mE R ch):rz (oB ch) m=some (oB ch%m):=by
 have h1:=H.atM hc;have hm:=H.m1;have:=XC (a:=(oB ch).toNat) (b:=m.toNat) (by omega);rw[show(((oB ch).toNat:Nat):Int)=oB ch by omega,show((m.toNat:Nat):Int)=m by omega] at this;rw[this];congr 1;rw[Int.natCast_emod,Int.toNat_of_nonneg h1.1,Int.toNat_of_nonneg (by omega)]
end
def jA (L:J) (m:Int) (R:List J) (n:Nat):List Bk:=((gL n fun n=>dU m R (aU (bj m R) n)).filter (t9 m)).map (pg L R)
theorem Xr {L:J} {m:Int} {R:List J} {n:Nat} (h:oB (dU m R (aU (bj m R) n))%m=0):jA L m R (n+1)=jA L m R n++[pg L R (dU m R (aU (bj m R) n))]:=by
 unfold jA;rw[<-Z7,dQ,List.filter_append,List.map_append,List.filter_cons_of_pos (by unfold t9;exact decide_eq_true h)];rfl
theorem Xq {L:J} {m:Int} {R:List J} {n:Nat} (h:¬oB (dU m R (aU (bj m R) n))%m=0):jA L m R (n+1)=jA L m R n:=by
 unfold jA;rw[<-Z7,dQ,List.filter_append,List.map_append,List.filter_cons_of_neg (by unfold t9;simpa using h)];simp
theorem Xp (L:J) (m:Int) (R:List J) (n:Nat):(jA L m R n).length<=n:=by
 unfold jA;rw[List.length_map];exact Nat.le_trans (List.length_filter_le _ _) (Nat.le_of_eq (tF _ _))
theorem ahO (L:J) (m:Int) (R:List J):jA L m R (bW (bj m R))=(bO m R).map (pg L R):=by
 unfold jA bO;rw[KP m R.length R rfl]
def qk (m:Int) (R:List J) (i c q:Nat):J:=if q<i then di m (R.getD q []) else if q=i then lf (R.getD i []) c else[]
theorem ar0 (m:Int) (R:List J) (i:Nat) (n:Nat):gL n (qk m R i 0)=gL n (fun q=>if q<i then di m (R.getD q []) else[]):=wH fun q _=>by
 unfold qk;by_cases h:q<i
 ·rw[if_pos h,if_pos h]
 ·rw[if_neg h,if_neg h];by_cases e:q=i
  ·rw[if_pos e];rfl
  ·rw[if_neg e]
theorem ar1 (m:Int) (R:List J) (i:Nat) (n:Nat):gL n (qk m R i m.toNat)=gL n (fun q=>if q<i+1 then di m (R.getD q []) else[]):=wH fun q _=>by
 unfold qk;by_cases h:q<i
 ·rw[if_pos h,if_pos (by omega)]
 ·rw[if_neg h];by_cases e:q=i
  ·subst e;rw[if_pos rfl,if_pos (by omega)];rfl
  ·rw[if_neg e,if_neg (by omega)]
theorem ar3 {m:Int} {R:List J} {i c n:Nat} (h:(c:Int)∈R.getD i []):cg (gL n (qk m R i c)) i (lf (R.getD i []) c++[(c:Int)])=gL n (qk m R i (c+1)):=by
 rw[aaa];refine wH fun q _=>?_;by_cases e:q=i
 ·subst e;rw[if_pos rfl];unfold qk;rw[if_neg (by omega),if_pos rfl];exact(if_pos h).symm
 ·rw[if_neg e];unfold qk;by_cases h2:q<i
  ·rw[if_pos h2,if_pos h2]
  ·rw[if_neg h2,if_neg h2,if_neg e,if_neg e]
theorem ar2 {m:Int} {R:List J} {i c n:Nat} (h:¬(c:Int)∈R.getD i []):gL n (qk m R i c)=gL n (qk m R i (c+1)):=wH fun q _=>by
 unfold qk;by_cases h2:q<i
 ·rw[if_pos h2,if_pos h2]
 ·rw[if_neg h2,if_neg h2];by_cases e:q=i
  ·rw[if_pos e,if_pos e];exact(if_neg h).symm
  ·rw[if_neg e,if_neg e]
theorem ady (of:J) (n:Nat):(lf of n).length<=of.length:=Nat.le_trans (TM of n) List.countP_le_length
theorem ajC (x:T3×iA) (y:List Bk) (h:FH x=some y):Oy aP x=some y:=by
 obtain⟨⟨L,D,A⟩,⟨m,R⟩⟩:=x;simp only[FH] at h;split at h
 ·rename_i hc;rw[<-h];have H:=F8 hc;have P:=H.pd;have Ls:=H.eR;have sA:=H.rl;have Hf:=H.p4;have fU:=H.m1;have alq:=H.Mm;have qT:=P.p1;have RX:=P.pD;have eZ:=P.l;have hLl:L.length<=12:=by
   simp only[m7,Bool.and_eq_true,decide_eq_true_eq] at hc;by_cases ha:pL L D=true/\eC D<=4096
   ·exact(yq ha.1).1
   ·have e:ga L D= -1:=if_neg ha;rw[e] at hc;exact absurd hc.1 (by decide)
  simp only[Oy,ar];rw[qh (n:=aa R) (by simp only[aa,dX];omega)];simp only[ao];rw[qh (n:=aa R) (by simp only[aa,dX];omega)];simp only[ao];rw[show bn 0 (aa R) (aa (dG (aa R) ([]:J)))=some () by rw[qf];exact bM _,show bn 0 (aa R) (aa (dG (aa R) (0:Int)))=some () by rw[qf];exact bM _];simp only[ao];rw[fF (fun i=>((R,aA (aa R),(i:Int)),(L,D,A),(m,R),gL R.length (fun q=>if q<i then di m (R.getD q []) else[]),gL R.length (fun q=>if q<i then((di m (R.getD q [])).length:Int) else 0))) (r:=Sum.inl ((L,D,A),(m,R),gL R.length (fun q=>di m (R.getD q [])),bj m R)) R.length ?a1 ?a2 ?a3 (ew (by omega))]
  case a3=>
   rw[AL (aa R) (fun q=>di m (R.getD q [])),AL (aa R) (fun q=>((di m (R.getD q [])).length:Int))];rfl
  case a2=>
   dsimp only
   rw[be (g9 R)];simp only[bM,ao];rw[AK,AK,Z8 (fun of=>((di m of).length:Int)) R []];rfl
  case a1=>
   intro i hi;have eH:=H.row i (by omega);have aan:=H.rV (i:=i) (by omega);dsimp only
   rw[ba (d6 (by rw[nl];omega)),dn,getD_some ([]:J) hi];simp only[ao,bM];rw[fF (fun c=>(((i:Int),R.getD i [],(c:Int),R,aA (aa R),(i:Int)),(L,D,A),(m,R),gL R.length (qk m R i c),gL R.length (fun q=>if q<i then((di m (R.getD q [])).length:Int) else 0))) (r:=Sum.inl (((i:Int),(i:Int),R,aA (aa R)),(L,D,A),(m,R),gL R.length (fun q=>if q<i+1 then di m (R.getD q []) else[]),gL R.length (fun q=>if q<i then((di m (R.getD q [])).length:Int) else 0))) m.toNat ?b1 ?b2 ?b3 (ew (by omega))]
   case b3=>rw[ar0];rfl
   case b2=>
    dsimp only
    rw[be (eO (by omega))]
    try simp only[bM,ao]
    rw[ar1]
   case b1=>
    intro c jD;have yW:=ady (R.getD i []) c;dsimp only
    rw[ba (d6 (by omega)),show vY (R.getD i [],(c:Int))=some (decide ((c:Int)∈R.getD i [])) from if_pos (by dsimp only;omega)]
    simp only[ao];rw[fe (by omega) (by omega),show(c:Int)+1=((c+1:Nat):Int) by push_cast;rfl];by_cases hm:(c:Int)∈R.getD i []
    ·rw[show decide ((c:Int)∈R.getD i [])=true from decide_eq_true hm,ba (by rfl),uL _ hi]
     simp only[ao,gd];rw[uW _ hi];simp only[ao,aeg];rw[show qk m R i c i=lf (R.getD i []) c by unfold qk;rw[if_neg (by omega),if_pos rfl]];rw[show cr [(c:Int)] 0 1=some [(c:Int)] from rfl]
     simp only[ao];rw[lA (by simp only[aI,aa,List.length_singleton,dX];omega)];simp only[ao];rw[show dQ (lf (R.getD i []) c) [(c:Int)]=lf (R.getD i []) c++[(c:Int)] from rfl,ar3 hm,AJ]
     simp only[ao,bM]
    ·rw[show decide ((c:Int)∈R.getD i [])=false from decide_eq_false hm,be (by rfl),ar2 hm]
     try simp only[ao,bM]
   simp only[bT,Option.bind];rw[uL _ hi];simp only[ao,gd];rw[uW _ hi];simp only[ao];rw[uL _ hi];simp only[ao,gd];rw[uW _ hi];simp only[ao,bM];rw[if_pos (show i<i+1 by omega),show aA (aa (di m (R.getD i [])))=((di m (R.getD i [])).length:Int) from rfl,Dy (fun q=>((di m (R.getD q [])).length:Int)),AJ]
   simp only[ao,bM];rw[fe (by omega) (by omega)];rfl
  simp only[bT,Option.bind];rw[qh (n:=aa (bj m R)) (by simp only[aa,dX];omega)];simp only[ao,bM,yH];rw[show bn 0 (aa (bj m R)) (aa (dG (aa (bj m R)) (0:Int)))=some () by rw[qf];exact bM _];simp only[ao];obtain⟨Q,hQ⟩:∃Q,bW (bj m R)=Q+1:=⟨bW (bj m R) - 1,by omega⟩;rw[fF (fun n=>((L,D,A),(m,R),gL R.length (fun q=>di m (R.getD q [])),bj m R,jA L m R n,aU (bj m R) n)) (r:=jA L m R (Q+1)) Q ?e1 ?e2 ?e3 (ew (by omega))]
  case e3=>rw[aaO P.g];rfl
  case e1=>
   intro n hn;have wZ:=H.pick n;have akZ:=H.Gc wZ;have nW:(aU (bj m R) n).length=R.length:=(gA _ _).trans (eZ.trans sA.symm);have uZ:=Xp L m R n;dsimp only
   rw[qh (n:=aa (bj m R)) (by simp only[aa,dX];omega)];simp only[ao,bM];rw[show bn 0 (aa (bj m R)) (aa (dG (aa (bj m R)) (0:Int)))=some () by rw[qf];exact bM _];simp only[ao];rw[fF (fun j=>((aA (aa (aU (bj m R) n)),(j:Int)),(L,D,A),(m,R),gL R.length (fun q=>di m (R.getD q [])),bj m R,jA L m R n,aU (bj m R) n,gL R.length fun q=>if q<j then(di m (R.getD q [])).getD ((aU (bj m R) n).getD q 0).toNat 0 else 0)) (r:=Sum.inl ((L,D,A),(m,R),dU m R (aU (bj m R) n),gL R.length (fun q=>di m (R.getD q [])),bj m R,jA L m R n,aU (bj m R) n)) R.length ?c1 ?c2 ?c3 (ew (by omega))]
   case c3=>
    rw[show aa (bj m R)=R.length from eZ.trans sA.symm,AL R.length (fun q=>(di m (R.getD q [])).getD ((aU (bj m R) n).getD q 0).toNat 0)]
    rfl
   case c2=>
    dsimp only
    rw[be (eO (by rw[nl];omega))]
    try simp only[ao,bM]
    rw[AK];rfl
   case c1=>
    intro j hj;obtain⟨k,wT,A6⟩:=H.ix n (i:=j) (by omega);dsimp only
    rw[ba (d6 (by rw[nl];omega)),lU (show j<aa (aU (bj m R) n) by unfold aa;omega)];simp only[ao,gd];rw[show cK (aU (bj m R) n) j=some ((aU (bj m R) n).getD j 0) from getD_some 0 (by omega)]
    simp only[ao];rw[uL _ hj];simp only[ao,gd];rw[uW _ hj];simp only[ao];rw[wT,lU (show k<aa (di m (R.getD j [])) from A6)]
    simp only[ao];rw[show cK (di m (R.getD j [])) k=some ((di m (R.getD j [])).getD k 0) from getD_some 0 A6]
    simp only[ao];rw[uL _ hj];simp only[ao,gd];rw[uW _ hj];simp only[ao,bM];have e:=Dy (n:=R.length) (k:=j) (fun q=>(di m (R.getD q [])).getD ((aU (bj m R) n).getD q 0).toNat 0) 0;rw[wT,Int.toNat_natCast] at e;rw[e,AJ];simp only[ao];rw[fe (by omega) (by omega)];rfl
   simp only[bT,Option.bind,lP,ao];rw[H.V8 wZ];simp only[ao];rw[H.T0 wZ];simp only[ao];by_cases hz:oB (dU m R (aU (bj m R) n))%m=0
   ·rw[ba (r6 hz),show te L=some L from if_pos (by omega)]
    simp only[ao,bM,yH];rw[fF (fun j=>((aA (aa (dU m R (aU (bj m R) n))),(j:Int)),(L,D,A),(m,R),dU m R (aU (bj m R) n),L,eD j (fun i=>((vals (R.getD i []) ((dU m R (aU (bj m R) n)).getD i 0)).length:Int)),gL R.length (fun q=>di m (R.getD q [])),bj m R,jA L m R n,aU (bj m R) n)) (r:=Sum.inl ((L,D,A),(m,R),dU m R (aU (bj m R) n),L,bI R (dU m R (aU (bj m R) n)),jA L m R n,gL R.length (fun q=>di m (R.getD q [])),bj m R,aU (bj m R) n)) (dU m R (aU (bj m R) n)).length ?d1 ?d2 ?d3 (ew (by omega))]
    case d3=>rfl
    case d2=>
     dsimp only
     rw[be (g9 _)]
     try simp only[ao,bM]
     rfl
    case d1=>
     intro j hj;have u6:j<R.length:=by have:=wZ.1;omega
     have eH:=H.row j (by omega);have aan:=H.rV (i:=j) (by omega);have hv:=N8 (R.getD j []) ((dU m R (aU (bj m R) n)).getD j 0);dsimp only
     rw[ba (d6 (by rw[nl];omega)),lU (show j<aa (dU m R (aU (bj m R) n)) from hj)]
     simp only[ao,gd];rw[show cK (dU m R (aU (bj m R) n)) j=some ((dU m R (aU (bj m R) n)).getD j 0) from getD_some 0 hj]
     simp only[ao];rw[dn,getD_some ([]:J) u6];simp only[ao];rw[show tf (R.getD j [],(dU m R (aU (bj m R) n)).getD j 0)=some (vals (R.getD j []) ((dU m R (aU (bj m R) n)).getD j 0)) from if_pos (by dsimp only;omega)]
     simp only[ao,bM];rw[show cr [aA (aa (vals (R.getD j []) ((dU m R (aU (bj m R) n)).getD j 0)))] 0 1=some [aA (aa (vals (R.getD j []) ((dU m R (aU (bj m R) n)).getD j 0)))] from rfl]
     simp only[ao];rw[lA (by simp only[aI,aa,List.length_singleton,gA,dX];omega)];simp only[ao,tE];rw[show[aA (aa (vals (R.getD j []) ((dU m R (aU (bj m R) n)).getD j 0)))]=[((vals (R.getD j []) ((dU m R (aU (bj m R) n)).getD j 0)).length:Int)] from rfl,BS j fun i=>((vals (R.getD i []) ((dU m R (aU (bj m R) n)).getD i 0)).length:Int),fe (by omega) (by omega)]
     rfl
    simp only[iy,ao,bM];rw[show bn 0 1 (aa [(dU m R (aU (bj m R) n),L,bI R (dU m R (aU (bj m R) n)),([]:J))])=some () from rfl]
    simp only[ao];rw[lA (by simp only[aI,aa,List.length_singleton,dX];omega)];simp only[ao,tE,lP,bM];rw[show dQ (jA L m R n) [(dU m R (aU (bj m R) n),L,bI R (dU m R (aU (bj m R) n)),([]:J))]=jA L m R (n+1) from(Xr hz).symm,Ey P.g (by omega) (by omega),hQ]
    simp only[ao];rw[show decide (n+1<Q+1)=true from decide_eq_true (by omega)]
    rw[be (by rfl)]
    try simp only[ao,bM]
    rw[show bn 0 (aa (aU (bj m R) n)) (aa (aU (bj m R) (n+1)))=some () from uU ((gA _ _).trans (gA _ _).symm)]
    rfl
   ·rw[be (r5 hz)];simp only[ao,lP,bM];rw[Ey P.g (by omega) (by omega),hQ];rw[<-Xq (L:=L) hz];simp only[ao];rw[show decide (n+1<Q+1)=true from decide_eq_true (by omega)]
    rw[be (by rfl)]
    try simp only[ao,bM]
    rw[show bn 0 (aa (aU (bj m R) n)) (aa (aU (bj m R) (n+1)))=some () from uU ((gA _ _).trans (gA _ _).symm)]
    rfl
  case e2=>
   have wZ:=H.pick Q;have akZ:=H.Gc wZ;have nW:(aU (bj m R) Q).length=R.length:=(gA _ _).trans (eZ.trans sA.symm);have uZ:=Xp L m R Q;dsimp only
   rw[qh (n:=aa (bj m R)) (by simp only[aa,dX];omega)];simp only[ao,bM];rw[show bn 0 (aa (bj m R)) (aa (dG (aa (bj m R)) (0:Int)))=some () by rw[qf];exact bM _];simp only[ao];rw[fF (fun j=>((aA (aa (aU (bj m R) Q)),(j:Int)),(L,D,A),(m,R),gL R.length (fun q=>di m (R.getD q [])),bj m R,jA L m R Q,aU (bj m R) Q,gL R.length fun q=>if q<j then(di m (R.getD q [])).getD ((aU (bj m R) Q).getD q 0).toNat 0 else 0)) (r:=Sum.inl ((L,D,A),(m,R),dU m R (aU (bj m R) Q),gL R.length (fun q=>di m (R.getD q [])),bj m R,jA L m R Q,aU (bj m R) Q)) R.length ?c1 ?c2 ?c3 (ew (by omega))]
   case c3=>
    rw[show aa (bj m R)=R.length from eZ.trans sA.symm,AL R.length (fun q=>(di m (R.getD q [])).getD ((aU (bj m R) Q).getD q 0).toNat 0)]
    rfl
   case c2=>
    dsimp only
    rw[be (eO (by rw[nl];omega))]
    try simp only[ao,bM]
    rw[AK];rfl
   case c1=>
    intro j hj;obtain⟨k,wT,A6⟩:=H.ix Q (i:=j) (by omega);dsimp only
    rw[ba (d6 (by rw[nl];omega)),lU (show j<aa (aU (bj m R) Q) by unfold aa;omega)];simp only[ao,gd];rw[show cK (aU (bj m R) Q) j=some ((aU (bj m R) Q).getD j 0) from getD_some 0 (by omega)]
    simp only[ao];rw[uL _ hj];simp only[ao,gd];rw[uW _ hj];simp only[ao];rw[wT,lU (show k<aa (di m (R.getD j [])) from A6)]
    simp only[ao];rw[show cK (di m (R.getD j [])) k=some ((di m (R.getD j [])).getD k 0) from getD_some 0 A6]
    simp only[ao];rw[uL _ hj];simp only[ao,gd];rw[uW _ hj];simp only[ao,bM];have e:=Dy (n:=R.length) (k:=j) (fun q=>(di m (R.getD q [])).getD ((aU (bj m R) Q).getD q 0).toNat 0) 0;rw[wT,Int.toNat_natCast] at e;rw[e,AJ];simp only[ao];rw[fe (by omega) (by omega)];rfl
   simp only[bT,Option.bind,lP,ao];rw[H.V8 wZ];simp only[ao];rw[H.T0 wZ];simp only[ao];by_cases hz:oB (dU m R (aU (bj m R) Q))%m=0
   ·rw[ba (r6 hz),show te L=some L from if_pos (by omega)]
    simp only[ao,bM,yH];rw[fF (fun j=>((aA (aa (dU m R (aU (bj m R) Q))),(j:Int)),(L,D,A),(m,R),dU m R (aU (bj m R) Q),L,eD j (fun i=>((vals (R.getD i []) ((dU m R (aU (bj m R) Q)).getD i 0)).length:Int)),gL R.length (fun q=>di m (R.getD q [])),bj m R,jA L m R Q,aU (bj m R) Q)) (r:=Sum.inl ((L,D,A),(m,R),dU m R (aU (bj m R) Q),L,bI R (dU m R (aU (bj m R) Q)),jA L m R Q,gL R.length (fun q=>di m (R.getD q [])),bj m R,aU (bj m R) Q)) (dU m R (aU (bj m R) Q)).length ?d1 ?d2 ?d3 (ew (by omega))]
    case d3=>rfl
    case d2=>
     dsimp only
     rw[be (g9 _)]
     try simp only[ao,bM]
     rfl
    case d1=>
     intro j hj;have u6:j<R.length:=by have:=wZ.1;omega
     have eH:=H.row j (by omega);have aan:=H.rV (i:=j) (by omega);have hv:=N8 (R.getD j []) ((dU m R (aU (bj m R) Q)).getD j 0);dsimp only
     rw[ba (d6 (by rw[nl];omega)),lU (show j<aa (dU m R (aU (bj m R) Q)) from hj)]
     simp only[ao,gd];rw[show cK (dU m R (aU (bj m R) Q)) j=some ((dU m R (aU (bj m R) Q)).getD j 0) from getD_some 0 hj]
     simp only[ao];rw[dn,getD_some ([]:J) u6];simp only[ao];rw[show tf (R.getD j [],(dU m R (aU (bj m R) Q)).getD j 0)=some (vals (R.getD j []) ((dU m R (aU (bj m R) Q)).getD j 0)) from if_pos (by dsimp only;omega)]
     simp only[ao,bM];rw[show cr [aA (aa (vals (R.getD j []) ((dU m R (aU (bj m R) Q)).getD j 0)))] 0 1=some [aA (aa (vals (R.getD j []) ((dU m R (aU (bj m R) Q)).getD j 0)))] from rfl]
     simp only[ao];rw[lA (by simp only[aI,aa,List.length_singleton,gA,dX];omega)];simp only[ao,tE];rw[show[aA (aa (vals (R.getD j []) ((dU m R (aU (bj m R) Q)).getD j 0)))]=[((vals (R.getD j []) ((dU m R (aU (bj m R) Q)).getD j 0)).length:Int)] from rfl,BS j fun i=>((vals (R.getD i []) ((dU m R (aU (bj m R) Q)).getD i 0)).length:Int),fe (by omega) (by omega)]
     rfl
    simp only[iy,ao,bM];rw[show bn 0 1 (aa [(dU m R (aU (bj m R) Q),L,bI R (dU m R (aU (bj m R) Q)),([]:J))])=some () from rfl]
    simp only[ao];rw[lA (by simp only[aI,aa,List.length_singleton,dX];omega)];simp only[ao,tE,lP,bM];rw[show dQ (jA L m R Q) [(dU m R (aU (bj m R) Q),L,bI R (dU m R (aU (bj m R) Q)),([]:J))]=jA L m R (Q+1) from(Xr hz).symm,Ey P.g (by omega) (by omega),hQ]
    simp only[ao];rw[show decide (Q+1<Q+1)=false from decide_eq_false (by omega)]
    rw[ba (by rfl)]
    try simp only[ao,iy]
   ·rw[be (r5 hz)];simp only[ao,lP,bM];rw[Ey P.g (by omega) (by omega),hQ];rw[<-Xq (L:=L) hz];simp only[ao];rw[show decide (Q+1<Q+1)=false from decide_eq_false (by omega)]
    rw[ba (by rfl)]
    try simp only[ao,iy]
  rw[<-hQ,ahO]
 ·cases h
theorem WJ {D:J} {m:Int} {R:List J} (H:fM D m R):t5 R=D/\F3 (m,R):=by
 have sA:=H.rl;have e:t5 R=D:=by
  apply List.ext_getElem?;intro i;by_cases hi:i<D.length
  ·rw[t5,List.getElem?_map,getD_some [] (show i<R.length by omega),getD_some 0 hi,<-H.row i hi];rfl
  ·rw[List.getElem?_eq_none (by simp only[t5,List.length_map];omega),List.getElem?_eq_none (by omega)]
 refine⟨e,⟨H.m1,H.Mm⟩,by have:=H.eR;dsimp only;omega,fun l hl=>?_,by dsimp only;rw[e];exact H.p4⟩;obtain⟨i,hi,rfl⟩:=List.mem_iff_getElem.1 hl;have hi:i<R.length:=hi;show(1<=R[i].length/\R[i].length<=8)/\∀v∈R[i],0<=v/\v<m;have e2:R[i]=R.getD i []:=by rw[List.getD_eq_getElem?_getD,List.getElem?_eq_getElem hi];rfl
 have h1:=H.row i (by omega);have h2:=H.rV (i:=i) (by omega);rw[e2];exact⟨by omega,H.al i (by omega)⟩
theorem ahX {m:Int} {R:List J} (h:F3 (m,R)):fM (t5 R) m R:=by
 obtain⟨⟨h1,h2⟩,h3,h4,h5⟩:=h;have hl:(t5 R).length=R.length:=by simp[t5]
 have hg:∀i,i<R.length->(t5 R).getD i 0=((R.getD i []).length:Int):=fun i hi=>by
  rw[List.getD_eq_getElem?_getD,t5,List.getElem?_map,getD_some [] hi];rfl
 have hm:∀i,i<R.length->R.getD i []∈R:=fun i hi=>List.mem_of_getElem? (getD_some [] hi);have hd:∀x∈t5 R,1<=x/\x<=8:=fun x hx=>by
  obtain⟨l,hl,rfl⟩:=List.mem_map.1 hx;have:=(h4 l hl).1;omega
 exact⟨h1,h2,by rw[hl];exact h3,hd,⟨by dsimp only at h3;omega,fun x hx=>by have:=hd x hx;omega⟩,BK fun x hx=>(hd x hx).1,h5,hl.symm,fun i hi=>(hg i (by omega)).symm,fun i hi=>(h4 _ (hm i (by omega))).2⟩
theorem PN {m:Int} {S:List J} {l:J} (h:l∈dv m S):∃n,l=dU m S (aU (bj m S) n):=by
 rw[<-KP m S.length S rfl] at h;obtain⟨n,_,e⟩:=List.mem_map.1 h;exact⟨n,e.symm⟩
theorem ahq {m:Int} {S:List J} {l:J} (h:l∈dv m S):l.length=S.length:=by
 obtain⟨n,rfl⟩:=PN h;exact gA _ _
theorem YX {α β:Type} (K:List α) (g:α->List β) (q:Nat) (h:∀l,(g l).length=q):(K.flatMap g).length=K.length*q:=by
 induction K with
 |nil=>simp
 |cons a K ih=>rw[List.flatMap_cons,List.length_append,ih,h,List.length_cons,Nat.add_mul,Nat.one_mul,Nat.add_comm]
theorem W8 {m:Int}:∀(k:Nat) (S:List J),S.length=k->(∀l∈S,l.length<=8)->(dv m S).length<=8^k
 |0,S,h,_=>by rw[List.eq_nil_of_length_eq_zero h];exact Nat.le_refl 1
 |k+1,S,h,h8=>by
  obtain⟨S,of,rfl⟩:∃S' of,S=S'++[of]:=⟨S.dropLast,S.getLast (by intro e;rw[e] at h;simp at h),(List.dropLast_concat_getLast _).symm⟩;have ih:=W8 (m:=m) k S (by simpa using h) fun l hl=>h8 l (by simp[hl]);have h1:=h8 of (by simp);have h2:=TL m of;rw[PM,YX _ _ (di m of).length (fun l=>by simp),Nat.pow_succ];exact Nat.mul_le_mul ih (by omega)
theorem Wp {α:Type} {l:List α} {i:Nat} (d:α) (h:i<l.length):l.take (i+1)=l.take i++[l.getD i d]:=by
 rw[List.take_add_one,getD_some d h];rfl
theorem akH {α:Type} (p:α->Bool) {l:List α} {i:Nat} (d:α) (h:i<l.length):(l.take (i+1)).filter p=(l.take i).filter p++(if p (l.getD i d)=true then[l.getD i d] else[]):=by
 rw[Wp d h,List.filter_append];by_cases hp:p (l.getD i d)=true
 ·rw[if_pos hp,List.filter_cons_of_pos hp];rfl
 ·rw[if_neg hp,List.filter_cons_of_neg hp];rfl
def vJ (m:Int) (of:J) (K:List J) (j:Nat):List J:=(K.take j).flatMap fun l=>(di m of).map fun x=>l++[x]
theorem aqM {m:Int} {of:J} {K:List J} {j:Nat} (h:j<K.length):vJ m of K (j+1)=vJ m of K j++(lf of m.toNat).map fun x=>K.getD j []++[x]:=by
 unfold vJ;rw[Wp [] h,List.flatMap_append,List.flatMap_cons,List.flatMap_nil,List.append_nil];rfl
theorem akD (x:iA) (y:List J) (h:CK x=some y):Pw aP x=some y:=by
 obtain⟨m,R⟩:=x;simp only[CK] at h;split at h
 ·rename_i hc;rw[<-h];have H:=ahX hc;have Ls:R.length<=12:=hc.2.1;have fU:=H.m1;have alq:=H.Mm;have h8:∀l∈R,l.length<=8:=fun l hl=>(hc.2.2.1 l hl).1.2;have DV:dX=140737488355328:=rfl;have alC:∀i,i<=12->(8:Nat)^i<=68719476736:=fun i hi=>Nat.le_trans (Nat.pow_le_pow_right (by decide) hi) (by decide);have hK:∀i,i<=R.length->(dv m (R.take i)).length<=68719476736:=fun i hi=>Nat.le_trans (W8 i (R.take i) (by rw[List.length_take];omega) fun l hl=>h8 l (List.mem_of_mem_take hl)) (alC i (by omega));simp only[Pw,ar];rw[show dN ([]:J) 0=some [] from rfl]
  simp only[ao];rw[show bn 0 1 (aa [([]:J)])=some () from rfl]
  simp only[ao];rw[fF (fun i=>((R,aA (aa R),(i:Int)),(m,R),dv m (R.take i))) (r:=Sum.inl ((m,R),dv m R)) R.length ?a1 ?a2 ?a3 (ew (by omega))]
  case a3=>rfl
  case a2=>
   dsimp only
   rw[be (g9 R)]
   try simp only[bM,ao]
   rw[List.take_length]
  case a1=>
   intro i hi;have hKi:=hK i (by omega);have hof:=h8 _ (List.mem_of_getElem? (getD_some [] hi));have eZ:=TL m (R.getD i []);dsimp only
   rw[ba (d6 (by rw[nl];omega)),dn,getD_some ([]:J) hi];simp only[ao,bM];rw[show bn 0 0 (aa ([]:List J))=some () from rfl]
   simp only[ao];rw[fF (fun j=>((R.getD i [],R,aA (aa R),(i:Int),aA (aa (dv m (R.take i))),(j:Int)),(m,R),vJ m (R.getD i []) (dv m (R.take i)) j,dv m (R.take i))) (r:=Sum.inl (((i:Int),R,aA (aa R)),(m,R),dv m (R.take (i+1)))) (dv m (R.take i)).length ?b1 ?b2 ?b3 (ew (by omega))]
   case b3=>rfl
   case b2=>
    dsimp only
    rw[be (g9 _)]
    try simp only[bM,ao]
    rw[show vJ m (R.getD i []) (dv m (R.take i)) (dv m (R.take i)).length=dv m (R.take (i+1)) by
     unfold vJ;rw[List.take_length,Wp [] hi,PM]]
   case b1=>
    intro j hj;have hlj:((dv m (R.take i)).getD j []).length<=12:=by
     have:=ahq (List.mem_of_getElem? (getD_some [] hj));rw[this,List.length_take];omega
    have aR:(vJ m (R.getD i []) (dv m (R.take i)) j).length<=68719476736*8:=by
     unfold vJ;rw[YX _ _ (di m (R.getD i [])).length (fun l=>by simp),List.length_take];exact Nat.mul_le_mul (by omega) (by omega)
    dsimp only
    rw[ba (d6 (by rw[nl];omega)),lU (show j<aa (dv m (R.take i)) from hj)]
    simp only[ao,gd];rw[show cK (dv m (R.take i)) j=some ((dv m (R.take i)).getD j []) from getD_some [] hj]
    simp only[ao,bM];rw[fF (fun c=>((R.getD i [],(dv m (R.take i)).getD j [],(c:Int),R,aA (aa R),(i:Int),aA (aa (dv m (R.take i))),(j:Int)),(m,R),vJ m (R.getD i []) (dv m (R.take i)) j++(lf (R.getD i []) c).map (fun x=>(dv m (R.take i)).getD j []++[x]),dv m (R.take i))) (r:=Sum.inl (((j:Int),R.getD i [],R,aA (aa R),(i:Int),aA (aa (dv m (R.take i)))),(m,R),vJ m (R.getD i []) (dv m (R.take i)) (j+1),dv m (R.take i))) m.toNat ?c1 ?c2 ?c3 (ew (by omega))]
    case c3=>simp[lf]
    case c2=>
     dsimp only
     rw[be (eO (by omega))]
     try simp only[bM,ao]
     rw[aqM hj]
    case c1=>
     intro c jD;have yW:=ady (R.getD i []) c;dsimp only
     rw[ba (d6 (by omega)),show yg (R.getD i [],(c:Int))=some (vals (R.getD i []) (c:Int)) from if_pos (by dsimp only;omega)]
     simp only[ao,bM];rw[fe (by omega) (by omega),show(c:Int)+1=((c+1:Nat):Int) by push_cast;rfl];by_cases hm:(c:Int)∈R.getD i []
     ·have hv:=ag4 hm;rw[ba (d6 (by rw[nl];omega)),show uv ((dv m (R.take i)).getD j [])=some ((dv m (R.take i)).getD j []) from if_pos (by omega)]
      simp only[ao,bM];rw[show cr [(c:Int)] 0 1=some [(c:Int)] from rfl]
      simp only[ao];rw[lA (by simp only[aI,aa,List.length_singleton];omega)];simp only[ao];rw[show dN (dQ ((dv m (R.take i)).getD j []) [(c:Int)]) (aI (aa ((dv m (R.take i)).getD j [])) (aa [(c:Int)]))=some ((dv m (R.take i)).getD j []++[(c:Int)]) from agJ (by simp[dQ,aI,aa])]
      simp only[ao];rw[show bn 0 1 (aa [(dv m (R.take i)).getD j []++[(c:Int)]])=some () from rfl]
      simp only[ao];rw[lA (by simp only[aI,aa,List.length_singleton,List.length_append,List.length_map];omega)];simp only[ao,tE];rw[show lf (R.getD i []) (c+1)=lf (R.getD i []) c++[(c:Int)] from if_pos hm,List.map_append]
      unfold dQ;rw[List.append_assoc];rfl
     ·rw[aud hm,be (eO (by rw[nl];simp)),show lf (R.getD i []) (c+1)=lf (R.getD i []) c from if_neg hm]
    simp only[bT,Option.bind,bM,ao];rw[fe (by omega) (by omega)];rfl
   simp only[bT,Option.bind,bM,ao];rw[fe (by omega) (by omega)];rfl
  simp only[bT,Option.bind,bM,ao];have hKR:=hK R.length (Nat.le_refl _);rw[List.take_length] at hKR;rw[show bn 0 0 (aa ([]:List J))=some () from rfl]
  simp only[ao];rw[fF (fun k=>((aA (aa (dv m R)),(k:Int)),(m,R),((dv m R).take k).filter (t9 m),dv m R)) (r:=Sum.inl (bO m R)) (dv m R).length ?d1 ?d2 ?d3 (ew (by omega))]
  case d3=>rfl
  case d2=>
   dsimp only
   rw[be (g9 _)]
   try simp only[bM,ao]
   rw[List.take_length];rfl
  case d1=>
   intro k hk;obtain⟨n,hn⟩:=PN (List.mem_of_getElem? (getD_some [] hk));have fZ:mE R ((dv m R).getD k []):=by rw[hn];exact H.pick n
   obtain⟨v1,v2⟩:=H.Gc fZ;have kv:(((dv m R).take k).filter (t9 m)).length<=68719476736:=Nat.le_trans (List.length_filter_le _ _) (by rw[List.length_take];omega);have hb:∀q,q<=((dv m R).getD k []).length->0<=sm q (fun i=>((dv m R).getD k []).getD i 0)/\sm q (fun i=>((dv m R).getD k []).getD i 0)<=12*q:=by
    intro q;induction q with
    |zero=>exact fun _=>⟨Int.le_refl 0,Int.le_refl 0⟩
    |succ q ih=>
     intro hq;have ih:=ih (by omega);have:=v2 _ (tG (show q<((dv m R).getD k []).length by omega));simp only[sm];omega
   dsimp only
   rw[ba (d6 (by rw[nl];omega)),lU (show k<aa (dv m R) from hk)]
   simp only[ao,gd];rw[show cK (dv m R) k=some ((dv m R).getD k []) from getD_some [] hk]
   simp only[ao,bM];rw[fF (fun q=>(((dv m R).getD k [],sm q (fun i=>((dv m R).getD k []).getD i 0),aA (aa (dv m R)),(k:Int),(dv m R).getD k [],aA (aa ((dv m R).getD k [])),(q:Int)),(m,R),((dv m R).take k).filter (t9 m),dv m R)) (r:=Sum.inl ((oB ((dv m R).getD k []),(dv m R).getD k [],(k:Int),aA (aa (dv m R))),(m,R),((dv m R).take k).filter (t9 m),dv m R)) ((dv m R).getD k []).length ?e1 ?e2 ?e3 (ew (by omega))]
   case e3=>rfl
   case e2=>
    dsimp only
    rw[be (g9 _)]
    try simp only[bM,ao]
    rfl
   case e1=>
    intro q hq;have h1:=hb q (by omega);have h2:=hb (q+1) (by omega);simp only[sm] at h2;dsimp only
    rw[ba (d6 (by rw[nl];omega)),dn,getD_some (0:Int) hq];simp only[ao,bM];rw[fe (by omega) (by omega),fe (by omega) (by omega)];rfl
   simp only[bT,Option.bind,bM,ao];rw[H.T0 fZ];simp only[ao];rw[akH (t9 m) [] hk];by_cases hz:oB ((dv m R).getD k [])%m=0
   ·rw[ba (r6 hz)];rw[show bn 0 1 (aa [(dv m R).getD k []])=some () from rfl]
    simp only[ao];rw[lA (by simp only[aI,aa,List.length_singleton];omega)];simp only[ao,tE,bM];rw[fe (by omega) (by omega),show(k:Int)+1=((k+1:Nat):Int) by push_cast;rfl];rw[if_pos (show t9 m ((dv m R).getD k [])=true from decide_eq_true hz)]
    rfl
   ·rw[be (r5 hz),if_neg (show¬t9 m ((dv m R).getD k [])=true from fun h=>hz (of_decide_eq_true h)),List.append_nil]
    try simp only[ao,bM]
    rw[fe (by omega) (by omega),show(k:Int)+1=((k+1:Nat):Int) by push_cast;rfl]
  simp only[bT,Option.bind,bM,lP,ao]
 ·cases h
theorem adB {B:J} (hl:B.length<=12) (hb:∀x∈B,1<=x/\x<=8) (hp:bW B<=4096):uw (B,4096)=some ((bW B:Nat):Int):=by
 have hI:=EL (D:=B) fun x hx=>(hb x hx).1;have e:Af 4096 B=(bW B:Int):=by
  unfold Af;rw[Kr (by decide) _ 0 1 (fun x hx=>(hb x hx).1) (by decide) (by decide),Int.one_mul,hI,Int.min_eq_left (by omega)]
 rw[<-e];exact if_pos ⟨by decide,by omega,List.all_eq_true.2 fun v hv=>by have:=hb v hv;exact decide_eq_true (by omega)⟩
theorem aad {r:Rg} {L D A:J} (ht:kF r (L,D,A)=true) {o:Nat} (ho:o<bW D):v5 (r,(L,D,A),(o:Int))=some (iM A (o*bc r) (bc r)):=by
 obtain⟨hr,_,_,⟨qT,qU⟩,hA,_,_,_,_⟩:=IJ ht;have hw:=rK hr;have hm:(o+1)*bc r<=bW D*bc r:=Nat.mul_le_mul_right _ ho;have fK:bW D*bc r<=4096*6:=Nat.mul_le_mul qU hw.2.2;have:=show v5 (r,(L,D,A),(o:Int))=_ from if_pos ⟨hr,by dsimp only;omega,by dsimp only;rw[Int.toNat_natCast];omega,by dsimp only;omega⟩
 rw[this];simp only[Int.toNat_natCast]
theorem anX {D:J} {m:Int} {R:List J} (H:fM D m R) {ch:J} (dw:mE R ch):CL ((m,R),ch)=some (iz R ch,bI R ch):=by
 have sA:=H.rl;have hl:=H.eR;have cC:=dw.1;refine if_pos ⟨by dsimp only;omega,by dsimp only;omega,fun l hl=>?_⟩;have:=(WJ H).2.2.2.1 l hl;exact this.1.2
theorem P9 {m:Int} {D:J} {R:List J} (H:fM D m R) {ch:J} (h:ch∈bO m R):mE R ch:=by
 obtain⟨n,e⟩:=PN (List.mem_filter.1 h).1;rw[e];exact H.pick n
theorem XB {m:Int} {D:J} {R:List J} (H:fM D m R):(bO m R).length<=4096:=by
 have h1:(bO m R).length<=(dv m R).length:=List.length_filter_le _ _;have h2:=H.pd.pD;have h3:=H.p4;rw[<-KP m R.length R rfl,tF] at h1;omega
section
def nE (x:J):Nat->J
 |0=>[]
 |n+1=>nE x n++x
def KJ (D:J):Prop:=D.length<=12/\(∀v∈D,1<=v/\v<=8)/\bW D<=4096
instance (D:J):Decidable (KJ D):=by unfold KJ;infer_instance
def Ck:Rg×J×J×J->Option T3:=fun x=>if x.2.1.length<=1048576/\KJ x.2.2.1/\x.2.2.2.length<=6 then some (x.2.1,x.2.2.1,nE x.2.2.2 (bW x.2.2.1)) else none
def CI:Rg×J×J->Option T3:=fun x=>if gn x.1=true/\x.2.1.length<=1048576/\KJ x.2.2 then some (x.2.1,x.2.2,nE (lR x.1) (bW x.2.2)) else none
def mh (r:Rg) (D:J) (R:List J) (ch X A:J):Nat->J
 |0=>A
 |n+1=>mU (mh r D R ch X A n) (fy D R ch n*bc r) (iM X (n*bc r) (bc r))
def BG (r:Rg) (L:J) (R:List J) (ch:J) (b:Bk):Prop:=b.1=ch/\kF r b.2=true/\b.2.1=L/\b.2.2.1=bI R ch
instance (r:Rg) (L:J) (R:List J) (ch:J) (b:Bk):Decidable (BG r L R ch b):=by unfold BG;infer_instance
def b0:Bk:=([],[],[],[])
def lI (r:Rg) (L D:J) (R K:List J) (l:List Bk):Nat->Option J
 |0=>some (nE (lR r) (bW D))
 |i+1=>match lI r L D R K l i with
  |some A=>if BG r L R (K.getD i []) (l.getD i b0) then some (mh r D R (K.getD i []) (l.getD i b0).2.2.2 A (bW (bI R (K.getD i [])))) else none
  |none=>none
def Eg (r:Rg) (t:T3) (c:iA) (l:List Bk):T3×Bool:=
 if gn r=true/\m7 (t,c)=true/\(bO c.1 c.2).length=l.length then
  match lI r t.1 t.2.1 c.2 (bO c.1 c.2) l l.length with
  |some A=>((t.1,t.2.1,A),true)
  |none=>(([],[],[]),false)
 else(([],[],[]),false)
def L3 (x:Rg×T3×iA×List Bk):Prop:=F4 (x.2.1,x.2.2.1)/\x.2.2.2.length<=1048576/\∀b∈x.2.2.2,b.1.length<=1048576/\b.2.1.length<=1048576/\b.2.2.1.length<=1048576/\b.2.2.2.length<=1048576
instance (x:Rg×T3×iA×List Bk):Decidable (L3 x):=by unfold L3;infer_instance
def yb:Rg×T3×iA×List Bk->Option (T3×Bool):=fun x=>if L3 x then some (Eg x.1 x.2.1 x.2.2.1 x.2.2.2) else none
def z4:Rg×T3×iA×List Bk->Option (T3×Bool):=yb
def ahp:ak:=[(.agg,[.list [.int .i64],.list [.int .i64],.list [.int .i64]]),(.agg,[.int .i64,.list [.list [.int .i64]]])]
def asF:ak:=[(.one,[.list [.list [.int .i64],.list [.int .i64],.list [.int .i64],.list [.int .i64]]])]
def aoj:aK:=[]
def Kc:ak:=[(.agg,[.int .i64,.int .i64,.int .i64]),(.one,[.list [.int .i64]]),(.one,[.list [.int .i64]])]
def Vg:ak:=[(.agg,[.list [.int .i64],.list [.int .i64],.list [.int .i64]])]
def apc:aK:=[]
def Jf:ak:=[(.agg,[.int .i64,.int .i64,.int .i64]),(.one,[.list [.int .i64]]),(.one,[.list [.int .i64]]),(.one,[.list [.int .i64]])]
def Ui:ak:=[(.agg,[.list [.int .i64],.list [.int .i64],.list [.int .i64]])]
def aon:aK:=[]
def JV:ak:=[(.agg,[.int .i64,.int .i64,.int .i64]),(.agg,[.list [.int .i64],.list [.int .i64],.list [.int .i64]]),(.agg,[.int .i64,.list [.list [.int .i64]]]),(.one,[.list [.list [.int .i64],.list [.int .i64],.list [.int .i64],.list [.int .i64]]])]
def U0:ak:=[(.agg,[.list [.int .i64],.list [.int .i64],.list [.int .i64]]),(.one,[.bool])]
def aoX:aK:=[]
def I7:ak:=[(.agg,[.int .i64,.int .i64,.int .i64]),(.agg,[.list [.int .i64],.list [.int .i64],.list [.int .i64]]),(.agg,[.int .i64,.list [.list [.int .i64]]]),(.one,[.list [.list [.int .i64],.list [.int .i64],.list [.int .i64],.list [.int .i64]]])]
def Ua:ak:=[(.agg,[.list [.int .i64],.list [.int .i64],.list [.int .i64]]),(.one,[.bool])]
def aof:aK:=[]
def Pt (NN:Nat):((Int×(Int×Int))×(J×J))->(Option (J×(J×J))):=
 (fun(((i0,i1,i2),l3,l4):((Int×(Int×Int))×(J×J)))=>
 (uv l3).ae (fun l5=>
 (uv l4).ae (fun l6=>
 (uw (l4,(4096:Int))).ae (fun i7=>
 bT ((bn 0 0 (aa (([]:J)))).ae (fun _=>
 (bn 0 0 (aa (([]:J)))).ae (fun _=>
 (bn 0 0 (aa (([]:J)))).ae (fun _=>
 ar l5 (
 ar l6 (
 (bn 0 0 (aa (([]:J)))).ae (fun _=>
 cq NN (fun((i8,(i9,kQ,j3),eR,gm,ff,eU,g0,fj):(Int×((Int×(Int×Int))×(J×(J×(J×(J×(J×J))))))))=>
 aw (bG (0:Int) i8)
 ((FJ (i9,kQ,j3)).ae (fun fR=>
 ar fj (
 (cr fR 0 (aa fR)).ae (fun fS=>
 (ku (aI (aa fj) (aa fS)) 8).ae (fun _=>
 ar eR (
 ar gm (
 ar ff (
 ar eU (
 ar g0 (
 (bn 0 (aI (aa fj) (aa fS)) (aa (dQ fj fS))).ae (fun _=>
 some (Sum.inl (kf .i64 i8 1,(i9,kQ,j3),eR,gm,ff,eU,g0,dQ fj fS)))))))))))))
 ((ar eR (
 ar gm (
 ar ff (
 ar eU (
 ar g0 (
 ar fj (
 some (Sum.inl (eR,gm,ff,eU,g0,fj))))))))).ae (fun re=>
 some (Sum.inr re))))
 (i7,(i0,i1,i2),([]:J),([]:J),([]:J),l5,l6,([]:J)))))))))
 (fun(od,jp,mP,kS,ky,kz)=>
 (dN kS (aa kS)).ae (fun lJ=>
 (dN ky (aa ky)).ae (fun ir=>
 (dN kz (aa kz)).ae (fun iI=>
 some (lJ,ir,iI)))))))))
def OC (NN:Nat):((Int×(Int×Int))×(J×(J×J)))->(Option (J×(J×J))):=
 (fun(((i0,i1,i2),l3,l4,l5):((Int×(Int×Int))×(J×(J×J))))=>
 (te l3).ae (fun l6=>
 (te l4).ae (fun l7=>
 (Co l4).ae (fun i8=>
 (lc (0:Int) (kC .i64 i8 (aA (aa l5))) 8).ae (fun k9=>
 bT ((bn 0 0 (aa (([]:J)))).ae (fun _=>
 (bn 0 0 (aa (([]:J)))).ae (fun _=>
 (bn 0 0 (aa (([]:J)))).ae (fun _=>
 ar l6 (
 ar l7 (
 (bn 0 k9 (aa (dG k9 (0:Int)))).ae (fun _=>
 cq NN (fun(((e7,j3,jb),gm,ff,eU,g0,fj,fR):((J×(Int×Int))×(J×(J×(J×(J×(J×J)))))))=>
 aw (bG jb j3)
 (ar fR (
 (ku (aI (aa fR) (aa e7)) 8).ae (fun _=>
 ar gm (
 ar ff (
 ar eU (
 ar g0 (
 ar fj (
 (bn 0 (aI (aa fR) (aa e7)) (aa (dQ fR e7))).ae (fun _=>
 some (Sum.inl ((e7,j3,cR .i64 jb 1),gm,ff,eU,g0,fj,dQ fR e7)))))))))))
 ((ar gm (
 ar ff (
 ar eU (
 ar g0 (
 ar fj (
 ar fR (
 some (Sum.inl (gm,ff,eU,g0,fj,fR))))))))).ae (fun fS=>
 some (Sum.inr fS))))
 ((l5,i8,(0:Int)),([]:J),([]:J),([]:J),l6,l7,dG k9 (0:Int)))))))))
 (fun(re,od,jp,mP,kS,ky)=>
 (dN mP (aa mP)).ae (fun kz=>
 (dN kS (aa kS)).ae (fun lJ=>
 (dN ky (aa ky)).ae (fun ir=>
 some (kz,lJ,ir))))))))))
def Pf (NN:Nat):((Int×(Int×Int))×((J×(J×J))×((Int×(List J))×(List (J×(J×(J×J)))))))->(Option ((J×(J×J))×Bool)):=
 (fun(((i0,i1,i2),(l3,l4,l5),(i6,l7),l8):((Int×(Int×Int))×((J×(J×J))×((Int×(List J))×(List (J×(J×(J×J))))))))=>
 (yd (i0,i1,i2)).ae (fun b9=>
 aw (cZ b9)
 (some ((([]:J),([]:J),([]:J)),false))
 ((x8 ((l3,l4,l5),i6,l7)).ae (fun lT=>
 aw (cZ lT)
 (some ((([]:J),([]:J),([]:J)),false))
 ((CK (i6,l7)).ae (fun fQ=>
 aw (fL (aA (aa fQ)) (aA (aa l8)))
 (some ((([]:J),([]:J),([]:J)),false))
 ((CI ((i0,i1,i2),l3,l4)).ae (fun(eR,gm,ff)=>
 bT ((bn 0 0 (aa (([]:J)))).ae (fun _=>
 (bn 0 0 (aa (([]:J)))).ae (fun _=>
 (bn 0 0 (aa (([]:J)))).ae (fun _=>
 ar eR (
 ar gm (
 ar ff (
 cq NN (fun(((eU,g0,y5,n9),(tQ,oY,xg),(jp,mP,kS),(LK,kz),lJ,ir,iI,gx,gR,ig):(((List J)×((List (J×(J×(J×J))))×(Int×Int)))×((Int×(Int×Int))×((J×(J×J))×((Int×(List J))×(J×(J×(J×(J×(J×J))))))))))=>
 aw (bG n9 y5)
 (bT ((dm g0 n9).ae (fun(iu,iv,kT,oe)=>
 (dm eU n9).ae (fun oh=>
 (CL ((LK,kz),oh)).ae (fun(zi,tT)=>
 (dm eU n9).ae (fun rf=>
 (rP (iu,rf)).ae (fun b41=>
 aw (cZ b41)
 (some (Sum.inr (Sum.inr (Sum.inr ((([]:J),([]:J),([]:J)),false)))))
 ((ye ((tQ,oY,xg),iv,kT,oe)).ae (fun b42=>
 aw (cZ b42)
 (some (Sum.inr (Sum.inr (Sum.inr ((([]:J),([]:J),([]:J)),false)))))
 ((rP (iv,jp)).ae (fun b43=>
 aw (cZ b43)
 (some (Sum.inr (Sum.inr (Sum.inr ((([]:J),([]:J),([]:J)),false)))))
 ((cr tT 0 (aa tT)).ae (fun p9=>
 (rP (kT,p9)).ae (fun PU=>
 aw (cZ PU)
 (some (Sum.inr (Sum.inr (Sum.inr ((([]:J),([]:J),([]:J)),false)))))
 (ar zi (
 ar tT (
 ar lJ (
 ar ir (
 ar iI (
 ar gx (
 ar gR (
 ar ig (
 cq NN (fun(((jH,LO,jq,i49,vm),(qW,xi,sC),(zj,o6,xn),(i57,qa),(o7,qb,j5,kA),o8,sF,ri,kU,o9,sG,pb,jc):(((List J)×(Int×((List (J×(J×(J×J))))×(Int×Int))))×((Int×(Int×Int))×((J×(J×J))×((Int×(List J))×((J×(J×(J×J)))×(J×(J×(J×(J×(J×(J×((List J)×J)))))))))))))=>
 (cr jc 0 (aa jc)).ae (fun j6=>
 (uw (j6,(4096:Int))).ae (fun i72=>
 aw (bG LO i72)
 ((cr jc 0 (aa jc)).ae (fun qc=>
 (CH (qc,LO)).ae (fun xp=>
 (cr pb 0 (aa pb)).ae (fun El=>
 (cr xp 0 (aa xp)).ae (fun Bw=>
 (CJ (El,Bw)).ae (fun xq=>
 (cr xq 0 (aa xq)).ae (fun pf=>
 (yf (o6,pf)).ae (fun D9=>
 (v5 ((qW,xi,sC),(qb,j5,kA),LO)).ae (fun zl=>
 (cr kU 0 (aa kU)).ae (fun tV=>
 (cr o9 0 (aa o9)).ae (fun vC=>
 ar sG (
 (cr zl 0 (aa zl)).ae (fun tW=>
 (z8 ((qW,xi,sC),(tV,vC,sG),D9,tW)).ae (fun mQ=>
 ar pb (
 ar jc (
 ar o8 (
 ar sF (
 ar ri (
 ar kU (
 ar o9 (
 (bn 0 (aa sG) (aa mQ)).ae (fun _=>
 some (Sum.inl ((jH,cR .i64 LO 1,jq,i49,vm),(qW,xi,sC),(zj,o6,xn),(i57,qa),(o7,qb,j5,kA),o8,sF,ri,kU,o9,mQ,pb,jc))))))))))))))))))))))))
 ((ar o8 (
 ar sF (
 ar ri (
 ar kU (
 ar o9 (
 ar sG (
 some (Sum.inl ((vm,jH,jq,i49),(qW,xi,sC),(zj,o6,xn),(i57,qa),o8,sF,ri,kU,o9,sG))))))))).ae (fun Em=>
 some (Sum.inr Em))))))
 ((eU,(0:Int),g0,y5,n9),(tQ,oY,xg),(jp,mP,kS),(LK,kz),(iu,iv,kT,oe),lJ,ir,iI,gx,gR,ig,zi,tT)))))))))))))))))))))))
 (fun((i86,zm,xr,xj),(Ea,Ht,i92),(kV,ou,HK),(y7,Mk),En,xu,tR,ra,vz,Bo)=>
 ar En (
 ar xu (
 ar tR (
 ar ra (
 ar vz (
 ar Bo (
 some (Sum.inl ((zm,xr,xj,cR .i64 i86 1),(Ea,Ht,i92),(kV,ou,HK),(y7,Mk),En,xu,tR,ra,vz,Bo))))))))))
 ((ar lJ (
 ar ir (
 ar iI (
 ar gx (
 ar gR (
 ar ig (
 some (Sum.inl (lJ,ir,iI,gx,gR,ig))))))))).ae (fun Bp=>
 some (Sum.inr Bp))))
 ((fQ,l8,aA (aa l8),(0:Int)),(i0,i1,i2),(l3,l4,l5),(i6,l7),([]:J),([]:J),([]:J),eR,gm,ff))))))))
 (fun(Ej,Bq,zh,vA,Br,xk)=>
 (dN vA (aa vA)).ae (fun rb=>
 (dN Br (aa Br)).ae (fun tS=>
 (dN xk (aa xk)).ae (fun xl=>
 some ((rb,tS,xl),true)))))))))))))
def Ou (NN:Nat):((Int×(Int×Int))×((J×(J×J))×((Int×(List J))×(List (J×(J×(J×J)))))))->(Option ((J×(J×J))×Bool)):=
 (fun(((i0,i1,i2),(l3,l4,l5),(i6,l7),l8):((Int×(Int×Int))×((J×(J×J))×((Int×(List J))×(List (J×(J×(J×J))))))))=>
 (xY (i0,i1,i2)).ae (fun b9=>
 aw (cZ b9)
 (some ((([]:J),([]:J),([]:J)),false))
 ((Ch ((l3,l4,l5),i6,l7)).ae (fun lT=>
 aw (cZ lT)
 (some ((([]:J),([]:J),([]:J)),false))
 ((Oo ((l3,l4,l5),i6,l7)).ae (fun fQ=>
 aw (fL (aA (aa l8)) (aA (aa fQ)))
 (some ((([]:J),([]:J),([]:J)),false))
 ((Cs (i0,i1,i2)).ae (fun eR=>
 (cr eR 0 (aa eR)).ae (fun gm=>
 (Ck ((i0,i1,i2),l3,l4,gm)).ae (fun(ff,eU,g0)=>
 bT (ar fQ (
 (bn 0 0 (aa (([]:J)))).ae (fun _=>
 (bn 0 0 (aa (([]:J)))).ae (fun _=>
 (bn 0 0 (aa (([]:J)))).ae (fun _=>
 ar ff (
 ar eU (
 ar g0 (
 cq NN (fun(((fj,n9,tQ),(oY,xg,D5),(mP,kS,ky),(D6,lJ),ir,iI,gx,gR,ig,iu,iv):(((List (J×(J×(J×J))))×(Int×Int))×((Int×(Int×Int))×((J×(J×J))×((Int×(List J))×(J×(J×(J×(J×(J×(J×(List (J×(J×(J×J)))))))))))))))=>
 aw (bG tQ n9)
 (bT ((eY tQ (aa iv)).ae (fun vt=>
 (cK iv (aI 0 vt)).ae (fun(oe,oh,zi,tT)=>
 (dm fj tQ).ae (fun(rf,vB,tU,xm)=>
 (Ci ((oY,xg,D5),vB,tU,xm)).ae (fun b44=>
 aw (cZ b44)
 (some (Sum.inr (Sum.inr (Sum.inr ((([]:J),([]:J),([]:J)),false)))))
 ((uk (rf,oe)).ae (fun PU=>
 aw (cZ PU)
 (some (Sum.inr (Sum.inr (Sum.inr ((([]:J),([]:J),([]:J)),false)))))
 ((uk (vB,oh)).ae (fun b46=>
 aw (cZ b46)
 (some (Sum.inr (Sum.inr (Sum.inr ((([]:J),([]:J),([]:J)),false)))))
 ((uk (tU,zi)).ae (fun Kn=>
 aw (cZ Kn)
 (some (Sum.inr (Sum.inr (Sum.inr ((([]:J),([]:J),([]:J)),false)))))
 ((Cj ((mP,kS,ky),(D6,lJ),oe,oh,zi,tT)).ae (fun jq=>
 ar iv (
 ar jq (
 ar ir (
 ar iI (
 ar gx (
 ar gR (
 ar ig (
 ar iu (
 cq NN (fun(((sE,vm,qW,xi,sC),(D7,LP,y6),(rh,qa,o7),(LQ,j5),(kA,o8,sF,ri),kU,o9,sG,pb,jc,j6,xo,qc):(((List (J×(J×(J×J))))×(Int×(Int×(Int×Int))))×((Int×(Int×Int))×((J×(J×J))×((Int×(List J))×((J×(J×(J×J)))×(J×(J×(J×(J×(J×(J×((List (J×(J×(J×J))))×J)))))))))))))=>
 aw (bG sC xi)
 ((eY sC (aa qc)).ae (fun k74=>
 (cK qc (aI 0 k74)).ae (fun LR=>
 (cr pb 0 (aa pb)).ae (fun Bw=>
 (cr jc 0 (aa jc)).ae (fun xq=>
 ar j6 (
 (Cp ((D7,LP,y6),(Bw,xq,j6),LR)).ae (fun(Su,D9)=>
 (jN Su D9 (aa j6)).ae (fun(k80,k81)=>
 (Cq ((D7,LP,y6),(o8,sF,ri),sC)).ae (fun vC=>
 (Aq j6 k80 k81 (List.take k81 vC)).ae (fun tW=>
 ar xo (
 ar qc (
 ar kU (
 ar o9 (
 ar sG (
 ar pb (
 ar jc (
 (bn 0 (aa j6) (aa tW)).ae (fun _=>
 some (Sum.inl ((sE,vm,qW,xi,cR .i64 sC 1),(D7,LP,y6),(rh,qa,o7),(LQ,j5),(kA,o8,sF,ri),kU,o9,sG,pb,jc,tW,xo,qc))))))))))))))))))))
 ((ar xo (
 ar kU (
 ar o9 (
 ar sG (
 ar pb (
 ar jc (
 ar j6 (
 some (Sum.inl ((qW,sE,vm),(D7,LP,y6),(rh,qa,o7),(LQ,j5),kU,o9,sG,pb,jc,j6,xo)))))))))).ae (fun mQ=>
 some (Sum.inr mQ))))
 ((fj,n9,tQ,aA (aa jq),(0:Int)),(oY,xg,D5),(mP,kS,ky),(D6,lJ),(rf,vB,tU,xm),ir,iI,gx,gR,ig,iu,iv,jq))))))))))))))))))))))
 (fun((Sv,tY,Sw),(LV,xj,Ea),(xt,sH,kV),(i94,HK),l96,Mk,En,xu,tR,ra,vz)=>
 ar vz (
 ar l96 (
 ar Mk (
 ar En (
 ar xu (
 ar tR (
 ar ra (
 some (Sum.inl ((tY,Sw,cR .i64 Sv 1),(LV,xj,Ea),(xt,sH,kV),(i94,HK),l96,Mk,En,xu,tR,ra,vz)))))))))))
 ((ar ir (
 ar iI (
 ar gx (
 ar gR (
 ar ig (
 ar iu (
 some (Sum.inl (ir,iI,gx,gR,ig,iu))))))))).ae (fun Bo=>
 some (Sum.inr Bo))))
 ((l8,aA (aa fQ),(0:Int)),(i0,i1,i2),(l3,l4,l5),(i6,l7),([]:J),([]:J),([]:J),ff,eU,g0,fQ)))))))))
 (fun(Bp,Ej,Bq,zh,vA,Br)=>
 (dN zh (aa zh)).ae (fun xk=>
 (dN vA (aa vA)).ae (fun rb=>
 (dN Br (aa Br)).ae (fun tS=>
 some ((xk,rb,tS),true)))))))))))))))
theorem M3 (x:J):∀n,(nE x n).length=n*x.length
 |0=>by simp[nE]
 |n+1=>by rw[nE,List.length_append,M3 x n,Nat.add_mul,Nat.one_mul]
theorem ajG (x:Rg×J×J×J) (y:T3) (h:Ck x=some y):OC aP x=some y:=by
 obtain⟨⟨r1,r2,r3⟩,L,D,x⟩:=x;simp only[Ck] at h;split at h
 ·rename_i hc;obtain⟨hL,⟨hD,hd,hP⟩,hx⟩:=hc;rw[<-h];have DV:dX=140737488355328:=rfl;have hI:=EL (D:=D) fun v hv=>(hd v hv).1;have hm:bW D*x.length<=4096*6:=Nat.mul_le_mul hP hx;simp only[OC,ar];rw[show te L=some L from if_pos (by omega)]
  simp only[ao];rw[show te D=some D from if_pos (by omega)]
  simp only[ao];rw[show Co D=some (eC D) from if_pos ⟨hD,hd⟩,hI]
  simp only[ao];rw[nl,BC (by omega)];rw[show lc 0 ((bW D*x.length:Nat):Int) 8=some 0 by
   unfold lc;rw[if_pos (by refine⟨by omega,by omega,?_⟩;simp only[dX];omega)];rfl]
  simp only[ao,bM];rw[show bn 0 0 (aa ([]:J))=some () from rfl,show bn 0 0 (aa (dG 0 (0:Int)))=some () from rfl]
  simp only[ao];rw[fF (fun i=>((x,((bW D:Nat):Int),(i:Int)),([]:J),([]:J),([]:J),L,D,nE x i)) (bW D) (r:=Sum.inl (([]:J),([]:J),([]:J),L,D,nE x (bW D))) ?a1 ?a2 ?a3 (ew (by omega))]
  case a1=>
   intro i hi;have fK:i*x.length<=4096*6:=Nat.mul_le_mul (by omega) hx;dsimp only
   rw[ba (d6 (by omega))]
   try simp only[ao,bM]
   rw[lA (by simp only[aI,aa];rw[M3];omega)];simp only[ao];rw[show bn 0 (aI (aa (nE x i)) (aa x)) (aa (dQ (nE x i) x))=some () from uU (by simp[aI,aa,dQ])]
   simp only[ao];rw[fe (by omega) (by omega)];rfl
  case a2=>
   dsimp only
   rw[be (eO (by omega))]
   try simp only[ao,bM]
  case a3=>rfl
  simp only[bT,Option.bind,iy,ao]
 ·cases h
theorem akA (x:Rg×J×J) (y:T3) (h:CI x=some y):Pt aP x=some y:=by
 obtain⟨⟨r1,r2,r3⟩,L,D⟩:=x;simp only[CI] at h;split at h
 ·rename_i hc;obtain⟨hr,hL,⟨hD,hd,hP⟩⟩:=hc;rw[<-h];have DV:dX=140737488355328:=rfl;have hw:=rK hr;have hz:=WE hr;simp only[Pt,ar];rw[show uv L=some L from if_pos (by omega)]
  simp only[ao];rw[show uv D=some D from if_pos (by omega)]
  simp only[ao];rw[adB hD hd hP];simp only[ao,bM];rw[show bn 0 0 (aa ([]:J))=some () from rfl]
  simp only[ao];rw[fF (fun i=>((((bW D:Nat):Int) - (i:Int)),(r1,r2,r3),([]:J),([]:J),([]:J),L,D,nE (lR (r1,r2,r3)) i)) (bW D) (r:=Sum.inl (([]:J),([]:J),([]:J),L,D,nE (lR (r1,r2,r3)) (bW D))) ?a1 ?a2 ?a3 (ew (by omega))]
  case a1=>
   intro i hi;have fK:i*(lR (r1,r2,r3)).length<=4096*6:=Nat.mul_le_mul (by omega) (by omega);dsimp only
   rw[ba (d6 (by omega)),show FJ (r1,r2,r3)=some (lR (r1,r2,r3)) from if_pos hr]
   simp only[ao,bM,lP];rw[lA (by simp only[aI,aa];rw[M3];omega)];simp only[ao];rw[show bn 0 (aI (aa (nE (lR (r1,r2,r3)) i)) (aa (lR (r1,r2,r3)))) (aa (dQ (nE (lR (r1,r2,r3)) i) (lR (r1,r2,r3))))=some () from uU (by simp[aI,aa,dQ])]
   simp only[ao];rw[s7 (by omega) (by omega),show((bW D:Nat):Int) - (i:Int) - 1=((bW D:Nat):Int) - ((i+1:Nat):Int) by omega];rfl
  case a2=>
   dsimp only
   rw[be (eO (by omega))]
   try simp only[ao,bM]
  case a3=>simp only[Int.natCast_zero,Int.sub_zero];rfl
  simp only[bT,Option.bind,iy,ao]
 ·cases h
theorem MU {r:Rg} {L D:J} {m:Int} {R:List J} {ch X A:J} (H:fM D m R) (dw:mE R ch) (hX:X.length=bW (bI R ch)*bc r) (hA:A.length=bW D*bc r):
  ∀n,n<=bW (bI R ch)->(mh r D R ch X A n).length=A.length
 |0,_=>rfl
 |n+1,h=>by
  have ih:=MU (L:=L) H dw hX hA n (by omega);have ho:=H.MI dw n;have hm:(fy D R ch n+1)*bc r<=bW D*bc r:=Nat.mul_le_mul_right _ ho;have fK:(n+1)*bc r<=bW (bI R ch)*bc r:=Nat.mul_le_mul_right _ h;rw[Nat.add_mul,Nat.one_mul] at hm fK;have hs:(iM X (n*bc r) (bc r)).length=bc r:=by unfold iM;rw[List.length_take,List.length_drop];omega
  rw[mh,H6 (by rw[hs,ih];omega),ih]
theorem aa5 {r:Rg} {L D:J} {R K:List J} {l:List Bk} {i:Nat} (h:lI r L D R K l i=none):∀j,lI r L D R K l (i+j)=none
 |0=>h
 |j+1=>by
  have:=aa5 h j;rw[<-Nat.add_assoc,lI,this]
theorem L4 {r:Rg} {L D:J} {m:Int} {R:List J} {l:List Bk} (H:fM D m R) (hr:gn r=true) (hl:(bO m R).length=l.length):∀i A,i<=l.length->lI r L D R (bO m R) l i=some A->A.length=bW D*bc r
 |0,A,_,h=>by
  injection h with h;rw[<-h,M3,WE hr]
 |i+1,A,hi,h=>by
  rw[lI] at h;split at h
  ·rename_i A' Lg;have ih:=L4 H hr hl i A' (by omega) Lg;split at h
   ·rename_i fb;injection h with h;have dw:=P9 H (List.mem_of_getElem? (getD_some [] (show i<(bO m R).length by omega)));obtain⟨o1,o2,o3,o4⟩:=fb;have ht:kF r ((l.getD i b0).2.1,(l.getD i b0).2.2.1,(l.getD i b0).2.2.2)=true:=o2;obtain⟨_,_,_,_,hX,_⟩:=IJ ht;rw[o4] at hX;rw[<-h,MU (L:=L) H dw hX ih _ (Nat.le_refl _),ih]
   ·cases h
  ·cases h
theorem aa6 {r:Rg} {L D:J} {R K:List J} {l:List Bk} {i:Nat} {A:J} (h:lI r L D R K l i=some A) (ho:BG r L R (K.getD i []) (l.getD i b0)):lI r L D R K l (i+1)=some (mh r D R (K.getD i []) (l.getD i b0).2.2.2 A (bW (bI R (K.getD i [])))):=by
 rw[lI,h];exact if_pos ho
theorem zg {r:Rg} {L D:J} {R K:List J} {l:List Bk} {i:Nat} {A:J} (h:lI r L D R K l i=some A) (ho:¬BG r L R (K.getD i []) (l.getD i b0)):lI r L D R K l (i+1)=none:=by
 rw[lI,h];exact if_neg ho
def ze (r:Rg) (L D:J) (R K:List J) (l:List Bk):(J×J×J×J×J×J)⊕(T3×Bool):=
 match lI r L D R K l l.length with
 |some A=>.inl ([],[],[],L,D,A)
 |none=>.inr (([],[],[]),false)
theorem zf {r:Rg} {L D:J} {R K:List J} {l:List Bk} {i:Nat} (hi:i<l.length) (h:lI r L D R K l (i+1)=none):ze r L D R K l=.inr (([],[],[]),false):=by
 have:=aa5 h (l.length - (i+1));rw[show i+1+(l.length - (i+1))=l.length by omega] at this;unfold ze;rw[this]
theorem aa4 {r:Rg} {L D:J} {R K:List J} {l:List Bk} {A:J} (h:lI r L D R K l l.length=some A):ze r L D R K l=.inl ([],[],[],L,D,A):=by
 unfold ze;rw[h]
theorem akk (x:Rg×T3×iA×List Bk) (y:T3×Bool) (h:yb x=some y):Pf aP x=some y:=by
 obtain⟨⟨k,p,w⟩,⟨L,D,T⟩,⟨m,R⟩,l⟩:=x;simp only[yb] at h;split at h
 ·rename_i u0;obtain⟨AS,G9,uZ⟩:=u0;dsimp only at AS G9 uZ;rw[<-h];unfold Eg;simp only[Pf,ar];rw[show yd (k,p,w)=some (gn (k,p,w)) from rfl]
  simp only[ao];cases hr:gn (k,p,w) with
  |false=>rw[ba (b:=cZ false) rfl,if_neg (by simp)]
  |true=>
   rw[be (b:=cZ true) rfl,show x8 ((L,D,T),m,R)=some (m7 ((L,D,T),m,R)) from if_pos AS]
   simp only[ao];cases hk:m7 ((L,D,T),m,R) with
   |false=>rw[ba (b:=cZ false) rfl,if_neg (by simp)]
   |true=>
    have H:=F8 hk;have hln:=XB H;rw[be (b:=cZ true) rfl,show CK (m,R)=some (bO m R) from if_pos (WJ H).2]
    simp only[ao];by_cases hl:(bO m R).length=l.length
    ·rw[be (ov (by rw[nl,nl,hl])),if_pos ⟨trivial,trivial,hl⟩];have hw:=rK hr;have hL:L.length<=1048576:=AS.1.1;have hDl:=H.eR;have Hf:=H.p4;rw[show CI ((k,p,w),L,D)=some (L,D,nE (lR (k,p,w)) (bW D)) from if_pos ⟨hr,hL,H.eR,H.d8,H.p4⟩]
     simp only[ao,bM];rw[show bn 0 0 (aa ([]:J))=some () from rfl]
     simp only[ao];rw[abt (r:=ze (k,p,w) L D R (bO m R) l) (fun n x=>∃(i:Nat) (A:J),i+n=l.length/\lI (k,p,w) L D R (bO m R) l i=some A/\x=((bO m R,l,aA (aa l),(i:Int)),(k,p,w),(L,D,T),(m,R),([]:J),([]:J),([]:J),L,D,A)) ?a1 l.length _ ?a0 aP (ew (by omega))]
     case a0=>exact⟨0,_,by omega,rfl,rfl⟩
     case a1=>
      rintro n x ⟨i,A,dw,hj,rfl⟩;dsimp only
      by_cases hi:i<l.length
      case neg=>
       left;have e:i=l.length:=by omega
       subst e;rw[be (eO (by rw[nl];omega)),aa4 hj]
       try simp only[bM,ao]
      obtain⟨n,rfl⟩:∃k,n=k+1:=⟨n - 1,by omega⟩;have G4:i<(bO m R).length:=by omega
      have fZ:=P9 H (List.mem_of_getElem? (getD_some [] G4));have B:=H.blk fZ;have hA:=L4 H hr hl i A (by omega) hj;obtain⟨b,hb⟩:∃b,l.getD i b0=b:=⟨_,rfl⟩;have GO:l[i]? =some b:=by rw[<-hb];exact getD_some b0 hi
      obtain⟨c,cL,cD,cA⟩:=b;obtain⟨q1,q2,q3,q4⟩:=uZ _ (List.mem_of_getElem? GO);dsimp only at q1 q2 q3 q4;have Rq:((bO m R).getD i []).length<=1048576:=by have:=B.cl;omega
      have AU:(bI R ((bO m R).getD i [])).length<=1048576:=by have:=B.bl;omega
      rw[ba (d6 (by rw[nl];omega)),dn,GO];simp only[ao];rw[dn,getD_some ([]:J) G4];simp only[ao];rw[anX H fZ];simp only[ao];rw[show rP (c,(bO m R).getD i [])=some (decide (c=(bO m R).getD i [])) from if_pos ⟨q1,Rq⟩]
      simp only[ao];by_cases t1:c=(bO m R).getD i []
      case neg=>
       left;rw[decide_eq_false t1,ba (b:=cZ false) rfl];simp only[bT,Option.bind];rw[zf hi (zg hj (fun ho=>t1 (by have:=ho.1;rw[hb] at this;exact this)))]
      rw[decide_eq_true t1,be (b:=cZ true) rfl,show ye ((k,p,w),cL,cD,cA)=some (kF (k,p,w) (cL,cD,cA)) from if_pos ⟨q2,q3,q4⟩]
      simp only[ao];by_cases t2:kF (k,p,w) (cL,cD,cA)=true
      case neg=>
       left;rw[Bool.eq_false_iff.2 t2,ba (b:=cZ false) rfl];simp only[bT,Option.bind];rw[zf hi (zg hj (fun ho=>t2 (by have:=ho.2.1;rw[hb] at this;exact this)))]
      rw[t2,be (b:=cZ true) rfl,show rP (cL,L)=some (decide (cL=L)) from if_pos ⟨q2,hL⟩]
      simp only[ao];by_cases t3:cL=L
      case neg=>
       left;rw[decide_eq_false t3,ba (b:=cZ false) rfl];simp only[bT,Option.bind];rw[zf hi (zg hj (fun ho=>t3 (by have:=ho.2.2.1;rw[hb] at this;exact this)))]
      rw[decide_eq_true t3,be (b:=cZ true) rfl];simp only[lP,ao];rw[show rP (cD,bI R ((bO m R).getD i []))=some (decide (cD=bI R ((bO m R).getD i []))) from if_pos ⟨q3,AU⟩]
      simp only[ao];by_cases t4:cD=bI R ((bO m R).getD i [])
      case neg=>
       left;rw[decide_eq_false t4,ba (b:=cZ false) rfl];simp only[bT,Option.bind];rw[zf hi (zg hj (fun ho=>t4 (by have:=ho.2.2.2;rw[hb] at this;exact this)))]
      right;have fb:BG (k,p,w) L R ((bO m R).getD i []) (l.getD i b0):=by rw[hb];exact⟨t1,t2,t3,t4⟩
      have oT:=aa6 hj fb;rw[hb] at oT;dsimp only at oT;have RX:=B.pD;have Rn:cA.length=bW (bI R ((bO m R).getD i []))*bc (k,p,w):=by
       obtain⟨_,_,_,_,hX,_⟩:=IJ t2;rw[t4] at hX;exact hX
      have hlen:=MU (L:=L) H fZ Rn hA;have hPF:uw (bI R ((bO m R).getD i []),4096)=some ((bW (bI R ((bO m R).getD i [])):Nat):Int):=adB (by have:=B.bl;omega) B.b8 (by omega);rw[decide_eq_true t4,be (b:=cZ true) rfl]
      try simp only[bM,ao]
      rw[fF (fun j=>((bO m R,(j:Int),l,aA (aa l),(i:Int)),(k,p,w),(L,D,T),(m,R),(c,cL,cD,cA),([]:J),([]:J),([]:J),L,D,mh (k,p,w) D R ((bO m R).getD i []) cA A j,iz R ((bO m R).getD i []),bI R ((bO m R).getD i []))) (r:=Sum.inl (((i:Int),bO m R,l,aA (aa l)),(k,p,w),(L,D,T),(m,R),([]:J),([]:J),([]:J),L,D,mh (k,p,w) D R ((bO m R).getD i []) cA A (bW (bI R ((bO m R).getD i []))))) (bW (bI R ((bO m R).getD i []))) ?b1 ?b2 ?b3 (ew (by omega))]
      case b3=>rfl
      case b2=>
       dsimp only
       try simp only[lP,ao]
       rw[hPF];simp only[ao];rw[be (eO (by omega))]
       try simp only[bM,ao]
      case b1=>
       intro j A4;have ho:=H.MI fZ j;have hm:(fy D R ((bO m R).getD i []) j+1)*bc (k,p,w)<=bW D*bc (k,p,w):=Nat.mul_le_mul_right _ ho;have fK:(j+1)*bc (k,p,w)<=bW (bI R ((bO m R).getD i []))*bc (k,p,w):=Nat.mul_le_mul_right _ A4;have hm3:bW D*bc (k,p,w)<=4096*6:=Nat.mul_le_mul Hf hw.2.2;rw[Nat.add_mul,Nat.one_mul] at hm fK;have hs:(iM cA (j*bc (k,p,w)) (bc (k,p,w))).length=bc (k,p,w):=by unfold iM;rw[List.length_take,List.length_drop];omega
       have np:=hlen j (by omega);have nq:=hlen (j+1) (by omega);dsimp only
       try simp only[lP,ao]
       rw[hPF];simp only[ao];rw[ba (d6 (by omega)),show CH (bI R ((bO m R).getD i []),(j:Int))=some (aU (bI R ((bO m R).getD i [])) j) from if_pos ⟨B.g,by dsimp only;omega,by dsimp only;omega⟩]
       simp only[ao,lP];rw[show CJ (iz R ((bO m R).getD i []),aU (bI R ((bO m R).getD i [])) j)=some (pE R ((bO m R).getD i []) j) from if_pos (H.at fZ j)]
       simp only[ao,lP];rw[show yf (D,pE R ((bO m R).getD i []) j)=some ((fy D R ((bO m R).getD i []) j:Nat):Int) from H.Tv fZ j]
       simp only[ao];rw[aad t2 (show j<bW cD by rw[t4];exact A4)];simp only[ao,lP,bM];rw[show z8 ((k,p,w),(L,D,mh (k,p,w) D R ((bO m R).getD i []) cA A j),((fy D R ((bO m R).getD i []) j:Nat):Int),iM cA (j*bc (k,p,w)) (bc (k,p,w)))=some (mh (k,p,w) D R ((bO m R).getD i []) cA A (j+1)) by
        rw[show z8 ((k,p,w),(L,D,mh (k,p,w) D R ((bO m R).getD i []) cA A j),((fy D R ((bO m R).getD i []) j:Nat):Int),iM cA (j*bc (k,p,w)) (bc (k,p,w)))=_ from if_pos ⟨hr,by dsimp only;omega,by dsimp only;rw[Int.toNat_natCast,hs,np];omega,by dsimp only;rw[np];omega⟩]
        dsimp only
        rw[Int.toNat_natCast];rfl]
       simp only[ao,bM];rw[show bn 0 (aa (mh (k,p,w) D R ((bO m R).getD i []) cA A j)) (aa (mh (k,p,w) D R ((bO m R).getD i []) cA A (j+1)))=some () from uU (np.trans nq.symm)]
       simp only[ao];rw[fe (by omega) (by omega)];rfl
      simp only[bT,Option.bind,bM,ao];rw[fe (by omega) (by omega)];exact⟨n,_,by omega,rfl,i+1,_,by omega,oT,rfl⟩
     unfold ze
     try dsimp only
     cases hN:lI (k,p,w) L D R (bO m R) l l.length with
     |none=>simp only[bT,Option.bind]
     |some A=>simp only[bT,Option.bind,iy,ao]
    ·rw[ba (rr (by rw[nl,nl];omega)),if_neg (fun h=>hl h.2.2)]
 ·cases h
theorem atn {a b n:Nat} (h1:a<=b) (h2:b<=n):jN (a:Int) (b:Int) n=some (a,b - a):=by
 unfold jN;rw[if_pos ⟨by omega,by omega,by omega⟩];congr 2;omega
variable {m:Int} {L K R:Nat} {X:eA} {d:J}
theorem ajy (x:Rg×T3×iA×List Bk) (y:T3×Bool) (h:z4 x=some y):Ou aP x=some y:=by
 obtain⟨⟨k,p,w⟩,⟨L,D,T⟩,⟨m,R⟩,l⟩:=x;simp only[z4,yb] at h;split at h
 ·rename_i u0;obtain⟨AS,G9,uZ⟩:=u0;dsimp only at AS G9 uZ;rw[<-h];unfold Eg;simp only[Ou,ar];rw[show xY (k,p,w)=some (gn (k,p,w)) from rfl]
  simp only[ao];cases hr:gn (k,p,w) with
  |false=>rw[ba (b:=cZ false) rfl,if_neg (by simp)]
  |true=>
   rw[be (b:=cZ true) rfl,show Ch ((L,D,T),m,R)=some (m7 ((L,D,T),m,R)) from if_pos AS]
   simp only[ao];cases hk:m7 ((L,D,T),m,R) with
   |false=>rw[ba (b:=cZ false) rfl,if_neg (by simp)]
   |true=>
    have H:=F8 hk;have hln:=XB H;have Lx:((bO m R).map (pg L R)).length=(bO m R).length:=List.length_map _;rw[be (b:=cZ true) rfl,show Oo ((L,D,T),m,R)=some ((bO m R).map (pg L R)) from if_pos hk]
    simp only[ao];by_cases hl:(bO m R).length=l.length
    ·rw[be (ov (by rw[nl,nl,Lx,hl])),if_pos ⟨trivial,trivial,hl⟩];have hw:=rK hr;have hz:=WE hr;have hL:L.length<=1048576:=AS.1.1;have hDl:=H.eR;have Hf:=H.p4;rw[show Cs (k,p,w)=some (lR (k,p,w)) from if_pos hr]
     simp only[ao,lP];rw[show Ck ((k,p,w),L,D,lR (k,p,w))=some (L,D,nE (lR (k,p,w)) (bW D)) from if_pos ⟨hL,⟨H.eR,H.d8,H.p4⟩,by dsimp only;omega⟩]
     simp only[ao,bM];rw[show bn 0 0 (aa ([]:J))=some () from rfl]
     simp only[ao];rw[abt (r:=ze (k,p,w) L D R (bO m R) l) (fun n x=>∃(i:Nat) (A:J),i+n=l.length/\lI (k,p,w) L D R (bO m R) l i=some A/\x=((l,aA (aa ((bO m R).map (pg L R))),(i:Int)),(k,p,w),(L,D,T),(m,R),([]:J),([]:J),([]:J),L,D,A,(bO m R).map (pg L R))) ?a1 l.length _ ?a0 aP (ew (by omega))]
     case a0=>exact⟨0,_,by omega,rfl,rfl⟩
     case a1=>
      rintro n x ⟨i,A,dw,hj,rfl⟩;dsimp only
      by_cases hi:i<l.length
      case neg=>
       left;have e:i=l.length:=by omega
       subst e;rw[be (eO (by rw[nl,Lx];omega)),aa4 hj]
       try simp only[bM,ao]
      obtain⟨n,rfl⟩:∃k,n=k+1:=⟨n - 1,by omega⟩;have G4:i<(bO m R).length:=by omega
      have fZ:=P9 H (List.mem_of_getElem? (getD_some [] G4));have B:=H.blk fZ;have hA:=L4 H hr hl i A (by omega) hj;obtain⟨b,hb⟩:∃b,l.getD i b0=b:=⟨_,rfl⟩;have GO:l[i]? =some b:=by rw[<-hb];exact getD_some b0 hi
      obtain⟨c,cL,cD,cA⟩:=b;obtain⟨q1,q2,q3,q4⟩:=uZ _ (List.mem_of_getElem? GO);dsimp only at q1 q2 q3 q4;have Rq:((bO m R).getD i []).length<=1048576:=by have:=B.cl;omega
      have AU:(bI R ((bO m R).getD i [])).length<=1048576:=by have:=B.bl;omega
      rw[ba (d6 (by rw[nl,Lx];omega)),lU (show i<aa ((bO m R).map (pg L R)) by unfold aa;omega)];simp only[ao,gd];rw[show cK ((bO m R).map (pg L R)) i=some ((bO m R).getD i [],L,bI R ((bO m R).getD i []),([]:J)) by
       show((bO m R).map (pg L R))[i]? =_;rw[List.getElem?_map,getD_some ([]:J) G4];rfl]
      simp only[ao];rw[dn,GO];simp only[ao];rw[show Ci ((k,p,w),cL,cD,cA)=some (kF (k,p,w) (cL,cD,cA)) from if_pos ⟨q2,q3,q4⟩]
      simp only[ao];by_cases t2:kF (k,p,w) (cL,cD,cA)=true
      case neg=>
       left;rw[Bool.eq_false_iff.2 t2,ba (b:=cZ false) rfl];simp only[bT,Option.bind];rw[zf hi (zg hj (fun ho=>t2 (by have:=ho.2.1;rw[hb] at this;exact this)))]
      rw[t2,be (b:=cZ true) rfl,show uk (c,(bO m R).getD i [])=some (decide (c=(bO m R).getD i [])) from if_pos ⟨q1,Rq⟩]
      simp only[ao];by_cases t1:c=(bO m R).getD i []
      case neg=>
       left;rw[decide_eq_false t1,ba (b:=cZ false) rfl];simp only[bT,Option.bind];rw[zf hi (zg hj (fun ho=>t1 (by have:=ho.1;rw[hb] at this;exact this)))]
      rw[decide_eq_true t1,be (b:=cZ true) rfl,show uk (cL,L)=some (decide (cL=L)) from if_pos ⟨q2,hL⟩]
      simp only[ao];by_cases t3:cL=L
      case neg=>
       left;rw[decide_eq_false t3,ba (b:=cZ false) rfl];simp only[bT,Option.bind];rw[zf hi (zg hj (fun ho=>t3 (by have:=ho.2.2.1;rw[hb] at this;exact this)))]
      rw[decide_eq_true t3,be (b:=cZ true) rfl];rw[show uk (cD,bI R ((bO m R).getD i []))=some (decide (cD=bI R ((bO m R).getD i []))) from if_pos ⟨q3,AU⟩]
      simp only[ao];by_cases t4:cD=bI R ((bO m R).getD i [])
      case neg=>
       left;rw[decide_eq_false t4,ba (b:=cZ false) rfl];simp only[bT,Option.bind];rw[zf hi (zg hj (fun ho=>t4 (by have:=ho.2.2.2;rw[hb] at this;exact this)))]
      right;have fb:BG (k,p,w) L R ((bO m R).getD i []) (l.getD i b0):=by rw[hb];exact⟨t1,t2,t3,t4⟩
      have oT:=aa6 hj fb;rw[hb] at oT;dsimp only at oT;have RX:=B.pD;have Rn:cA.length=bW (bI R ((bO m R).getD i []))*bc (k,p,w):=by
       obtain⟨_,_,_,_,hX,_⟩:=IJ t2;rw[t4] at hX;exact hX
      have hlen:=MU (L:=L) H fZ Rn hA;rw[decide_eq_true t4,be (b:=cZ true) rfl];rw[show Cj ((L,D,T),(m,R),(bO m R).getD i [],L,bI R ((bO m R).getD i []),([]:J))=some (eD (bW (bI R ((bO m R).getD i []))) fun n=>(fy D R ((bO m R).getD i []) n:Int)) from if_pos ⟨hk,fZ,rfl⟩]
      simp only[bM,ao];rw[fF (fun j=>((l,aA (aa ((bO m R).map (pg L R))),(i:Int),aA (aa (eD (bW (bI R ((bO m R).getD i []))) fun n=>(fy D R ((bO m R).getD i []) n:Int))),(j:Int)),(k,p,w),(L,D,T),(m,R),(c,cL,cD,cA),([]:J),([]:J),([]:J),L,D,mh (k,p,w) D R ((bO m R).getD i []) cA A j,(bO m R).map (pg L R),eD (bW (bI R ((bO m R).getD i []))) fun n=>(fy D R ((bO m R).getD i []) n:Int))) (r:=Sum.inl (((i:Int),l,aA (aa ((bO m R).map (pg L R)))),(k,p,w),(L,D,T),(m,R),([]:J),([]:J),([]:J),L,D,mh (k,p,w) D R ((bO m R).getD i []) cA A (bW (bI R ((bO m R).getD i []))),(bO m R).map (pg L R))) (bW (bI R ((bO m R).getD i []))) ?b1 ?b2 ?b3 (ew (by omega))]
      case b3=>rfl
      case b2=>
       dsimp only
       rw[be (eO (by rw[nl,gA];omega))]
       try simp only[bM,ao]
      case b1=>
       intro j A4;have ho:=H.MI fZ j;have hm:(fy D R ((bO m R).getD i []) j+1)*bc (k,p,w)<=bW D*bc (k,p,w):=Nat.mul_le_mul_right _ ho;have fK:(j+1)*bc (k,p,w)<=bW (bI R ((bO m R).getD i []))*bc (k,p,w):=Nat.mul_le_mul_right _ A4;have hm3:bW D*bc (k,p,w)<=4096*6:=Nat.mul_le_mul Hf hw.2.2;have dW:=hm;rw[Nat.add_mul,Nat.one_mul] at hm fK;have hs:(iM cA (j*bc (k,p,w)) (bc (k,p,w))).length=bc (k,p,w):=by unfold iM;rw[List.length_take,List.length_drop];omega
       have np:=hlen j (by omega);have nq:=hlen (j+1) (by omega);dsimp only
       rw[ba (d6 (by rw[nl,gA];omega)),XL _ A4];simp only[ao,gd];rw[Q9 _ A4];simp only[ao,lP,bM];rw[show Cp ((k,p,w),(L,D,mh (k,p,w) D R ((bO m R).getD i []) cA A j),((fy D R ((bO m R).getD i []) j:Nat):Int))=some (((fy D R ((bO m R).getD i []) j*bc (k,p,w):Nat):Int),(((fy D R ((bO m R).getD i []) j+1)*bc (k,p,w):Nat):Int)) from if_pos ⟨hr,by dsimp only;omega,by dsimp only;rw[np,Int.toNat_natCast];omega,by dsimp only;rw[np];omega⟩]
       simp only[ao];rw[atn (by rw[Nat.add_mul];omega) (by unfold aa;rw[np];omega)];simp only[ao];rw[show(fy D R ((bO m R).getD i []) j+1)*bc (k,p,w) - fy D R ((bO m R).getD i []) j*bc (k,p,w)=bc (k,p,w) by rw[Nat.add_mul];omega];rw[show Cq ((k,p,w),(cL,cD,cA),(j:Int))=some (iM cA (j*bc (k,p,w)) (bc (k,p,w))) from aad t2 (show j<bW cD by rw[t4];exact A4)]
       simp only[ao];rw[List.take_of_length_le (show(iM cA (j*bc (k,p,w)) (bc (k,p,w))).length<=bc (k,p,w) by omega)];rw[show Aq (mh (k,p,w) D R ((bO m R).getD i []) cA A j) (fy D R ((bO m R).getD i []) j*bc (k,p,w)) (bc (k,p,w)) (iM cA (j*bc (k,p,w)) (bc (k,p,w)))=some (mh (k,p,w) D R ((bO m R).getD i []) cA A (j+1)) by
        unfold Aq;rw[if_pos (by rw[np];omega)];rfl]
       simp only[ao];rw[show bn 0 (aa (mh (k,p,w) D R ((bO m R).getD i []) cA A j)) (aa (mh (k,p,w) D R ((bO m R).getD i []) cA A (j+1)))=some () from uU (np.trans nq.symm)]
       simp only[ao];rw[fe (by omega) (by omega)];rfl
      simp only[bT,Option.bind,bM,ao];rw[fe (by omega) (by omega)];exact⟨n,_,by omega,rfl,i+1,_,by omega,oT,rfl⟩
     unfold ze
     try dsimp only
     cases hN:lI (k,p,w) L D R (bO m R) l l.length with
     |none=>simp only[bT,Option.bind]
     |some A=>simp only[bT,Option.bind,iy,ao]
    ·rw[ba (rr (by rw[nl,nl,Lx];omega)),if_neg (fun h=>hl h.2.2)]
 ·cases h
end
def oC (x:J×J×J×J):Nat:=match x with|(a0,a1,a2,a3)=>cU a0+cU a1+cU a2+cU a3
def Oe (x:J×J×J×J):Bool:=match x with|(a0,a1,a2,a3)=>nF a0&&nF a1&&nF a2&&nF a3
def CA:(J×J×J×J)×Int->Option Int:=fun((x,k):(J×J×J×J)×Int)=>if vu k/\Oe x=true then some (gB (oC x) k) else none
def CE:(J×J×J×J)->Option (J×J×J×J):=fun(x:J×J×J×J)=>if oC x<=1048576 then some x else none
def Cu:(J×J×J×J)×(J×J×J×J)->Option Bool:=fun((x,y):(J×J×J×J)×(J×J×J×J))=>if oC x<=1048576 then some (decide (x=y)) else none
def pw (l:List (J×J×J×J)):Nat:=l.length+(l.map oC).sum
def Fv (l:List (J×J×J×J)):Bool:=decide (l.length<=9223372036854775807)&&l.all Oe
def CB:(List (J×J×J×J))×Int->Option Int:=fun((x,k):(List (J×J×J×J))×Int)=>if vu k/\Fv x=true then some (gB (pw x) k) else none
def uo:(List (J×J×J×J))->Option (List (J×J×J×J)):=fun(x:List (J×J×J×J))=>if pw x<=1048576 then some x else none
def x4:(List (J×J×J×J))×(List (J×J×J×J))->Option Bool:=fun((x,y):(List (J×J×J×J))×(List (J×J×J×J)))=>if pw x<=1048576 then some (decide (x=y)) else none
def Aj (x:J×J×J×J):Nat:=match x with|(a0,a1,a2,a3)=>aW a0+aW a1+aW a2+aW a3
def abC (x:J×J×J×J) (k:Int):J×J×J×J:=match x with|(a0,a1,a2,a3)=>(cY a0 (k),cY a1 (k+(aW a0:Nat)),cY a2 (k+(aW a0:Nat)+(aW a1:Nat)),cY a3 (k+(aW a0:Nat)+(aW a1:Nat)+(aW a2:Nat)))
def Gf (l:List (J×J×J×J)):Nat:=iS Aj l
def BB (l:List (J×J×J×J)) (k:Int):List (J×J×J×J):=hH Aj abC l k
def Cw:(List (J×J×J×J))×Int->Option (Int×(List (J×J×J×J))):=fun((x,k):(List (J×J×J×J))×Int)=>if 0<=k/\k+4*(pw x:Nat)<=1099511627776 then some (k+(Gf x:Nat),BB x k) else none
def JG:ak:=[(.agg,[.list [.int .i64],.list [.int .i64],.list [.int .i64],.list [.int .i64]]),(.one,[.int .i64])]
def UK:ak:=[(.one,[.int .i64])]
def aoI:aK:=[]
def JH:ak:=[(.one,[.list [.list [.int .i64],.list [.int .i64],.list [.int .i64],.list [.int .i64]]]),(.one,[.int .i64])]
def UL:ak:=[(.one,[.int .i64])]
def aoJ:aK:=[]
def JM:ak:=[(.agg,[.list [.int .i64],.list [.int .i64],.list [.int .i64],.list [.int .i64]])]
def UQ:ak:=[(.agg,[.list [.int .i64],.list [.int .i64],.list [.int .i64],.list [.int .i64]])]
def aoO:aK:=[]
def JN:ak:=[(.one,[.list [.list [.int .i64],.list [.int .i64],.list [.int .i64],.list [.int .i64]]])]
def UR:ak:=[(.one,[.list [.list [.int .i64],.list [.int .i64],.list [.int .i64],.list [.int .i64]]])]
def aoP:aK:=[]
def Jt:ak:=[(.agg,[.list [.int .i64],.list [.int .i64],.list [.int .i64],.list [.int .i64]]),(.agg,[.list [.int .i64],.list [.int .i64],.list [.int .i64],.list [.int .i64]])]
def Ux:ak:=[(.one,[.bool])]
def aoA:aK:=[]
def Ju:ak:=[(.one,[.list [.list [.int .i64],.list [.int .i64],.list [.int .i64],.list [.int .i64]]]),(.one,[.list [.list [.int .i64],.list [.int .i64],.list [.int .i64],.list [.int .i64]]])]
def Uy:ak:=[(.one,[.bool])]
def aoB:aK:=[]
def JB:ak:=[(.one,[.list [.list [.int .i64],.list [.int .i64],.list [.int .i64],.list [.int .i64]]]),(.one,[.int .i64])]
def UF:ak:=[(.one,[.int .i64]),(.one,[.list [.list [.int .i64],.list [.int .i64],.list [.int .i64],.list [.int .i64]]])]
def Mv:aK:=[[some .live]]
def O1 (NN:Nat):((J×(J×(J×J)))×Int)->(Option Int):=
 (fun(((l0,l1,l2,l3),i4):((J×(J×(J×J)))×Int))=>
 (pH (l0,i4)).ae (fun i5=>
 aw (bG i5 (0:Int))
 (some ((-1:Int)))
 ((x7 ((l1,l2,l3),i5)).ae (fun i6=>
 aw (bG i6 (0:Int))
 (some ((-1:Int)))
 (some i6)))))
def WS (NN:Nat):((List (J×(J×(J×J))))×Int)->(Option Int):=
 (fun((l0,i1):((List (J×(J×(J×J))))×Int))=>
 aw (bG (kf .i64 i1 (aA (aa l0))) (0:Int))
 (some ((-1:Int)))
 (bT (cq NN (fun((l2,i3,i4):((List (J×(J×(J×J))))×(Int×Int)))=>
 aw (bG i4 (aA (aa l2)))
 ((dm l2 i4).ae (fun(l5,l6,l7,l8)=>
 (CA ((l5,l6,l7,l8),i3)).ae (fun i9=>
 aw (bG i9 (0:Int))
 (some (Sum.inr (Sum.inr ((-1:Int)))))
 (some (Sum.inl (l2,i9,cR .i64 i4 1))))))
 (some (Sum.inr (Sum.inl i3))))
 (l0,kf .i64 i1 (aA (aa l0)),(0:Int)))
 (fun kQ=>
 some kQ)))
def O5 (NN:Nat):(J×(J×(J×J)))->(Option (J×(J×(J×J)))):=
 (fun((l0,l1,l2,l3):(J×(J×(J×J))))=>
 (rN l0).ae (fun l4=>
 (rO (l1,l2,l3)).ae (fun(l5,l6,l7)=>
 (dN l4 (aa l4)).ae (fun l8=>
 (dN l5 (aa l5)).ae (fun l9=>
 (dN l6 (aa l6)).ae (fun e7=>
 (dN l7 (aa l7)).ae (fun fQ=>
 some (l8,l9,e7,fQ))))))))
def O6 (NN:Nat):(List (J×(J×(J×J))))->(Option (List (J×(J×(J×J))))):=
 (fun(l0:(List (J×(J×(J×J)))))=>
 (lc (aA (aa l0)) (aA (aa l0)) 96).ae (fun k1=>
 bT ((bn 0 k1 (aa (dG k1 (([]:J),([]:J),([]:J),([]:J))))).ae (fun _=>
 cq NN (fun(((l2,i3),l4):(((List (J×(J×(J×J))))×Int)×(List (J×(J×(J×J))))))=>
 aw (bG i3 (aA (aa l2)))
 ((dm l2 i3).ae (fun(l5,l6,l7,l8)=>
 (CE (l5,l6,l7,l8)).ae (fun(l9,e7,fQ,eR)=>
 (eY i3 (aa l4)).ae (fun SP=>
 (cK l4 (aI 0 SP)).ae (fun(ff,eU,g0,fj)=>
 (dN l9 (aa l9)).ae (fun fR=>
 (dN e7 (aa e7)).ae (fun fS=>
 (dN fQ (aa fQ)).ae (fun re=>
 (dN eR (aa eR)).ae (fun od=>
 (bn 0 (aa l4) (aa (cg l4 (aI 0 SP) (fR,fS,re,od)))).ae (fun _=>
 some (Sum.inl ((l2,cR .i64 i3 1),cg l4 (aI 0 SP) (fR,fS,re,od)))))))))))))
 ((ar l4 (
 some (Sum.inl l4))).ae (fun jp=>
 some (Sum.inr jp))))
 ((l0,(0:Int)),dG k1 (([]:J),([]:J),([]:J),([]:J)))))
 (fun mP=>
 (dN mP (aa mP)).ae (fun kS=>
 some kS))))
def OR (NN:Nat):((J×(J×(J×J)))×(J×(J×(J×J))))->(Option Bool):=
 (fun(((l0,l1,l2,l3),l4,l5,l6,l7):((J×(J×(J×J)))×(J×(J×(J×J)))))=>
 (rM (l0,l4)).ae (fun b8=>
 aw (cZ b8)
 (some false)
 ((pG ((l1,l2,l3),l5,l6,l7)).ae (fun b9=>
 aw (cZ b9)
 (some false)
 (some true)))))
def WO (NN:Nat):((List (J×(J×(J×J))))×(List (J×(J×(J×J)))))->(Option Bool):=
 (fun((l0,l1):((List (J×(J×(J×J))))×(List (J×(J×(J×J))))))=>
 aw (fL (aA (aa l0)) (aA (aa l1)))
 (some false)
 (bT (cq NN (fun((l2,l3,i4):((List (J×(J×(J×J))))×((List (J×(J×(J×J))))×Int)))=>
 aw (bG i4 (aA (aa l2)))
 ((dm l2 i4).ae (fun(l5,l6,l7,l8)=>
 (dm l3 i4).ae (fun(l9,e7,fQ,eR)=>
 (Cu ((l5,l6,l7,l8),l9,e7,fQ,eR)).ae (fun FZ=>
 aw (cZ FZ)
 (some (Sum.inr (Sum.inr false)))
 (some (Sum.inl (l2,l3,cR .i64 i4 1)))))))
 (some (Sum.inr (Sum.inl ()))))
 (l0,l1,(0:Int)))
 (fun _=>
 some true)))
def OW (NN:Nat):((List (J×(J×(J×J))))×Int)->(Option (Int×(List (J×(J×(J×J)))))):=
 (fun((l0,i1):((List (J×(J×(J×J))))×Int))=>
 bT (ar l0 (
 cq NN (fun(((i2,i3),l4):((Int×Int)×(List (J×(J×(J×J))))))=>
 aw (bG i3 (aA (aa l4)))
 ((eY i3 (aa l4)).ae (fun k5=>
 (cK l4 (aI 0 k5)).ae (fun(l6,l7,l8,l9)=>
 (cK l4 (aI 0 k5)).ae (fun(e7,fQ,eR,gm)=>
 (lx (e7,i2)).ae (fun(pT,eU)=>
 (cK l4 (aI 0 k5)).ae (fun(g0,fj,fR,fS)=>
 (eY i3 (aa l4)).ae (fun q9=>
 (cK (cg l4 (aI 0 k5) (eU,fj,fR,fS)) (aI 0 q9)).ae (fun(od,jp,mP,kS)=>
 (cK (cg l4 (aI 0 k5) (eU,fj,fR,fS)) (aI 0 q9)).ae (fun(ky,kz,lJ,ir)=>
 (lx (kz,pT)).ae (fun(Hq,gx)=>
 (cK (cg l4 (aI 0 k5) (eU,fj,fR,fS)) (aI 0 q9)).ae (fun(gR,ig,iu,iv)=>
 (eY i3 (aa l4)).ae (fun vt=>
 (cK (cg (cg l4 (aI 0 k5) (eU,fj,fR,fS)) (aI 0 q9) (gR,gx,iu,iv)) (aI 0 vt)).ae (fun(oe,oh,zi,tT)=>
 (cK (cg (cg l4 (aI 0 k5) (eU,fj,fR,fS)) (aI 0 q9) (gR,gx,iu,iv)) (aI 0 vt)).ae (fun(rf,vB,tU,xm)=>
 (lx (tU,Hq)).ae (fun(So,ot)=>
 (cK (cg (cg l4 (aI 0 k5) (eU,fj,fR,fS)) (aI 0 q9) (gR,gx,iu,iv)) (aI 0 vt)).ae (fun(jH,nA,jq,sE)=>
 (eY i3 (aa l4)).ae (fun HB=>
 (cK (cg (cg (cg l4 (aI 0 k5) (eU,fj,fR,fS)) (aI 0 q9) (gR,gx,iu,iv)) (aI 0 vt) (jH,nA,ot,sE)) (aI 0 HB)).ae (fun(Bv,HI,HJ,zj)=>
 (cK (cg (cg (cg l4 (aI 0 k5) (eU,fj,fR,fS)) (aI 0 q9) (gR,gx,iu,iv)) (aI 0 vt) (jH,nA,ot,sE)) (aI 0 HB)).ae (fun(o6,xn,rh,qa)=>
 (lx (qa,So)).ae (fun(Sq,qb)=>
 (cK (cg (cg (cg l4 (aI 0 k5) (eU,fj,fR,fS)) (aI 0 q9) (gR,gx,iu,iv)) (aI 0 vt) (jH,nA,ot,sE)) (aI 0 HB)).ae (fun(j5,kA,o8,sF)=>
 (bn 0 (aa l4) (aa (cg (cg (cg (cg l4 (aI 0 k5) (eU,fj,fR,fS)) (aI 0 q9) (gR,gx,iu,iv)) (aI 0 vt) (jH,nA,ot,sE)) (aI 0 HB) (j5,kA,o8,qb)))).ae (fun _=>
 some (Sum.inl ((Sq,cR .i64 i3 1),cg (cg (cg (cg l4 (aI 0 k5) (eU,fj,fR,fS)) (aI 0 q9) (gR,gx,iu,iv)) (aI 0 vt) (jH,nA,ot,sE)) (aI 0 HB) (j5,kA,o8,qb)))))))))))))))))))))))))
 (some (Sum.inr (Sum.inl (i2,l4)))))
 ((i1,(0:Int)),l0)))
 (fun(Sr,kU)=>
 (kE (aa kU) (aa l0)).ae (fun _=>
 some (Sr,kU))))
theorem aj5 (x:(J×J×J×J)×Int) (y:Int) (h:CA x=some y):O1 aP x=some y:=by
 obtain⟨⟨a0,a1,a2,a3⟩,k⟩:=x;simp only[CA] at h;split at h
 ·rename_i hc;obtain⟨⟨k0,k1⟩,hw⟩:=hc;simp only[Oe,Bool.and_eq_true] at hw;rw[<-h];simp only[O1];have ez:f9 (a1,a2,a3)=cU a1+cU a2+cU a3:=rfl;rw[Fj (o:=pH (a0,k)) (s:=cU a0) (if_pos ⟨by constructor<;>omega,hw.1.1.1⟩)]
  by_cases c0:((cU a0:Nat):Int)<=k
  ·rw[if_pos c0];rw[Fj (o:=x7 ((a1,a2,a3),k - cU a0)) (s:=f9 (a1,a2,a3)) (if_pos ⟨by constructor<;>omega,by simp only[Fx,Bool.and_eq_true];exact⟨⟨hw.1.1.2,hw.1.2⟩,hw.2⟩⟩)]
   by_cases c1:((f9 (a1,a2,a3):Nat):Int)<=k - cU a0
   ·rw[if_pos c1];show _=some (gB (cU a0+cU a1+cU a2+cU a3) k);rw[NW (by omega)];exact congrArg some (by omega)
   ·rw[if_neg c1];show _=some (gB (cU a0+cU a1+cU a2+cU a3) k);rw[Cb (by omega)]
  ·rw[if_neg c0];show _=some (gB (cU a0+cU a1+cU a2+cU a3) k);rw[Cb (by omega)]
 ·cases h
theorem akb (x y:J×J×J×J) (h:CE x=some y):O5 aP x=some y:=by
 obtain⟨a0,a1,a2,a3⟩:=x;simp only[CE] at h;split at h
 ·rename_i hl;rw[<-h];simp only[oC] at hl;simp only[O5,rN,rO,if_pos (show cU a0<=1048576 by omega),if_pos (show f9 (a1,a2,a3)<=1048576 from(by show cU a1+cU a2+cU a3<=1048576;omega)),bk,iy]
 ·cases h
theorem ajS (x:(J×J×J×J)×(J×J×J×J)) (y:Bool) (h:Cu x=some y):OR aP x=some y:=by
 obtain⟨⟨a0,a1,a2,a3⟩,b0,b1,b2,b3⟩:=x;simp only[Cu] at h;split at h
 ·rename_i hl;rw[<-h];simp only[oC] at hl;simp only[OR,rM,pG,if_pos (show cU a0<=1048576 by omega),if_pos (show f9 (a1,a2,a3)<=1048576 from(by show cU a1+cU a2+cU a3<=1048576;omega)),bk]
  by_cases e0:a0=b0<;>by_cases e1:a1=b1<;>by_cases e2:a2=b2<;>by_cases e3:a3=b3<;>simp[MC,cZ,aw, *]
 ·cases h
theorem aj6 (x:(List (J×J×J×J))×Int) (y:Int) (h:CB x=some y):WS aP x=some y:=by
 obtain⟨l,k⟩:=x;simp only[CB] at h;split at h
 ·rename_i hc;obtain⟨hk,hw⟩:=hc;unfold Fv at hw;rw[Bool.and_eq_true,decide_eq_true_eq,List.all_eq_true] at hw;rw[<-h];exact agE CA oC l hw.1 (fun e he k hk=>if_pos ⟨hk,hw.2 e he⟩) k hk
 ·cases h
theorem We {l:List (J×J×J×J)} (h:pw l<=1048576):l.length<=1048576/\∀e∈l,oC e<=1048576:=by
 unfold pw at h;refine⟨by omega,fun e he=>?_⟩;have:=S4 (List.mem_map_of_mem (f:=oC) he);omega
theorem akc (x y:List (J×J×J×J)) (h:uo x=some y):O6 aP x=some y:=by
 simp only[uo] at h;split at h
 ·rename_i hl;injection h with h;subst h;obtain⟨hl,hm⟩:=We hl;simp only[O6,qh (n:=aa x) (by_:=96) (by simp only[aa,dX];omega),bk,qf,bM,ar];rw[QJ x ([],[],[],[]) (r:=Sum.inl x) ?_ ?_ (by omega)]
  ·simp only[mO,iy,bk]
  ·rintro i ⟨a0,a1,a2,a3⟩ ys he hy hi;simp only
   rw[ba (kB he),dn,he,bk];simp only[CE,if_pos (hm _ (List.mem_of_getElem? he)),Db hi,bk,gd,cK,hi,iy,zn,bM,nC he (by omega)];rfl
  ·simp only
   rw[be (g9 x)]
 ·cases h
theorem ajT (x:(List (J×J×J×J))×(List (J×J×J×J))) (y:Bool) (h:x4 x=some y):WO aP x=some y:=by
 obtain⟨a,b⟩:=x;simp only[x4] at h;split at h
 ·rename_i hl;rw[<-h];obtain⟨hl,hm⟩:=We hl;exact Qy Cu a b (fun e he b=>show(if oC e<=1048576 then some (decide (e=b)) else none)=_ from if_pos (hm e he)) (by omega)
 ·cases h
theorem aiH (x:List (J×J×J×J)) (h:pw x<=1048576):x4 (x,x)=some true:=by
 have:=show x4 (x,x)=if pw x<=1048576 then some (decide (x=x)) else none from rfl
 rw[this,if_pos h,decide_eq_true rfl]
theorem at3 (x:List (J×J×J×J)) (h:pw x<=1048576):uo x=some x:=if_pos h
theorem Xy (x:J×J×J×J):Aj x<=4*(1+oC x):=by
 obtain⟨a0,a1,a2,a3⟩:=x;have h0:=jV a0;have h1:=jV a1;have h2:=jV a2;have h3:=jV a3;simp only[Aj,oC];omega
theorem agB (l:List (J×J×J×J)):pw l=l.length+(l.map oC).sum:=by
 rfl
theorem ahP (l:List (J×J×J×J)):Gf l<=4*pw l:=by
 rw[agB];exact Ge Aj oC Xy l
theorem abp (l:List (J×J×J×J)) (k:Int):(BB l k).length=l.length:=Ev _ _ _ _
theorem aj0 (x:(List (J×J×J×J))×Int) (y:Int×(List (J×J×J×J))) (h:Cw x=some y):OW aP x=some y:=by
 obtain⟨l,k⟩:=x;simp only[Cw] at h;split at h
 ·rename_i hc;obtain⟨hk,hb⟩:=hc;rw[agB] at hb;rw[<-h];simp only[OW,bM,bk,ar];rw[Tj l Aj oC abC k (r:=Sum.inl (k+(Gf l:Nat),BB l k)) Xy hk hb ?_ ?_]
  ·rw[mO];simp only
   rw[xL (show aa (BB l k)=aa l from abp l k),bk]
  ·rintro i ⟨a0,a1,a2,a3⟩ ys k' he hy hi h0 hM;have GW:cK ys i=some (a0,a1,a2,a3):=hi;simp only
   rw[ba (kB hi),nC hi (by omega)];simp only[Db hi,bk,gd,GW,zn,bM];have Xw:=jV a0;have P5:=jV a1;have Xx:=jV a2;have auA:=jV a3;simp only[oC] at hM;have E0:lx (a0,k')=some (k'+(aW a0:Nat),cY a0 (k')):=if_pos ⟨by omega,by omega⟩;have E1:lx (a1,k'+(aW a0:Nat))=some (k'+(aW a0:Nat)+(aW a1:Nat),cY a1 (k'+(aW a0:Nat))):=if_pos ⟨by omega,by omega⟩;have E2:lx (a2,k'+(aW a0:Nat)+(aW a1:Nat))=some (k'+(aW a0:Nat)+(aW a1:Nat)+(aW a2:Nat),cY a2 (k'+(aW a0:Nat)+(aW a1:Nat))):=if_pos ⟨by omega,by omega⟩;have E3:lx (a3,k'+(aW a0:Nat)+(aW a1:Nat)+(aW a2:Nat))=some (k'+(aW a0:Nat)+(aW a1:Nat)+(aW a2:Nat)+(aW a3:Nat),cY a3 (k'+(aW a0:Nat)+(aW a1:Nat)+(aW a2:Nat))):=if_pos ⟨by omega,by omega⟩;simp only[E0,E1,E2,E3,bk,Ld hi,VE,zn,bM];refine congrArg some (congrArg Sum.inl (Prod.ext (Prod.ext ?_ rfl) rfl));simp only[Aj];omega
  ·simp only
   rw[be (eO (by have:=abp l k;have h2:=nl (BB l k);unfold BB at this h2;omega))];rfl
 ·cases h
theorem atS {l:List Bk} (h:pw l<=1048576):l.length<=1048576/\∀b∈l,b.1.length<=1048576/\b.2.1.length<=1048576/\b.2.2.1.length<=1048576/\b.2.2.2.length<=1048576:=by
 obtain⟨h1,h2⟩:=We h;refine⟨h1,fun b hb=>?_⟩;obtain⟨c,cL,cD,cA⟩:=b;have h3:=h2 _ hb;have h3:c.length+cL.length+cD.length+cA.length<=1048576:=h3;dsimp only
 omega
theorem aiN (r:Int×Int×Int) (t:J×J×J) (c:Int×List J) (l:List (J×J×J×J)) (h1:f9 t<=1048576) (h2:lg c<=1048576) (h3:pw l<=1048576):∃r0 r1,yb (r,t,c,l)=some (r0,r1)/\z4 (r,t,c,l)=some (r0,r1)/\f9 r0<=1048576:=by
 obtain⟨L,D,T⟩:=t;obtain⟨m,R⟩:=c;have h1:L.length+D.length+T.length<=1048576:=h1;have h2:=Wg (l:=R) h2;have hd:L3 (r,(L,D,T),(m,R),l):=⟨⟨⟨by show L.length<=_;omega,by show D.length<=_;omega⟩,h2.1,h2.2⟩,atS h3⟩;refine⟨(Eg r (L,D,T) (m,R) l).1,(Eg r (L,D,T) (m,R) l).2,if_pos hd,if_pos hd,?_⟩;unfold Eg;split
 ·rename_i hg;obtain⟨hr,hk,hl⟩:=hg;have H:=F8 hk;have hw:=rK hr;split
  ·rename_i A hA;have hlen:=L4 H hr hl l.length A (Nat.le_refl _) hA;have hm:bW D*bc r<=4096*6:=Nat.mul_le_mul H.p4 hw.2.2;have hD:=H.eR;have hLl:L.length<=12:=by
    simp only[m7,Bool.and_eq_true,decide_eq_true_eq] at hk;by_cases ha:pL L D=true/\eC D<=4096
    ·exact(yq ha.1).1
    ·have e:ga L D= -1:=if_neg ha;rw[e] at hk;exact absurd hk.1 (by decide)
   show L.length+D.length+A.length<=1048576;omega
  ·decide
 ·decide
def IY:(Int×Int×Int)×(J×J×J)×(Int×(List J))×(List (J×J×J×J))->Option Bool:=fun((a0,a1,a2,a3):(Int×Int×Int)×(J×J×J)×(Int×(List J))×(List (J×J×J×J)))=>if(Fx a1&&IW a2&&Fv a3)=true then some true else none
def yl:ak:=[(.agg,[.int .i64,.int .i64,.int .i64]),(.agg,[.list [.int .i64],.list [.int .i64],.list [.int .i64]]),(.agg,[.int .i64,.list [.list [.int .i64]]]),(.one,[.list [.list [.int .i64],.list [.int .i64],.list [.int .i64],.list [.int .i64]]])]
def Uw:ak:=[(.one,[.bool])]
def aoz:aK:=[]
def OQ (NN:Nat):((Int×(Int×Int))×((J×(J×J))×((Int×(List J))×(List (J×(J×(J×J)))))))->(Option Bool):=
 (fun(((i0,i1,i2),(l3,l4,l5),(i6,l7),l8):((Int×(Int×Int))×((J×(J×J))×((Int×(List J))×(List (J×(J×(J×J))))))))=>
 (x7 ((l3,l4,l5),(1048576:Int))).ae (fun i9=>
 aw (bG i9 (0:Int))
 (some true)
 ((CC ((i6,l7),i9)).ae (fun kQ=>
 aw (bG kQ (0:Int))
 (some true)
 ((CB (l8,kQ)).ae (fun j3=>
 aw (bG j3 (0:Int))
 (some true)
 ((z6 (i0,i1,i2)).ae (fun(jb,nv,pT)=>
 (rO (l3,l4,l5)).ae (fun(eU,g0,fj)=>
 (uq (i6,l7)).ae (fun(n9,fS)=>
 (uo l8).ae (fun re=>
 (cr eU 0 (aa eU)).ae (fun od=>
 (cr g0 0 (aa g0)).ae (fun jp=>
 (cr fj 0 (aa fj)).ae (fun mP=>
 (cr fS 0 (aa fS)).ae (fun kS=>
 (cr re 0 (aa re)).ae (fun ky=>
 (yb ((jb,nv,pT),(od,jp,mP),(n9,kS),ky)).ae (fun((kz,lJ,ir),PT)=>
 (rO (l3,l4,l5)).ae (fun(gx,gR,ig)=>
 (uq (i6,l7)).ae (fun(Sm,iv)=>
 (uo l8).ae (fun kT=>
 (z6 (i0,i1,i2)).ae (fun(i36,i37,LN)=>
 (cr gx 0 (aa gx)).ae (fun tT=>
 (cr gR 0 (aa gR)).ae (fun rf=>
 (cr ig 0 (aa ig)).ae (fun vB=>
 (cr iv 0 (aa iv)).ae (fun tU=>
 (cr kT 0 (aa kT)).ae (fun xm=>
 (z4 ((i36,i37,LN),(tT,rf,vB),(Sm,tU),xm)).ae (fun((p9,ot,jH),Kn)=>
 (cr p9 0 (aa p9)).ae (fun jq=>
 (cr ot 0 (aa ot)).ae (fun sE=>
 (cr jH 0 (aa jH)).ae (fun l50=>
 (cr kz 0 (aa kz)).ae (fun Bv=>
 (cr lJ 0 (aa lJ)).ae (fun HI=>
 (cr ir 0 (aa ir)).ae (fun HJ=>
 (pG ((jq,sE,l50),Bv,HI,HJ)).ae (fun b54=>
 aw (cZ b54)
 (some false)
 (aw (HP Kn PT)
 (some false)
 ((rO (l3,l4,l5)).ae (fun(o6,xn,rh)=>
 (cr gx 0 (aa gx)).ae (fun qa=>
 (cr gR 0 (aa gR)).ae (fun o7=>
 (cr ig 0 (aa ig)).ae (fun qb=>
 (cr o6 0 (aa o6)).ae (fun j5=>
 (cr xn 0 (aa xn)).ae (fun kA=>
 (cr rh 0 (aa rh)).ae (fun o8=>
 (pG ((qa,o7,qb),j5,kA,o8)).ae (fun b64=>
 aw (cZ b64)
 (some false)
 ((uq (i6,l7)).ae (fun(Sr,kU)=>
 (cr iv 0 (aa iv)).ae (fun o9=>
 (cr kU 0 (aa kU)).ae (fun sG=>
 (x5 ((Sm,o9),Sr,sG)).ae (fun b69=>
 aw (cZ b69)
 (some false)
 ((uo l8).ae (fun jc=>
 (cr kT 0 (aa kT)).ae (fun j6=>
 (cr jc 0 (aa jc)).ae (fun xo=>
 (x4 (j6,xo)).ae (fun b73=>
 aw (cZ b73)
 (some false)
 (ar gx (
 ar gR (
 ar ig (
 (x6 ((gx,gR,ig),(1:Int))).ae (fun(i74,El,Bw,xq)=>
 ar iv (
 (Cx ((Sm,iv),i74)).ae (fun(Su,zk)=>
 ar kT (
 (Cw (kT,Su)).ae (fun(Hr,tV)=>
 aw (bG Hr (0:Int))
 (some false)
 ((cr p9 0 (aa p9)).ae (fun vC=>
 (cr ot 0 (aa ot)).ae (fun tW=>
 (cr jH 0 (aa jH)).ae (fun mQ=>
 (cr kz 0 (aa kz)).ae (fun Em=>
 (cr lJ 0 (aa lJ)).ae (fun tY=>
 (cr ir 0 (aa ir)).ae (fun zm=>
 (pG ((vC,tW,mQ),Em,tY,zm)).ae (fun b88=>
 aw (cZ b88)
 (some false)
 (aw (HP Kn PT)
 (some false)
 (ar p9 (
 ar ot (
 ar jH (
 (x6 ((p9,ot,jH),(1:Int))).ae (fun(xj,tZ,xt,sH)=>
 (cr tZ 0 (aa p9)).ae (fun kV=>
 (cr xt 0 (aa ot)).ae (fun ou=>
 (cr sH 0 (aa jH)).ae (fun HK=>
 (vZ ((kV,ou,HK),(1:Int))).ae (fun y7=>
 aw (bG y7 (0:Int))
 (some false)
 (aw (fL y7 xj)
 (some false)
 ((z6 (i0,i1,i2)).ae (fun(Sx,Sy,i99)=>
 (rO (l3,l4,l5)).ae (fun(tR,ra,vz)=>
 (uq (i6,l7)).ae (fun(alU,Bp)=>
 (uo l8).ae (fun Ej=>
 (cr tR 0 (aa tR)).ae (fun Bq=>
 (cr ra 0 (aa ra)).ae (fun zh=>
 (cr vz 0 (aa vz)).ae (fun vA=>
 (cr Bp 0 (aa Bp)).ae (fun Br=>
 (cr Ej 0 (aa Ej)).ae (fun xk=>
 (z4 ((Sx,Sy,i99),(Bq,zh,vA),(alU,Br),xk)).ae (fun((rb,tS,xl),ahD)=>
 (cr rb 0 (aa rb)).ae (fun Ek=>
 (cr tS 0 (aa tS)).ae (fun S1=>
 (cr xl 0 (aa xl)).ae (fun anC=>
 (cr kz 0 (aa kz)).ae (fun anD=>
 (cr lJ 0 (aa lJ)).ae (fun L8=>
 (cr ir 0 (aa ir)).ae (fun anE=>
 (pG ((Ek,S1,anC),anD,L8,anE)).ae (fun ahE=>
 aw (cZ ahE)
 (some false)
 (aw (HP ahD PT)
 (some false)
 ((cr tZ 0 (aa p9)).ae (fun L9=>
 (cr xt 0 (aa ot)).ae (fun Ma=>
 (cr sH 0 (aa jH)).ae (fun Mb=>
 (vZ ((L9,Ma,Mb),(1:Int))).ae (fun Hm=>
 aw (bG Hm (0:Int))
 (some false)
 (aw (fL Hm xj)
 (some false)
 (some true))))))))))))))))))))))))))))))))))))))))))))))))))))))))))))))))))))))))))))))))))))))))))))))))))))))))))))
theorem ajR (x:(Int×Int×Int)×(J×J×J)×(Int×(List J))×(List (J×J×J×J))) (y:Bool) (h:IY x=some y):OQ aP x=some y:=by
 obtain⟨⟨ahm,ahn,aho⟩,⟨jg,jz,jU⟩,⟨tp,mC⟩,a3⟩:=x;simp only[IY,Bool.and_eq_true] at h;split at h
 ·rename_i hw;rw[<-h];simp only[OQ,ar];rw[Wc (o:=x7 ((jg,jz,jU),1048576)) (s:=f9 (jg,jz,jU)) (if_pos ⟨by constructor<;>omega,hw.1.1⟩)]
  by_cases c0:((f9 (jg,jz,jU):Nat):Int)<=1048576
  case neg=>rw[if_neg c0]
  rw[if_pos c0];rw[Wc (o:=CC ((tp,mC),1048576 - (f9 (jg,jz,jU):Nat))) (s:=lg (tp,mC)) (if_pos ⟨by constructor<;>omega,hw.1.2⟩)]
  by_cases c1:((lg (tp,mC):Nat):Int)<=1048576 - (f9 (jg,jz,jU):Nat)
  case neg=>rw[if_neg c1]
  rw[if_pos c1];rw[Wc (o:=CB (a3,1048576 - (f9 (jg,jz,jU):Nat) - (lg (tp,mC):Nat))) (s:=pw a3) (if_pos ⟨by constructor<;>omega,hw.2⟩)]
  by_cases c2:((pw a3:Nat):Int)<=1048576 - (f9 (jg,jz,jU):Nat) - (lg (tp,mC):Nat)
  case neg=>rw[if_neg c2]
  rw[if_pos c2];obtain⟨r0,r1,hs,hi,z0⟩:=aiN (ahm,ahn,aho) (jg,jz,jU) (tp,mC) a3 (by omega) (by omega) (by omega);obtain⟨jK,mq,qn⟩:=r0;have t1:rO (jg,jz,jU)=some (jg,jz,jU):=at5 _ (by omega);have q1:pG ((jg,jz,jU),(jg,jz,jU))=some true:=Yn _ (by omega);have:=jV jg;have:=jV jz;have:=jV jU;have t2:uq (tp,mC)=some (tp,mC):=at4 _ (by omega);have q2:x5 ((tp,mC),(tp,mC))=some true:=aiI _ (by omega);have:=Xv mC;have t3:uo a3=some a3:=at3 _ (by omega);have q3:x4 (a3,a3)=some true:=aiH _ (by omega);have:=ahP a3;have w0:pG ((jK,mq,qn),(jK,mq,qn))=some true:=Yn _ (by omega);have:=jV jK;have:=jV mq;have:=jV qn;simp only[f9,lg] at*
  have m1:x6 ((jg,jz,jU),(1:Int))=some ((1:Int)+(aW jg:Nat)+(aW jz:Nat)+(aW jU:Nat),cY jg ((1:Int)),cY jz ((1:Int)+(aW jg:Nat)),cY jU ((1:Int)+(aW jg:Nat)+(aW jz:Nat))):=if_pos ⟨by omega,by(try simp only[f9,lg]);omega⟩
  have m2:Cx ((tp,mC),(1:Int)+(aW jg:Nat)+(aW jz:Nat)+(aW jU:Nat))=some ((1:Int)+(aW jg:Nat)+(aW jz:Nat)+(aW jU:Nat)+(uM mC:Nat),vG mC ((1:Int)+(aW jg:Nat)+(aW jz:Nat)+(aW jU:Nat))):=if_pos ⟨by omega,by(try simp only[f9,lg]);omega⟩
  have m3:Cw (a3,(1:Int)+(aW jg:Nat)+(aW jz:Nat)+(aW jU:Nat)+(uM mC:Nat))=some ((1:Int)+(aW jg:Nat)+(aW jz:Nat)+(aW jU:Nat)+(uM mC:Nat)+(Gf a3:Nat),BB a3 ((1:Int)+(aW jg:Nat)+(aW jz:Nat)+(aW jU:Nat)+(uM mC:Nat))):=if_pos ⟨by omega,by(try simp only[f9,lg]);omega⟩
  have k0:bG ((1:Int)+(aW jg:Nat)+(aW jz:Nat)+(aW jU:Nat)+(uM mC:Nat)+(Gf a3:Nat)) 0=false:=eO (by omega);have n0:x6 ((jK,mq,qn),(1:Int))=some ((1:Int)+(aW jK:Nat)+(aW mq:Nat)+(aW qn:Nat),cY jK ((1:Int)),cY mq ((1:Int)+(aW jK:Nat)),cY qn ((1:Int)+(aW jK:Nat)+(aW mq:Nat))):=if_pos ⟨by omega,by(try simp only[f9,lg]);omega⟩
  have d0:vZ ((cY jK ((1:Int)),cY mq ((1:Int)+(aW jK:Nat)),cY qn ((1:Int)+(aW jK:Nat)+(aW mq:Nat))),(1:Int))=some ((1:Int)+(aW jK:Nat)+(aW mq:Nat)+(aW qn:Nat)):=ak3 (jK,mq,qn) ((1:Int)) ⟨by omega,by(try simp only[f9,lg]);omega⟩
  have kk0:bG ((1:Int)+(aW jK:Nat)+(aW mq:Nat)+(aW qn:Nat)) 0=false:=eO (by omega);have an0:cr (cY jK ((1:Int))) 0 (aa jK)=some (cY jK ((1:Int))):=WC (zo jK ((1:Int)));have an1:cr (cY mq ((1:Int)+(aW jK:Nat))) 0 (aa mq)=some (cY mq ((1:Int)+(aW jK:Nat))):=WC (zo mq ((1:Int)+(aW jK:Nat)));have an2:cr (cY qn ((1:Int)+(aW jK:Nat)+(aW mq:Nat))) 0 (aa qn)=some (cY qn ((1:Int)+(aW jK:Nat)+(aW mq:Nat))):=WC (zo qn ((1:Int)+(aW jK:Nat)+(aW mq:Nat)));simp only[at2,bk,iy,lP,bM,hs,hi,ac5,KC,aqz,aqA,t1,q1,t2,q2,t3,q3,w0,m1,m2,m3,k0,n0,d0,kk0,an0,an1,an2]
 ·cases h
end Go.Am
