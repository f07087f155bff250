/- M11, M22, M6, M7, M8, M9, M23, M24, M25, M31, Fm, M14, M15, M16, M17, M19, M33, M32, M34, M62, M64, M36, M18, M38, M48, M49, M50, M51, M52, M12, M20, M21, M53, M56, M65, M66, M94, M95, M96, MTB: parts of the proof. No condition. -/
import Derived.Test.YthildlkhnnogiaaM5
import Derived.Lib.BitFns
set_option linter.unusedVariables false
set_option linter.unusedSimpArgs false
set_option linter.unusedSectionVars false
set_option synthInstance.maxSize 1000
set_option synthInstance.maxHeartbeats 400000
namespace Go.Am
def gv (l:J) (v:Int):Nat:=l.findIdx fun a=>decide (a=v)
def z4 (l:J) (v:Int):Int:=if gv l v<l.length then(gv l v:Int) else -1
def zw:J×Int->Option Int:=fun(x:J×Int)=>if x.1.length<=1048576 then some (z4 x.1 x.2) else none
def vk:J×Int->Option Bool:=fun(x:J×Int)=>if x.1.length<=1048576 then some (decide (x.2∈x.1)) else none
def Ck (L D:J) (j:Nat):Prop:=(0<=L.getD j 0/\L.getD j 0<=99)/\(1<=D.getD j 0/\D.getD j 0<=8)/\L.getD j 0∉L.take j
instance (L D:J) (j:Nat):Decidable (Ck L D j):=by unfold Ck;infer_instance
def oD (L D:J):Bool:=decide (L.length<=12)&&(decide (L.length=D.length)&&decide (∀j,j<L.length->Ck L D j))
def fS (L D:J):Int:=if oD L D=true/\eo D<=4096 then eo D else -1
def B2:J×J->Option Bool:=fun(x:J×J)=>if x.1.length<=1048576/\x.2.length<=1048576 then some (oD x.1 x.2) else none
def tV:J×J×J->Option Int:=fun(x:J×J×J)=>if x.1.length<=1048576/\x.2.1.length<=1048576 then some (fS x.1 x.2.1) else none
def xl:J×J×J->Option Int:=tV
def Fg (m:Int) (D:J) (R:List J) (j:Nat):Prop:=((R.getD j []).length:Int)=D.getD j 0/\rb m (R.getD j [])=true
instance (m:Int) (D:J) (R:List J) (j:Nat):Decidable (Fg m D R j):=by unfold Fg;infer_instance
def jP (x:(J×J×J)×Int×List J):Bool:=
 decide (0<=fS x.1.1 x.1.2.1)&&(decide (1<=x.2.1/\x.2.1<=12)&&(decide (x.2.2.length=x.1.2.1.length)&&decide (∀j,j<x.2.2.length->Fg x.2.1 x.1.2.1 x.2.2 j)))
def JQ (x:(J×J×J)×Int×List J):Prop:=(x.1.1.length<=1048576/\x.1.2.1.length<=1048576)/\x.2.2.length<=1048576/\∀l∈x.2.2,l.length<=1048576
instance (x:(J×J×J)×Int×List J):Decidable (JQ x):=by unfold JQ;infer_instance
def xq:(J×J×J)×Int×List J->Option Bool:=fun(x:(J×J×J)×Int×List J)=>if JQ x then some (jP x) else none
def BD:(J×J×J)×Int×List J->Option Bool:=xq
def Jr:ak:=[(.one,[.list [.int .i64]]),(.one,[.int .i64])]
def Uz:ak:=[(.one,[.int .i64])]
def aoR:aM:=[]
def Jp:ak:=[(.one,[.list [.int .i64]]),(.one,[.list [.int .i64]])]
def Ux:ak:=[(.one,[.bool])]
def aoP:aM:=[]
def Jk:ak:=[(.agg,[.list [.int .i64],.list [.int .i64],.list [.int .i64]])]
def Ur:ak:=[(.one,[.int .i64])]
def aoK:aM:=[]
def Je:ak:=[(.agg,[.list [.int .i64],.list [.int .i64],.list [.int .i64]]),(.agg,[.int .i64,.list [.list [.int .i64]]])]
def Ul:ak:=[(.one,[.bool])]
def aoE:aM:=[]
def Iz:ak:=[(.one,[.list [.int .i64]]),(.one,[.int .i64])]
def TJ:ak:=[(.one,[.bool])]
def an9:aM:=[]
def It:ak:=[(.agg,[.list [.int .i64],.list [.int .i64],.list [.int .i64]])]
def TC:ak:=[(.one,[.int .i64])]
def an3:aM:=[]
def Io:ak:=[(.agg,[.list [.int .i64],.list [.int .i64],.list [.int .i64]]),(.agg,[.int .i64,.list [.list [.int .i64]]])]
def Tw:ak:=[(.one,[.bool])]
def anY:aM:=[]
def Ot (NN:Nat):(J×Int)->(Option Int):=
 (fun((l0,i1):(J×Int))=>
 bV (ci NN (fun((i2,l3,i4,i5):(Int×(J×(Int×Int))))=>
 av (bG i5 i4)
 ((cM l3 i5).ae (fun i6=>
 av (dD i6 i2)
 (some (Sum.inr (Sum.inr i5)))
 (some (Sum.inl (i2,l3,i4,cC .i64 i5 1)))))
 (some (Sum.inr (Sum.inl ()))))
 (i1,l0,aC (aa l0),(0:Int)))
 (fun _=>
 some ((-1:Int))))
def Oo (NN:Nat):(J×J)->(Option Bool):=
 (fun((l0,l1):(J×J))=>
 av (bG (12:Int) (aC (aa l0)))
 (some false)
 (av (fq (aC (aa l0)) (aC (aa l1)))
 (some false)
 (bV (ci NN (fun((l2,l3,l4,i5,i6):(J×(J×(J×(Int×Int)))))=>
 av (bG i6 i5)
 ((cM l4 i6).ae (fun i7=>
 (ky (i7,(0:Int),(99:Int))).ae (fun b8=>
 av (dN b8)
 (some (Sum.inr (Sum.inr false)))
 ((cM l3 i6).ae (fun i9=>
 (ky (i9,(1:Int),(8:Int))).ae (fun oE=>
 av (dN oE)
 (some (Sum.inr (Sum.inr false)))
 ((mQ (0:Int) i6 (aa l2)).ae (fun(R0,R1)=>
 (zw (f9 l2 R0 R1,i7)).ae (fun f0=>
 av (jb (0:Int) f0)
 (some (Sum.inr (Sum.inr false)))
 (some (Sum.inl (l2,l3,l4,i5,cC .i64 i6 1))))))))))))
 (some (Sum.inr (Sum.inl ()))))
 (l0,l1,l0,aC (aa l0),(0:Int)))
 (fun _=>
 some true))))
def Om (NN:Nat):(J×(J×J))->(Option Int):=
 (fun((l0,l1,l2):(J×(J×J)))=>
 (B2 (l0,l1)).ae (fun b3=>
 av (dN b3)
 (some ((-1:Int)))
 ((rq (l1,(4096:Int))).ae (fun i4=>
 av (bG (4096:Int) i4)
 (some ((-1:Int)))
 (some i4)))))
def Og (NN:Nat):((J×(J×J))×(Int×(List J)))->(Option Bool):=
 (fun(((l0,l1,l2),i3,l4):((J×(J×J))×(Int×(List J))))=>
 (tV (l0,l1,l2)).ae (fun i5=>
 av (bG i5 (0:Int))
 (some false)
 ((ky (i3,(1:Int),(12:Int))).ae (fun b6=>
 av (dN b6)
 (some false)
 (av (fq (aC (aa l4)) (aC (aa l1)))
 (some false)
 (bV (ci NN (fun(((l7,i8,i9),jD,gi):((J×(Int×Int))×(Int×(List J))))=>
 av (bG i9 i8)
 (bV ((cM l7 i9).ae (fun fH=>
 (cM gi i9).ae (fun iY=>
 av (fq (aC (aa iY)) fH)
 (some (Sum.inr (Sum.inr (Sum.inr false))))
 ((cM gi i9).ae (fun f7=>
 ci NN (fun(((e8,lB,Gs,f8,Dt,qI),Ax,e9):((J×(Int×(Int×(J×(Int×Int)))))×(Int×(List J))))=>
 av (bG qI Dt)
 ((cM f8 qI).ae (fun Ay=>
 (ky (Ay,(0:Int),kx .i64 Ax 1)).ae (fun b24=>
 av (dN b24)
 (some (Sum.inr (Sum.inr (Sum.inr (Sum.inr false)))))
 (some (Sum.inl ((e8,lB,Gs,f8,Dt,cC .i64 qI 1),Ax,e9))))))
 (some (Sum.inr (Sum.inl ((Gs,e8,lB),Ax,e9)))))
 ((l7,i8,i9,f7,aC (aa f7),(0:Int)),jD,gi))))))
 (fun((Rx,fJ,mJ),AA,ig)=>
 some (Sum.inl ((fJ,mJ,cC .i64 Rx 1),AA,ig))))
 (some (Sum.inr (Sum.inl ()))))
 ((l1,aC (aa l1),(0:Int)),i3,l4))
 (fun _=>
 some true)))))))
def NL (NN:Nat):(J×Int)->(Option Bool):=
 (fun((l0,i1):(J×Int))=>
 bV (ci NN (fun((i2,l3,i4,i5):(Int×(J×(Int×Int))))=>
 av (bG i5 i4)
 ((cM l3 i5).ae (fun i6=>
 av (dD i2 i6)
 (some (Sum.inr (Sum.inr true)))
 (some (Sum.inl (i2,l3,i4,cC .i64 i5 1)))))
 (some (Sum.inr (Sum.inl ()))))
 (i1,l0,aC (aa l0),(0:Int)))
 (fun _=>
 some false))
def NF (NN:Nat):(J×(J×J))->(Option Int):=
 (fun((l0,l1,l2):(J×(J×J)))=>
 av (bG (12:Int) (aC (aa l0)))
 (some ((-1:Int)))
 (av (fq (aC (aa l0)) (aC (aa l1)))
 (some ((-1:Int)))
 (bV (ci NN (fun(((i3,l4,i5,i6),l7,l8,l9):((Int×(J×(Int×Int)))×(J×(J×J))))=>
 av (bG i6 i5)
 ((cM l4 i6).ae (fun jD=>
 av (bG jD (0:Int))
 (some (Sum.inr (Sum.inr ((-1:Int)))))
 (av (bG (99:Int) jD)
 (some (Sum.inr (Sum.inr ((-1:Int)))))
 ((mQ (0:Int) i6 (aa l7)).ae (fun(R0,R1)=>
 (vk (f9 l7 R0 R1,jD)).ae (fun zF=>
 av (zF)
 (some (Sum.inr (Sum.inr ((-1:Int)))))
 ((cM l8 i6).ae (fun gB=>
 av (bG gB (1:Int))
 (some (Sum.inr (Sum.inr ((-1:Int)))))
 (av (bG (8:Int) gB)
 (some (Sum.inr (Sum.inr ((-1:Int)))))
 (av (bG (4096:Int) (lW .i64 i3 gB))
 (some (Sum.inr (Sum.inr ((-1:Int)))))
 (some (Sum.inl ((lW .i64 i3 gB,l4,i5,cC .i64 i6 1),l7,l8,l9)))))))))))))
 (some (Sum.inr (Sum.inl i3))))
 (((1:Int),l0,aC (aa l0),(0:Int)),l0,l1,l2))
 (fun lT=>
 some lT))))
def NA (NN:Nat):((J×(J×J))×(Int×(List J)))->(Option Bool):=
 (fun(((l0,l1,l2),i3,l4):((J×(J×J))×(Int×(List J))))=>
 (xl (l0,l1,l2)).ae (fun i5=>
 av (dD i5 ((-1:Int)))
 (some false)
 (av (bG i3 (1:Int))
 (some false)
 (av (bG (12:Int) i3)
 (some false)
 (av (fq (aC (aa l4)) (aC (aa l1)))
 (some false)
 (bV (ci NN (fun(((l6,i7,i8),(l9,ed,gi),fH,iY):(((List J)×(Int×Int))×((J×(J×J))×(Int×(List J)))))=>
 av (bG i8 i7)
 ((cM l6 i8).ae (fun f7=>
 (cM ed i8).ae (fun lT=>
 av (fq (aC (aa f7)) lT)
 (some (Sum.inr (Sum.inr false)))
 ((zt (fH,f7)).ae (fun b16=>
 av (dN b16)
 (some (Sum.inr (Sum.inr false)))
 (some (Sum.inl ((l6,i7,cC .i64 i8 1),(l9,ed,gi),fH,iY))))))))
 (some (Sum.inr (Sum.inl ()))))
 ((l4,aC (aa l4),(0:Int)),(l0,l1,l2),i3,l4))
 (fun _=>
 some true)))))))
theorem EA (P:Nat->Prop) [DecidablePred P]:∀c:Nat,∃n,n<=c/\(∀j,j<n->P j)/\(n=c\/¬P n)
 |0=>⟨0,Nat.le_refl 0,fun j hj=>absurd hj (Nat.not_lt_zero j),.inl rfl⟩
 |c+1=>by
  obtain⟨n,h1,h2,h3⟩:=EA P c;by_cases h:P n
  ·rcases h3 with h3|h3
   ·subst h3;refine⟨n+1,Nat.le_refl _,fun j hj=>?_,.inl rfl⟩;by_cases ng:j=n
    ·subst ng;exact h
    ·exact h2 j (by omega)
   ·exact absurd h h3
  ·exact⟨n,by omega,h2,.inr h⟩
theorem getD_some {α:Type} {l:List α} {j:Nat} (d:α) (h:j<l.length):l[j]? =some (l.getD j d):=by
 simp[List.getD,h]
theorem sf {α:Type} {l:List α} {j:Nat} (h:j<l.length):bG (j:Int) (aC (aa l))=true:=anL h
theorem L6 {l:J} {v:Int} {j:Nat} (h:j<gv l v):l[j]? ≠some v:=by
 intro e;have hj:j<l.length:=(List.getElem?_eq_some_iff.1 e).1;have:=List.not_of_lt_findIdx h;rw[List.getElem?_eq_getElem hj] at e;simp[Option.some.inj e] at this
theorem Hd {l:J} {v:Int} (h:gv l v<l.length):l[gv l v]? =some v:=by
 have:=List.findIdx_getElem (w:=h);rw[List.getElem?_eq_getElem h];exact congrArg some (of_decide_eq_true this)
theorem L7 (l:J) (v:Int):gv l v<=l.length:=List.findIdx_le_length
theorem P1 (l:J) (v:Int):jb 0 (z4 l v)=decide (v∈l):=by
 unfold z4 jb;by_cases h:gv l v<l.length
 ·rw[if_pos h,decide_eq_true (by omega),decide_eq_true];exact List.mem_of_getElem? (Hd h)
 ·rw[if_neg h,decide_eq_false (by omega),decide_eq_false];intro hm;obtain⟨i,hi,e⟩:=List.mem_iff_getElem.1 hm;have:=L7 l v;exact L6 (show i<gv l v by omega) (by rw[List.getElem?_eq_getElem hi,e])
theorem akd (x:J×Int) (y:Int) (h:zw x=some y):Ot aL x=some y:=by
 obtain⟨l,v⟩:=x;simp only[zw] at h;split at h
 ·rename_i hl;rw[<-h];simp only[Ot];have hp:=L7 l v;rw[fk (fun i=>(v,l,aC (aa l),(i:Int))) (r:=if gv l v<l.length then Sum.inr (gv l v:Int) else Sum.inl ()) (gv l v) ?_ ?_ ?_ (dY (by omega))]
  ·unfold z4;by_cases h:gv l v<l.length
   ·rw[if_pos h,if_pos h];rfl
   ·rw[if_neg h,if_neg h];rfl
  ·intro j hj;simp only
   have jT:j<l.length:=by omega
   rw[aY (sf jT),dg,getD_some 0 jT,bj,bc (rG (fun e=>L6 hj (by rw[getD_some 0 jT,e])))];simp only[Ci (show j<=1048577 by omega)]
  ·simp only
   by_cases h:gv l v<l.length
   ·rw[if_pos h,aY (sf h),dg,Hd h,bj,aY (rH rfl)]
   ·rw[if_neg h,bc (show bG _ (aC (aa l))=false from DN (by show l.length<=_;omega))]
  ·rfl
 ·cases h
theorem ajs (x:J×Int) (y:Bool) (h:vk x=some y):NL aL x=some y:=by
 obtain⟨l,v⟩:=x;simp only[vk] at h;split at h
 ·rename_i hl;rw[<-h];simp only[NL];have hp:=L7 l v;rw[fk (fun i=>(v,l,aC (aa l),(i:Int))) (r:=if gv l v<l.length then Sum.inr true else Sum.inl ()) (gv l v) ?_ ?_ ?_ (dY (by omega))]
  ·rw[<-P1 l v];unfold z4 jb;by_cases h:gv l v<l.length
   ·rw[if_pos h,if_pos h,decide_eq_true (by omega)];rfl
   ·rw[if_neg h,if_neg h];rfl
  ·intro j hj;simp only
   have jT:j<l.length:=by omega
   rw[aY (sf jT),dg,getD_some 0 jT,bj,bc (rG (fun e=>L6 hj (by rw[getD_some 0 jT,e])))];simp only[Ci (show j<=1048577 by omega)]
  ·simp only
   by_cases h:gv l v<l.length
   ·rw[if_pos h,aY (sf h),dg,Hd h,bj,aY (rH rfl)]
   ·rw[if_neg h,bc (show bG _ (aC (aa l))=false from DN (by show l.length<=_;omega))]
  ·rfl
 ·cases h
theorem Mx {n m:Nat} (h:n<=m):mQ 0 (n:Int) m=some (0,n):=by
 unfold mQ;rw[if_pos ⟨by omega,by omega,by omega⟩];simp
theorem Mw (l:J) (n:Nat):f9 l 0 n=l.take n:=rfl
theorem akb (x:J×J) (y:Bool) (h:B2 x=some y):Oo aL x=some y:=by
 obtain⟨L,D⟩:=x;simp only[B2] at h;split at h
 ·rename_i hl;rw[<-h];simp only[Oo,oD];by_cases h1:L.length<=12
  rotate_left
  ·rw[aY (dQ (by rw[nl];omega)),decide_eq_false h1];rfl
  rw[bc (eJ (by rw[nl];omega)),decide_eq_true h1,Bool.true_and];by_cases h2:L.length=D.length
  rotate_left
  ·rw[aY (tz (by rw[nl,nl];omega)),decide_eq_false h2];rfl
  rw[bc (pS (by rw[nl,nl];omega)),decide_eq_true h2,Bool.true_and];obtain⟨n,hn,cj,tf⟩:=EA (Ck L D) L.length;rw[fk (fun i=>(L,D,L,aC (aa L),(i:Int))) (r:=if n<L.length then Sum.inr false else Sum.inl ()) n ?_ ?_ ?_ (dY (by omega))]
  ·by_cases h:n<L.length
   ·rw[if_pos h,decide_eq_false (fun q=>(tf.resolve_left (by omega)) (q n h))];rfl
   ·rw[if_neg h,decide_eq_true (fun j hj=>cj j (by omega))];rfl
  ·intro j hj;simp only
   obtain⟨a1,a2,a3⟩:=cj j hj;have jT:j<L.length:=by omega
   rw[aY (sf jT),dg,getD_some 0 jT,bj];simp only[ky,bj];rw[bc (A6 a1),dg,getD_some 0 (show j<D.length by omega),bj];rw[bc (A6 a2),Mx (show j<=aa L by show j<=L.length;omega),bj];simp only[Mw];rw[show zw (L.take j,L.getD j 0)=some (z4 (L.take j) (L.getD j 0)) from if_pos (by rw[List.length_take];omega),bj,P1,bc (decide_eq_false a3)]
   simp only[Ci (show j<=1048577 by omega)]
  ·simp only
   by_cases h:n<L.length
   ·have cg:=tf.resolve_left (by omega);rw[if_pos h,aY (sf h),dg,getD_some 0 h,bj];simp only[ky,bj];by_cases a1:0<=L.getD n 0/\L.getD n 0<=99
    rotate_left
    ·rw[aY (G9 a1)]
    rw[bc (A6 a1),dg,getD_some 0 (show n<D.length by omega),bj];by_cases a2:1<=D.getD n 0/\D.getD n 0<=8
    rotate_left
    ·rw[aY (G9 a2)]
    rw[bc (A6 a2),Mx (show n<=aa L by show n<=L.length;omega),bj];simp only[Mw];rw[show zw (L.take n,L.getD n 0)=some (z4 (L.take n) (L.getD n 0)) from if_pos (by rw[List.length_take];omega),bj,P1]
    by_cases a3:L.getD n 0∈L.take n
    ·rw[aY (decide_eq_true a3)]
    ·exact absurd ⟨a1,a2,a3⟩ cg
   ·rw[if_neg h,bc (show bG _ (aC (aa L))=false from DN (by show L.length<=_;omega))]
  ·rfl
 ·cases h
theorem vB {L D:J} (h:oD L D=true):L.length<=12/\L.length=D.length/\∀j,j<L.length->Ck L D j:=by
 simp only[oD,Bool.and_eq_true,decide_eq_true_eq] at h;exact h
theorem Cj {L D:J} (h:oD L D=true):∀x∈D,1<=x/\x<=8:=by
 obtain⟨_,h2,h3⟩:=vB h;intro x hx;obtain⟨i,hi,e⟩:=List.mem_iff_getElem.1 hx;have:=(h3 i (by omega)).2.1;have e2:=getD_some 0 hi;rw[List.getElem?_eq_getElem hi,e] at e2;rw[<-Option.some.inj e2] at this;exact this
theorem aj6 (x:J×J×J) (y:Int) (h:tV x=some y):Om aL x=some y:=by
 obtain⟨L,D,T⟩:=x;simp only[tV] at h;split at h
 ·rename_i hl;rw[<-h];simp only[Om,fS];rw[show B2 (L,D)=some (oD L D) from if_pos hl,bj]
  cases hx:oD L D with
  |false=>simp[av,dN]
  |true=>
   have hd:=Cj hx;have h1:∀x∈D,1<=x:=fun x hx=>(hd x hx).1;rw[bc (by rfl),show rq (D,4096)=some (zG 4096 D) from if_pos ⟨by omega,hl.2,List.all_eq_true.2 fun x hx=>decide_eq_true (by have:=hd x hx;omega)⟩,bj]
   unfold zG;rw[JO (by omega) D 0 1 h1 (by omega) (by omega),Int.one_mul];by_cases hp:eo D<=4096
   ·rw[bc (eJ (by omega)),if_pos ⟨rfl,hp⟩,show min (eo D) (4096+1)=eo D by omega]
   ·rw[aY (dQ (by omega)),if_neg (fun q=>hp q.2)]
 ·cases h
theorem adm:∀(l:J) (x:Int),eo (l++[x])=eo l*x
 |[],x=>by simp[eo]
 |a::l,x=>by simp[eo,adm l x,Int.mul_assoc]
theorem adl:∀(l m:J),eo (l++m)=eo l*eo m
 |[],m=>by simp[eo]
 |a::l,m=>by simp[eo,adl l m,Int.mul_assoc]
theorem atT {D:J} {j:Nat} (h:j<D.length):D.take (j+1)=D.take j++[D.getD j 0]:=by
 rw[List.take_add_one,getD_some 0 h];rfl
theorem D6 {D:J} {j:Nat} (h:j<D.length):eo (D.take (j+1))=eo (D.take j)*D.getD j 0:=by rw[atT h,adm]
theorem arY {D:J} (h:∀x∈D,1<=x) (j:Nat):eo (D.take j)<=eo D:=by
 have e:eo D=eo (D.take j)*eo (D.drop j):=by rw[<-adl,List.take_append_drop]
 have h1:=D5 (l:=D.take j) fun x hx=>h x (List.mem_of_mem_take hx);have h2:=D5 (l:=D.drop j) fun x hx=>h x (List.mem_of_mem_drop hx);have:=Int.mul_le_mul_of_nonneg_left h2 (show 0<=eo (D.take j) by omega);rw[e];omega
def OW (L D:J) (j:Nat):Prop:=Ck L D j/\eo (D.take (j+1))<=4096
instance (L D:J) (j:Nat):Decidable (OW L D j):=by unfold OW;infer_instance
theorem ajm (x:J×J×J) (y:Int) (h:xl x=some y):NF aL x=some y:=by
 obtain⟨L,D,T⟩:=x;simp only[xl,tV] at h;split at h
 ·rename_i hl;rw[<-h];simp only[NF,fS];by_cases h1:L.length<=12
  rotate_left
  ·rw[aY (dQ (by rw[nl];omega)),if_neg (fun q=>h1 (vB q.1).1)]
  rw[bc (eJ (by rw[nl];omega))];by_cases h2:L.length=D.length
  rotate_left
  ·rw[aY (tz (by rw[nl,nl];omega)),if_neg (fun q=>h2 (vB q.1).2.1)]
  rw[bc (pS (by rw[nl,nl];omega))];obtain⟨n,hn,cj,tf⟩:=EA (OW L D) L.length;have Ra:∀j,j<=n->1<=eo (D.take j)/\eo (D.take j)<=4096:=by
   intro j hj;constructor
   ·apply D5;intro x hx;obtain⟨i,hi,e⟩:=List.mem_iff_getElem.1 hx;rw[List.length_take] at hi;have hp:=(cj i (by omega)).1.2.1;have e2:=getD_some 0 (show i<D.length by omega);rw[List.getElem_take] at e;rw[List.getElem?_eq_getElem (by omega),e] at e2;rw[<-Option.some.inj e2] at hp;exact hp.1
   ·cases j with
    |zero=>simp[eo]
    |succ j=>exact(cj j (by omega)).2
  rw[fk (fun i=>((eo (D.take i),L,aC (aa L),(i:Int)),L,D,T)) (r:=if n<L.length then Sum.inr (-1) else Sum.inl (eo D)) n ?_ ?_ ?_ (dY (by omega))]
  ·by_cases h:n<L.length
   ·rw[if_pos h,if_neg]
    ·rfl
    ·intro q;refine tf.resolve_left (by omega) ⟨(vB q.1).2.2 n h,?_⟩;have:=arY (fun x hx=>(Cj q.1 x hx).1) (n+1);have:=q.2;omega
   ·have e:n=L.length:=by omega
    have hp:=(Ra n (Nat.le_refl n)).2;rw[e,h2,List.take_length] at hp;rw[if_neg h,if_pos]
    ·rfl
    ·refine⟨?_,hp⟩;simp only[oD,Bool.and_eq_true,decide_eq_true_eq];exact⟨h1,h2,fun j hj=>(cj j (by omega)).1⟩
  ·intro j hj;simp only
   obtain⟨⟨a1,a2,a3⟩,a4⟩:=cj j hj;have jT:j<L.length:=by omega
   rw[aY (sf jT),dg,getD_some 0 jT,bj,bc (eJ (by omega)),bc (eJ (by omega)),Mx (show j<=aa L by show j<=L.length;omega),bj];simp only[Mw];rw[show vk (L.take j,L.getD j 0)=some (decide (L.getD j 0∈L.take j)) from if_pos (by rw[List.length_take];omega),bj,bc (decide_eq_false a3),dg,getD_some 0 (show j<D.length by omega),bj,bc (eJ (by omega)),bc (eJ (by omega))]
   have hb:=Ra j (by omega);obtain⟨b1,b2⟩:=SI (a:=eo (D.take j)) (x:=D.getD j 0) (A:=4096) (B:=8) (by omega) hb.2 (by omega) a2.2;rw[D6 (by omega)] at a4;rw[oT (by omega) (by omega),bc (eJ a4),<-D6 (by omega)];simp only[Ci (show j<=1048577 by omega)]
  ·simp only
   by_cases h:n<L.length
   ·have cg:=tf.resolve_left (by omega);rw[if_pos h,aY (sf h),dg,getD_some 0 h,bj];by_cases c1:L.getD n 0<0
    ·rw[aY (dQ c1)]
    rw[bc (eJ (by omega))];by_cases c2:99<L.getD n 0
    ·rw[aY (dQ c2)]
    rw[bc (eJ (by omega)),Mx (show n<=aa L by show n<=L.length;omega),bj];simp only[Mw];rw[show vk (L.take n,L.getD n 0)=some (decide (L.getD n 0∈L.take n)) from if_pos (by rw[List.length_take];omega),bj]
    by_cases a3:L.getD n 0∈L.take n
    ·rw[aY (decide_eq_true a3)]
    rw[bc (decide_eq_false a3),dg,getD_some 0 (show n<D.length by omega),bj];by_cases c3:D.getD n 0<1
    ·rw[aY (dQ c3)]
    rw[bc (eJ (by omega))];by_cases c4:8<D.getD n 0
    ·rw[aY (dQ c4)]
    rw[bc (eJ (by omega))];have hb:=Ra n (Nat.le_refl n);obtain⟨b1,b2⟩:=SI (a:=eo (D.take n)) (x:=D.getD n 0) (A:=4096) (B:=8) (by omega) hb.2 (by omega) (by omega);rw[oT (by omega) (by omega)];by_cases c5:4096<eo (D.take n)*D.getD n 0
    ·rw[aY (dQ c5)]
    ·exact absurd ⟨⟨⟨by omega,by omega⟩,⟨by omega,by omega⟩,a3⟩,by rw[D6 (by omega)];omega⟩ cg
   ·have e:n=L.length:=by omega
    rw[if_neg h,bc (show bG _ (aC (aa L))=false from DN (by show L.length<=_;omega)),e,h2,List.take_length]
  ·rfl
 ·cases h
theorem Me {R:List J} (h:∀l∈R,l.length<=1048576) {j:Nat} (hj:j<R.length):(R.getD j []).length<=1048576:=by
 have e:=getD_some [] hj;exact h _ (List.mem_of_getElem? e)
theorem aj0 (x:(J×J×J)×Int×List J) (y:Bool) (h:xq x=some y):Og aL x=some y:=by
 obtain⟨⟨L,D,T⟩,m,R⟩:=x;simp only[xq] at h;split at h
 ·rename_i hl;obtain⟨Al,qy,An⟩:=hl;simp only at Al qy An;rw[<-h];simp only[Og,jP];rw[show tV (L,D,T)=some (fS L D) from if_pos Al,bj]
  by_cases h1:0<=fS L D
  rotate_left
  ·rw[aY (dQ (by omega)),decide_eq_false h1];rfl
  rw[bc (eJ (by omega)),decide_eq_true h1,Bool.true_and];simp only[ky,bj];by_cases h2:1<=m/\m<=12
  rotate_left
  ·rw[aY (G9 h2),decide_eq_false h2];rfl
  rw[bc (A6 h2),decide_eq_true h2,Bool.true_and];by_cases h3:R.length=D.length
  rotate_left
  ·rw[aY (tz (by rw[nl,nl];omega)),decide_eq_false h3];rfl
  rw[bc (pS (by rw[nl,nl];omega)),decide_eq_true h3,Bool.true_and];obtain⟨n,hn,cj,tf⟩:=EA (Fg m D R) R.length;rw[fk (fun i=>((D,aC (aa D),(i:Int)),m,R)) (r:=if n<R.length then Sum.inr false else Sum.inl ()) n ?_ ?_ ?_ (dY (by omega))]
  ·by_cases h:n<R.length
   ·rw[if_pos h,decide_eq_false (fun q=>(tf.resolve_left (by omega)) (q n h))];rfl
   ·rw[if_neg h,decide_eq_true (fun j hj=>cj j (by omega))];rfl
  ·intro j hj;simp only
   obtain⟨a1,a2⟩:=cj j hj;have uD:j<R.length:=by omega
   have wg:j<D.length:=by omega
   have hr:=Me An uD;rw[aY (sf wg),dg,dg,getD_some 0 wg,getD_some [] uD,bj,bj,bc (pS (by rw[nl];exact a1)),bj];rw[AZ (mk:=fun i=>((D,aC (aa D),(j:Int),R.getD j [],aC (aa (R.getD j [])),(i:Int)),m,R)) (R.getD j []) (yu m) (Sum.inr (Sum.inr (Sum.inr false))) (Sum.inl (((j:Int),D,aC (aa D)),m,R)) ?_ ?_ ?_ ?_ (dY (by omega))]
   ·rw[if_pos (show(R.getD j []).all (yu m)=true from a2),mK]
    simp only[Ci (show j<=1048577 by omega)]
   all_goals try simp only
   ·intro i a ha hp;have hp:=of_decide_eq_true hp;rw[aY (kv ha),dg,ha,bj,tI (by omega) (by omega),bc (A6 (by omega)),nA ha (by omega)]
   ·intro i a ha hp;have hp:=of_decide_eq_false hp;rw[aY (kv ha),dg,ha,bj,tI (by omega) (by omega),aY (G9 (by omega))]
   ·rw[bc (gD _)]
   ·rfl
  ·simp only
   by_cases h:n<R.length
   ·have cg:=tf.resolve_left (by omega);have wg:n<D.length:=by omega
    have hr:=Me An h;rw[if_pos h,aY (sf wg),dg,dg,getD_some 0 wg,getD_some [] h,bj,bj];by_cases a1:((R.getD n []).length:Int)=D.getD n 0
    rotate_left
    ·rw[aY (tz (by rw[nl];exact a1))];rfl
    rw[bc (pS (by rw[nl];exact a1)),bj];have a2:rb m (R.getD n [])≠true:=fun q=>cg ⟨a1,q⟩;rw[AZ (mk:=fun i=>((D,aC (aa D),(n:Int),R.getD n [],aC (aa (R.getD n [])),(i:Int)),m,R)) (R.getD n []) (yu m) (Sum.inr (Sum.inr (Sum.inr false))) (Sum.inl (((n:Int),D,aC (aa D)),m,R)) ?_ ?_ ?_ ?_ (dY (by omega))]
    ·rw[if_neg (show¬(R.getD n []).all (yu m)=true from a2)]
     rfl
    all_goals try simp only
    ·intro i a ha hp;have hp:=of_decide_eq_true hp;rw[aY (kv ha),dg,ha,bj,tI (by omega) (by omega),bc (A6 (by omega)),nA ha (by omega)]
    ·intro i a ha hp;have hp:=of_decide_eq_false hp;rw[aY (kv ha),dg,ha,bj,tI (by omega) (by omega),aY (G9 (by omega))]
    ·rw[bc (gD _)]
    ·rfl
   ·rw[if_neg h,bc (show bG _ (aC (aa D))=false from DN (by show D.length<=_;omega))]
  ·rfl
 ·cases h
theorem ajh (x:(J×J×J)×Int×List J) (y:Bool) (h:BD x=some y):NA aL x=some y:=by
 obtain⟨⟨L,D,T⟩,m,R⟩:=x;simp only[BD,xq] at h;split at h
 ·rename_i hl;obtain⟨Al,qy,An⟩:=hl;simp only at Al qy An;rw[<-h];simp only[NA,jP];rw[show xl (L,D,T)=some (fS L D) from if_pos Al,bj]
  have tp:fS L D= -1\/0<=fS L D:=by
   unfold fS;by_cases q:oD L D=true/\eo D<=4096
   ·rw[if_pos q];have:=D5 fun x hx=>(Cj q.1 x hx).1;right;omega
   ·rw[if_neg q];left;rfl
  by_cases h1:0<=fS L D
  rotate_left
  ·rw[aY (rH (by omega)),decide_eq_false h1];rfl
  rw[bc (rG (by omega)),decide_eq_true h1,Bool.true_and];by_cases h2:1<=m
  rotate_left
  ·rw[aY (dQ (by omega)),decide_eq_false (p:=1<=m/\m<=12) (by omega)];rfl
  rw[bc (eJ (by omega))];by_cases xZ:m<=12
  rotate_left
  ·rw[aY (dQ (by omega)),decide_eq_false (p:=1<=m/\m<=12) (by omega)];rfl
  rw[bc (eJ (by omega)),decide_eq_true (p:=1<=m/\m<=12) ⟨h2,xZ⟩,Bool.true_and];by_cases h3:R.length=D.length
  rotate_left
  ·rw[aY (tz (by rw[nl,nl];omega)),decide_eq_false h3];rfl
  rw[bc (pS (by rw[nl,nl];omega)),decide_eq_true h3,Bool.true_and];obtain⟨n,hn,cj,tf⟩:=EA (Fg m D R) R.length;rw[fk (fun i=>((R,aC (aa R),(i:Int)),(L,D,T),m,R)) (r:=if n<R.length then Sum.inr false else Sum.inl ()) n ?_ ?_ ?_ (dY (by omega))]
  ·by_cases h:n<R.length
   ·rw[if_pos h,decide_eq_false (fun q=>(tf.resolve_left (by omega)) (q n h))];rfl
   ·rw[if_neg h,decide_eq_true (fun j hj=>cj j (by omega))];rfl
  ·intro j hj;simp only
   obtain⟨a1,a2⟩:=cj j hj;have uD:j<R.length:=by omega
   have wg:j<D.length:=by omega
   have hr:=Me An uD;rw[aY (sf uD),dg,dg,getD_some 0 wg,getD_some [] uD,bj,bj,bc (pS (by rw[nl];exact a1)),show zt (m,R.getD j [])=some (rb m (R.getD j [])) from if_pos hr,bj,a2,bc (by rfl)]
   simp only[Ci (show j<=1048577 by omega)]
  ·simp only
   by_cases h:n<R.length
   ·have cg:=tf.resolve_left (by omega);have wg:n<D.length:=by omega
    have hr:=Me An h;rw[if_pos h,aY (sf h),dg,dg,getD_some 0 wg,getD_some [] h,bj,bj];by_cases a1:((R.getD n []).length:Int)=D.getD n 0
    rotate_left
    ·rw[aY (tz (by rw[nl];exact a1))]
    rw[bc (pS (by rw[nl];exact a1))];have a2:rb m (R.getD n [])=false:=by
     cases q:rb m (R.getD n []) with
     |false=>rfl
     |true=>exact absurd ⟨a1,q⟩ cg
    rw[show zt (m,R.getD n [])=some (rb m (R.getD n [])) from if_pos hr,bj,a2,aY (by rfl)]
   ·rw[if_neg h,bc (show bG _ (aC (aa R))=false from DN (by show R.length<=_;omega))]
  ·rfl
 ·cases h
theorem abh {X Y α S:Type} {f:X->Option (X⊕Y)} (es:List α) (mk:S->Nat->X) (I:Nat->S->Prop) (step:Nat->S->α->Option S) (sS:Y) (ez:S->Y)
  (h1:∀i s a,es[i]? =some a->I i s->f (mk s i)=some (match step i s a with|some s'=>.inl (mk s' (i+1))|none=>.inr sS))
  (hI:∀i s a s',es[i]? =some a->I i s->step i s a=some s'->I (i+1) s')
  (h3:∀s,I es.length s->f (mk s es.length)=some (.inr (ez s))) {s:S} (h0:I 0 s) {x0:X} (hx:x0=mk s 0) {N:Nat} (hN:es.length<N):
  ci N f x0=some (match nb step 0 s es with|some s'=>ez s'|none=>sS):=
 Su es mk I step sS ez (fun i s a s' ha hi hs=>⟨by rw[h1 i s a ha hi,hs],hI i s a s' ha hi hs⟩) (fun i s a ha hi hs=>by rw[h1 i s a ha hi,hs]) h3 h0 hx hN
def acT (x:Int×Int):Prop:=(0<=x.1/\x.1<=4096)/\(0<=x.2/\x.2<=4096)/\x.1*x.2<=1048576
instance (x:Int×Int):Decidable (acT x):=by unfold acT;infer_instance
def p9 (M:Nat->Nat->Int) (a b:Nat):Nat->Nat->Int:=fun i j=>if i=a then M b j else if i=b then M a j else M i j
def wQ (M:Nat->Nat->Int) (j:Nat):Nat->Nat->Option Nat
 |0,_=>none
 |d+1,k=>if M k j=0 then wQ M j d (k+1) else some k
def uP (p out x:Int) (n:Nat):Int:=if h:n=0 then out else uP p (if n%2=1 then out*x%p else out) (x*x%p) (n/2)
termination_by n
decreasing_by omega
def nC:J->Option J:=fun(l:J)=>if l.length<=1099511627776 then some l else none
def zq:J->Option J:=fun(l:J)=>if l.length<=1099511627776 then some l else none
def acN (x:Int×(Int×Int×J)×(Int×Int×J)):Prop:=oU x.1/\A2 x.2.1/\A2 x.2.2/\x.2.1.2.1=x.2.2.1/\x.2.1.1*x.2.2.2.1<=1048576/\qh x.1 x.2.1.2.2/\qh x.1 x.2.2.2.2
instance (x:Int×(Int×Int×J)×(Int×Int×J)):Decidable (acN x):=by unfold acN;infer_instance
def Ju:ak:=[(.one,[.list [.int .i64]])]
def UC:ak:=[(.one,[.list [.int .i64]])]
def aoU:aM:=[]
def Ix:ak:=[(.one,[.list [.int .i64]])]
def TH:ak:=[(.one,[.list [.int .i64]])]
def an7:aM:=[]
def Ow (NN:Nat):J->(Option J):=
 (fun(l0:J)=>
 (bo 0 0 (aa (([]:J)))).ae (fun _=>
 (jR (aG (aa (([]:J))) (aa l0)) 8).ae (fun _=>
 (dP (dF (([]:J)) l0) (aG (aa (([]:J))) (aa l0))).ae (fun l1=>
 some l1))))
def NJ (NN:Nat):J->(Option J):=
 (fun(l0:J)=>
 (jR (aG (aa (([]:J))) (aa l0)) 8).ae (fun _=>
 (dP (dF (([]:J)) l0) (aG (aa (([]:J))) (aa l0))).ae (fun l1=>
 some l1)))
theorem akf (x y:J) (h:nC x=some y):Ow aL x=some y:=by
 simp only[nC] at h;split at h
 ·rename_i hl;rw[<-h];simp only[Ow];rw[show bo 0 0 (aa ([]:J))=some () from rfl,bj,kD (by simp only[aG,aa,List.length_nil,dR];omega),bj]
  have:dF [] x=x:=rfl;rw[this,show aG (aa ([]:J)) (aa x)=aa x by simp[aG,aa],io];rfl
 ·cases h
theorem ajq (x y:J) (h:zq x=some y):NJ aL x=some y:=by
 simp only[zq] at h;split at h
 ·rename_i hl;rw[<-h];simp only[NJ];rw[kD (by simp only[aG,aa,List.length_nil,dR];omega),bj];have:dF [] x=x:=rfl;rw[this,show aG (aa ([]:J)) (aa x)=aa x by simp[aG,aa],io];rfl
 ·cases h
theorem S5 {M:Nat->Nat->Int} {j q:Nat}:∀{d k:Nat},wQ M j d k=some q->k<=q/\q<k+d/\M q j≠0
 |0,k,h=>by cases h
 |d+1,k,h=>by
  simp only[wQ] at h;split at h
  ·have:=S5 h;exact⟨by omega,by omega,this.2.2⟩
  ·rename_i h0;injection h with h;subst h;exact⟨by omega,by omega,h0⟩
theorem alR (p out x:Int):uP p out x 0=out:=by rw[uP];rfl
theorem alT {n:Nat} (h:n≠0) (p out x:Int):uP p out x n=uP p (if n%2=1 then out*x%p else out) (x*x%p) (n/2):=by
 rw[uP,dif_neg h]
def afH (x:Int×Int×Int):Prop:=gZ x.1=true/\(1<=x.2.1/\x.2.1<=8)/\(1<=x.2.2/\x.2.2<=8)
instance (x:Int×Int×Int):Decidable (afH x):=by unfold afH;infer_instance
abbrev ew:=Nat->Nat->Int
def Bg (p inv:Int) (M:ew) (t:Nat):ew:=fun a b=>if a=t then M t b*inv%p else M a b
def kj (p:Int) (M:ew) (t j n:Nat):ew:=fun a b=>if a<n/\a≠t then(M a b+(p - M a j)*M t b)%p else M a b
def Hc (p:Int) (M:ew) (t j k:Nat):ew:=Bg p (uP p 1 (p9 M t k t j) (p - 2).toNat) (p9 M t k) t
def adC (p:Int) (M:ew) (t j k:Nat) (d:Int):Int:=(if k=t then d else(p - d)%p)*p9 M t k t j%p
def wS (p:Int) (r:Nat) (s:ew×J×Int) (j:Nat):ew×J×Int:=
 if s.2.1.length<r then
  match wQ s.1 j (r - s.2.1.length) s.2.1.length with
  |none=>s
  |some k=>(kj p (Hc p s.1 s.2.1.length j k) s.2.1.length j r,s.2.1++[(j:Int)],adC p s.1 s.2.1.length j k s.2.2)
 else s
def adD (p:Int) (r:Nat) (M:ew):Nat->ew×J×Int
 |0=>(M,[],1)
 |j+1=>wS p r (adD p r M j) j
def adE (x:Int×Int×Int×J):Prop:=oU x.1/\A2 x.2/\qh x.1 x.2.2.2
instance (x:Int×Int×Int×J):Decidable (adE x):=by unfold adE;infer_instance
theorem agj {p:Int} {r c:Nat} {M:ew} (hM:qJ p r c M) {a b:Nat} (ha:a<r) (hb:b<r):qJ p r c (p9 M a b):=by
 intro i hi j hj;unfold p9;split
 ·exact hM b hb j hj
 ·split
  ·exact hM a ha j hj
  ·exact hM i hi j hj
theorem afm {p inv:Int} {r c:Nat} {M:ew} (hp:oU p) (hM:qJ p r c M) (t:Nat):qJ p r c (Bg p inv M t):=by
 intro i hi j hj;unfold Bg;split
 ·exact PO hp _
 ·exact hM i hi j hj
theorem ahO {p:Int} {r c:Nat} {M:ew} (hp:oU p) (hM:qJ p r c M) (t k n:Nat):qJ p r c (kj p M t k n):=by
 intro i hi j hj;unfold kj;split
 ·exact PO hp _
 ·exact hM i hi j hj
theorem arQ {p:Int} {r c:Nat} {M:ew} (hp:oU p) (hM:qJ p r c M) {t k:Nat} (ht:t<r) (hk:k<r) (j:Nat):qJ p r c (Hc p M t j k):=afm hp (agj hM ht hk) t
structure RI (p:Int) (r c:Nat) (s:ew×J×Int) (j:Nat):Prop where
 m:qJ p r c s.1
 l:s.2.1.length<=r
 lj:s.2.1.length<=j
 d:qK p s.2.2
 e:∀x∈s.2.1,0<=x/\x<(j:Int)
theorem RI.step {p:Int} {r c:Nat} {s:ew×J×Int} {j:Nat} (hp:oU p) (h:RI p r c s j):RI p r c (wS p r s j) (j+1):=by
 have fP:RI p r c s (j+1):=⟨h.m,h.l,by have:=h.lj;omega,h.d,fun x hx=>by have:=h.e x hx;omega⟩;unfold wS;split
 ·rename_i hl;split
  ·exact fP
  ·rename_i k hk;have hq:=S5 hk;refine⟨ahO hp (arQ hp h.m hl (by omega) j) _ _ _,?_,?_,PO hp _,?_⟩
   ·simp only[List.length_append,List.length_cons,List.length_nil];omega
   ·have:=h.lj;simp only[List.length_append,List.length_cons,List.length_nil];omega
   ·intro x hx;simp only[List.mem_append,List.mem_singleton] at hx;rcases hx with hx|rfl
    ·have:=h.e x hx;omega
    ·omega
 ·exact fP
theorem ahN {p:Int} (M:ew) (t j:Nat):kj p M t j 0=M:=by funext a b;exact if_neg (by omega)
theorem ahP {p:Int} (M:ew) (t j n b:Nat):kj p M t j n n b=M n b:=if_neg (by omega)
theorem ahR {p:Int} (M:ew) (t j n b:Nat):kj p M t j n t b=M t b:=if_neg (by omega)
theorem ahQ {p:Int} (M:ew) (t j:Nat):kj p M t j (t+1)=kj p M t j t:=by
 funext a b;unfold kj;by_cases h:a<t
 ·rw[if_pos (by omega),if_pos (by omega)]
 ·rw[if_neg (by omega),if_neg (by omega)]
theorem ade {M:ew} {j:Nat}:∀{d k:Nat},wQ M j d k=none->∀i,k<=i->i<k+d->M i j=0
 |0,k,_,i,h1,h2=>by omega
 |d+1,k,h,i,h1,h2=>by
  simp only[wQ] at h;split at h
  ·rename_i h0;by_cases hi:i=k
   ·rw[hi];exact h0
   ·exact ade h i (by omega) (by omega)
  ·cases h
theorem asb {p:Int} {r:Nat} {s:ew×J×Int} {j:Nat} (hl:s.2.1.length<r) (h:wQ s.1 j (r - s.2.1.length) s.2.1.length=none):wS p r s j=s:=by
 unfold wS;rw[if_pos hl,h]
theorem asc {p:Int} {r:Nat} {s:ew×J×Int} {j k:Nat} (hl:s.2.1.length<r) (h:wQ s.1 j (r - s.2.1.length) s.2.1.length=some k):
  wS p r s j=(kj p (Hc p s.1 s.2.1.length j k) s.2.1.length j r,s.2.1++[(j:Int)],adC p s.1 s.2.1.length j k s.2.2):=by
 unfold wS;rw[if_pos hl,h]
section
variable {p:Int} {r c:Nat} {M0:ew}
end
section
variable {p:Int} {r c:Nat} {M0:ew}
end
section
variable {p:Int} {r c:Nat} {M R:ew} {L:J}
end
abbrev Ii:=Int×Int×Int×J
def atb:Ii:=(0,0,0,[])
def afA (s:Ii):Prop:=(0<=s.1/\s.1<=64)/\(0<=s.2.1/\s.2.1<=64)/\(0<=s.2.2.1/\s.2.2.1<=64)/\(s.2.2.2.length:Int)=s.1*s.2.1*s.2.2.1
instance (s:Ii):Decidable (afA s):=by unfold afA;infer_instance
def bd (b:Int) (l:List Ii):Nat->Int
 |0=>b
 |k+1=>(l.getD k atb).2.2.1
def dq (n:Nat) (f:Nat->Int):J:=(List.range n).map f
theorem fQ (n:Nat) (f:Nat->Int):(dq n f).length=n:=by simp[dq]
theorem vc {n j:Nat} (f:Nat->Int) (h:j<n):(dq n f)[j]? =some (f j):=by simp[dq,List.getElem?_range h]
theorem ra {n:Nat} {f g:Nat->Int} (h:∀j,j<n->f j=g j):dq n f=dq n g:=List.map_congr_left fun j hj=>h j (List.mem_range.1 hj)
theorem Tr {n j:Nat} (f:Nat->Int) (x:Int):bS (dq n f) j x=dq n (fun q=>if q=j then x else f q):=by
 unfold bS;apply List.ext_getElem?;intro k;rw[List.getElem?_set,fQ];by_cases hk:k<n
 ·rw[vc _ hk,vc _ hk];by_cases e:j=k
  ·subst e;simp[hk]
  ·rw[if_neg e];simp[show¬k=j from fun h=>e h.symm]
 ·rw[List.getElem?_eq_none (by rw[fQ];omega),List.getElem?_eq_none (by rw[fQ];omega)];by_cases e:j=k
  ·subst e;simp[hk]
  ·simp[e]
theorem AX (n:Nat) (f:Nat->Int):aa (dq n f)=n:=fQ n f
theorem Tq (n:Nat) (x:Int):dC n x=dq n (fun _=>x):=by
 unfold dC dq;rw[List.map_const',List.length_range]
theorem Ky (n:Nat) (f g:Nat->Int):bo 0 (aa (dq n f)) (aa (dq n g))=some ():=by rw[AX,AX];exact bQ n
theorem Pn {n j:Nat} (f:Nat->Int) (h:j<n):eX (j:Int) (aa (dq n f))=some j:=mz (by rw[AX];exact h)
theorem KB {n j:Nat} (f:Nat->Int) (h:j<n):cu (dq n f) j=some (f j):=vc f h
theorem Qk {α:Type} (P:Nat->α->Bool) (d:α):∀(l:List α) (i:Nat),nb (fun i (_:Unit) a=>if P i a=true then some () else none) i () l=if(∀k,k<l.length->P (i+k) (l.getD k d)=true) then some () else none
 |[],i=>by simp[nb]
 |a::l,i=>by
  rw[nb];by_cases h:P i a=true
  ·rw[if_pos h]
   try simp only
   rw[Qk P d l (i+1)];have:(∀k,k<l.length->P (i+1+k) (l.getD k d)=true)↔(∀k,k<(a::l).length->P (i+k) ((a::l).getD k d)=true):=by
    constructor
    ·intro h1 k hk;cases k with
     |zero=>exact h
     |succ k=>have:=h1 k (by simpa using hk);rw[show i+(k+1)=i+1+k by omega];exact this
    ·intro h1 k hk;have:=h1 (k+1) (by simpa using hk);rw[show i+(k+1)=i+1+k by omega] at this;exact this
   by_cases hc:∀k,k<l.length->P (i+1+k) (l.getD k d)=true
   ·rw[if_pos hc,if_pos (this.1 hc)]
   ·rw[if_neg hc,if_neg (fun h2=>hc (this.2 h2))]
  ·rw[if_neg h,if_neg (fun h1=>h (h1 0 (by simp)))]
theorem map_take {α:Type} (g:α->Int) {L:List α} {j:Nat} {x:α} (h:L[j]? =some x):dF ((L.take j).map g) [g x]=(L.take (j+1)).map g:=by
 simp[dF,List.take_add_one,h]
def bY:J->Nat
 |[]=>1
 |x::l=>x.toNat*bY l
def eP (D:J) (i:Nat):Nat:=bY (D.drop i)
def eF (D:J) (n i:Nat):Int:=((n/eP D (i+1)%(D.getD i 0).toNat:Nat):Int)
def aK (D:J) (n:Nat):J:=dq D.length (eF D n)
def g0 (D ix:J):Nat->Nat
 |0=>0
 |j+1=>g0 D ix j*(D.getD j 0).toNat+(ix.getD j 0).toNat
def mC (D:J):Prop:=D.length<=1048576/\∀x∈D,1<=x/\x<=1048576
instance (D:J):Decidable (mC D):=by unfold mC;infer_instance
def vn:J×Int->Option J:=fun x=>if mC x.1/\0<=x.2/\x.2<=1048576 then some (aK x.1 x.2.toNat) else none
def xn:J×J->Option (Bool×J):=fun x=>
 if mC x.1/\x.2=aK x.1 (g0 x.1 x.2 x.1.length)/\g0 x.1 x.2 x.1.length<bY x.1/\bY x.1<=1048576 then
  some (decide (g0 x.1 x.2 x.1.length+1<bY x.1),aK x.1 (g0 x.1 x.2 x.1.length+1)) else none
def Jt:ak:=[(.one,[.list [.int .i64]]),(.one,[.int .i64])]
def UB:ak:=[(.one,[.list [.int .i64]])]
def aoT:aM:=[]
def ID:ak:=[(.one,[.list [.int .i64]]),(.one,[.list [.int .i64]])]
def TN:ak:=[(.one,[.bool]),(.one,[.list [.int .i64]])]
def LJ:aM:=[[],[some .aO]]
def Ov (NN:Nat):(J×Int)->(Option J):=
 (fun((l0,i1):(J×Int))=>
 (lV (aC (aa l0)) (aC (aa l0)) 8).ae (fun k2=>
 bV ((bo 0 k2 (aa (dC k2 (0:Int)))).ae (fun _=>
 ci NN (fun(((l3,i4,i5),l6):((J×(Int×Int))×J))=>
 av (jb (0:Int) i5)
 ((cM l3 i5).ae (fun i7=>
 (mO i4 i7).ae (fun i8=>
 (eX i5 (aa l6)).ae (fun k9=>
 (cu l6 (aG 0 k9)).ae (fun jD=>
 (cM l3 i5).ae (fun fZ=>
 (D7 .i64 i4 fZ).ae (fun fH=>
 (bo 0 (aa l6) (aa (bS l6 (aG 0 k9) i8))).ae (fun _=>
 some (Sum.inl ((l3,fH,kx .i64 i5 1),bS l6 (aG 0 k9) i8))))))))))
 ((aA l6 (
 some (Sum.inl l6))).ae (fun iY=>
 some (Sum.inr iY))))
 ((l0,i1,kx .i64 (aC (aa l0)) (1:Int)),dC k2 (0:Int))))
 (fun f7=>
 (dP f7 (aa f7)).ae (fun e8=>
 some e8))))
def NP (NN:Nat):(J×J)->(Option (Bool×J)):=
 (fun((l0,l1):(J×J))=>
 bV (aA l1 (
 ci NN (fun(((l2,i3),l4):((J×Int)×J))=>
 av (jb (0:Int) i3)
 ((eX i3 (aa l4)).ae (fun k5=>
 (cu l4 (aG 0 k5)).ae (fun i6=>
 (eX i3 (aa l4)).ae (fun k7=>
 (cu l4 (aG 0 k7)).ae (fun i8=>
 (eX i3 (aa l4)).ae (fun k9=>
 (cu (bS l4 (aG 0 k7) (cC .i64 i6 1)) (aG 0 k9)).ae (fun jD=>
 (cM l2 i3).ae (fun fZ=>
 av (bG jD fZ)
 ((((j6 (aa (bS l4 (aG 0 k7) (cC .i64 i6 1))) (aa l1)).ae (fun _=>
 some (true,bS l4 (aG 0 k7) (cC .i64 i6 1)))).ae (fun((OX,iY):(Bool×J))=>
 some (Sum.inr (OX,iY)))).ae (fun f7=>
 some (Sum.inr f7)))
 ((eX i3 (aa l4)).ae (fun R4=>
 (cu (bS l4 (aG 0 k7) (cC .i64 i6 1)) (aG 0 R4)).ae (fun lB=>
 (bo 0 (aa l4) (aa (bS (bS l4 (aG 0 k7) (cC .i64 i6 1)) (aG 0 R4) (0:Int)))).ae (fun _=>
 some (Sum.inl ((l2,kx .i64 i3 1),bS (bS l4 (aG 0 k7) (cC .i64 i6 1)) (aG 0 R4) (0:Int)))))))))))))))
 (some (Sum.inr (Sum.inl l4))))
 ((l0,kx .i64 (aC (aa l0)) (1:Int)),l1)))
 (fun eS=>
 (j6 (aa eS) (aa l1)).ae (fun _=>
 some (false,eS))))
theorem Fx {D:J} (h:mC D) {i:Nat} (hi:i<D.length):∃d:Nat,D[i]? =some (d:Int)/\D.getD i 0=(d:Int)/\(D.getD i 0).toNat=d/\1<=d/\d<=1048576:=by
 have e:=getD_some 0 hi;have hm:=h.2 _ (List.mem_of_getElem? e);obtain⟨d,hd⟩:=pR (show 0<=D.getD i 0 by omega);exact⟨d,by rw[e,hd],hd,by rw[hd];rfl,by omega,by omega⟩
theorem EF {D:J} {i:Nat} (hi:i<D.length):eP D i=(D.getD i 0).toNat*eP D (i+1):=by
 unfold eP;rw[drop_cons (getD_some 0 hi),bY]
theorem EE (D:J):eP D D.length=1:=by simp[eP,bY]
theorem VO (D:J):eP D 0=bY D:=rfl
theorem A8:∀{D:J},(∀x∈D,1<=x)->0<bY D
 |[],_=>Nat.one_pos
 |x::l,h=>by
  have h1:=h x List.mem_cons_self;exact Nat.mul_pos (by omega) (A8 fun y hy=>h y (List.mem_cons_of_mem _ hy))
theorem agq {D:J} (h:mC D) (i:Nat):0<eP D i:=A8 fun x hx=>(h.2 x (List.mem_of_mem_drop hx)).1
theorem He:∀{D:J},(∀x∈D,1<=x)->eo D=(bY D:Int)
 |[],_=>rfl
 |x::l,h=>by
  have h1:=h x List.mem_cons_self;rw[eo,bY,He fun y hy=>h y (List.mem_cons_of_mem _ hy)];obtain⟨x,rfl⟩:=pR (show 0<=x by omega);simp
theorem agp {D:J} {i j:Nat} (h:i<=j) (hj:j<=D.length):eP D j∣eP D i:=by
 obtain⟨k,rfl⟩:∃k,j=i+k:=⟨j - i,by omega⟩;induction k with
 |zero=>exact Nat.dvd_refl _
 |succ k ih=>
  refine Nat.dvd_trans ?_ (ih (by omega) (by omega));rw[EF (i:=i+k) (by omega)];exact Nat.dvd_mul_left _ _
def si (D:J) (n n' k:Nat):J:=dq D.length fun q=>if k<=q then eF D n' q else eF D n q
theorem anR (D:J) (n n':Nat):si D n n' 0=aK D n':=ra fun q _=>by simp
theorem anS (D:J) (n n':Nat):si D n n' D.length=aK D n:=ra fun q hq=>by simp;intro h;omega
theorem abq (D:J) (n n' k:Nat):bS (si D n n' (k+1)) k (eF D n' k)=si D n n' k:=by
 unfold si;rw[Tr];refine ra fun q _=>?_;by_cases e:q=k
 ·subst e;simp
 ·by_cases h:k<=q
  ·rw[if_neg e,if_pos (by omega),if_pos h]
  ·rw[if_neg e,if_neg (by omega),if_neg h]
theorem LH (D:J) (n n' k:Nat):aa (si D n n' k)=D.length:=fQ _ _
theorem DP {D:J} {n n' k:Nat} (h:k<D.length):cu (si D n n' (k+1)) k=some (eF D n k):=by
 unfold si;rw[KB _ h,if_neg (by omega)]
theorem ahI {a b:Nat} (hb:0<b) (ha:a<=1048576):D7 .i64 (a:Int) (b:Int)=some ((a/b:Nat):Int):=by
 have e:((a:Int)/(b:Int))=((a/b:Nat):Int):=by norm_cast
 have:a/b<=a:=Nat.div_le_self a b;unfold D7;rw[if_neg (by omega),Int.tdiv_eq_ediv_of_nonneg (by omega),e];clear e;generalize a/b=q at*
 rw[Nr (by omega) (by omega)]
theorem W4 {a b:Nat} (hb:0<b):mO (a:Int) (b:Int)=some ((a%b:Nat):Int):=by
 rw[asj (by omega) (by omega)];norm_cast
theorem MU {n:Nat} (h:n<=1048577):kx .i64 (n:Int) 1=(n:Int) - 1:=tI (by omega) (by omega)
theorem Yd (x:J×Int) (y:J) (h:vn x=some y):Ov aL x=some y:=by
 obtain⟨D,n⟩:=x;simp only[vn] at h;split at h
 ·rename_i hc;obtain⟨hD,h0,h1⟩:=hc;rw[<-h];obtain⟨n,rfl⟩:=pR h0;have hl:=hD.1;simp only[Ov,Int.toNat_natCast,aA];rw[pQ (n:=aa D) (by simp only[aa,dR];omega),bj];rw[show bo 0 (aa D) (aa (dC (aa D) (0:Int)))=some () from by rw[pO];exact bQ _,bj]
  rw[fk (fun j=>((D,((n/eP D (D.length - j):Nat):Int),(D.length:Int) - j - 1),dq D.length fun q=>if D.length - j<=q then eF D n q else 0)) (r:=Sum.inl (aK D n)) D.length ?_ ?_ ?_ (dY (by omega))]
  ·rw[mK,io,bj]
  ·intro j hj;have hk:D.length - (j+1)<D.length:=by omega
   obtain⟨d,d1,d2,d3,d4,d5⟩:=Fx hD hk;have ek:(D.length:Int) - j - 1=((D.length - (j+1):Nat):Int):=by omega
   have eT:eP D (D.length - (j+1))=d*eP D (D.length - j):=by rw[EF hk,d3];congr 2;omega
   have aim:eF D n (D.length - (j+1))=((n/eP D (D.length - j)%d:Nat):Int):=by unfold eF;rw[d3];congr 4;omega
   have gH:n/eP D (D.length - j)<=n:=Nat.div_le_self _ _;simp only
   rw[ek,aY (se (by omega)),dg,d1,bj,W4 (by omega),bj,Pn _ hk,bj,fU,KB _ hk,bj];simp only[bj];rw[ahI (by omega) (by omega),bj,<-aim,Tr];simp only[Ky,bj];rw[MU (by omega),Nat.div_div_eq_div_mul,Nat.mul_comm (eP D (D.length - j)) d,<-eT];have er:dq D.length (fun q=>if q=D.length - (j+1) then eF D n (D.length - (j+1)) else if D.length - j<=q then eF D n q else 0)=dq D.length fun q=>if D.length - (j+1)<=q then eF D n q else 0:=by
    refine ra fun q _=>?_;by_cases e:q=D.length - (j+1)
    ·rw[if_pos e,if_pos (by omega),e]
    ·rw[if_neg e];by_cases h:D.length - j<=q
     ·rw[if_pos h,if_pos (by omega)]
     ·rw[if_neg h,if_neg (by omega)]
   rw[er];congr 5;omega
  ·simp only
   rw[bc (AW (by omega))];simp only[Ky,bj];rw[show dq D.length (fun q=>if D.length - D.length<=q then eF D n q else 0)=aK D n from ra fun q _=>by simp]
  ·rw[Tq,Nat.sub_zero,EE,Nat.div_one];have e1:kx .i64 (aC (aa D)) 1=(D.length:Int) - ((0:Nat):Int) - 1:=by rw[nl,MU (by omega)];omega
   rw[e1];have e2:dq (aa D) (fun _=>(0:Int))=dq D.length fun q=>if D.length<=q then eF D n q else 0:=ra fun q hq=>by rw[if_neg (by have:aa D=D.length:=rfl;omega)]
   rw[e2]
 ·cases h
theorem aie {a k:Nat} (hk:0<k) (h:(a+1)%k≠0):(a+1)/k=a/k:=by
 rw[Nat.succ_div,if_neg (fun hd=>h (Nat.mod_eq_zero_of_dvd hd)),Nat.add_zero]
theorem aif {a k:Nat} (hk:0<k) (h:(a+1)%k=0):(a+1)/k=a/k+1:=by
 rw[Nat.succ_div,if_pos (Nat.dvd_of_mod_eq_zero h)]
theorem ah9 {D:J} (hD:mC D) {n i:Nat} (hi:i<=D.length) (h:(n+1)%eP D i≠0) {q:Nat} (hq:q<i):eF D (n+1) q=eF D n q:=by
 unfold eF;rw[aie (agq hD _)];intro h0;exact h (Nat.mod_eq_zero_of_dvd (Nat.dvd_trans (agp hq hi) (Nat.dvd_of_mod_eq_zero h0)))
theorem XA {D:J} (hD:mC D) {n i:Nat} (hi:i<D.length) (h:(n+1)%eP D (i+1)=0):
  (eF D n i+1<D.getD i 0->eF D (n+1) i=eF D n i+1/\(n+1)%eP D i≠0)/\(¬eF D n i+1<D.getD i 0->eF D (n+1) i=0/\(n+1)%eP D i=0):=by
 obtain⟨d,d1,d2,d3,d4,d5⟩:=Fx hD hi;have hT:=agq hD (i+1);have e1:=aif hT h;obtain⟨c,hc⟩:=Nat.dvd_of_mod_eq_zero h;have ec:(n+1)/eP D (i+1)=c:=by rw[hc,Nat.mul_div_cancel_left _ hT]
 have aip:(n+1)%eP D i=eP D (i+1)*(c%d):=by rw[EF hi,d3,hc,Nat.mul_comm d,Nat.mul_mod_mul_left]
 unfold eF;rw[d2,ec,aip];simp only[Int.toNat_natCast];rw[ec] at e1;have cj:n/eP D (i+1)%d<d:=Nat.mod_lt _ (by omega);have db:c%d=if n/eP D (i+1)%d+1<d then n/eP D (i+1)%d+1 else 0:=by
  rw[e1,Nat.add_mod];split
  ·rename_i hx;by_cases Z1:d=1
   ·omega
   ·rw[Nat.mod_eq_of_lt (show 1<d by omega),Nat.mod_eq_of_lt hx]
  ·by_cases Z1:d=1
   ·subst Z1;omega
   ·rw[Nat.mod_eq_of_lt (show 1<d by omega),show n/eP D (i+1)%d+1=d by omega,Nat.mod_self]
 constructor
 ·intro hx;rw[db,if_pos (by omega)];refine⟨by omega,?_⟩;have:=Nat.mul_pos hT (show 0<n/eP D (i+1)%d+1 by omega);omega
 ·intro hx;rw[db,if_neg (by omega)];exact⟨by omega,by simp⟩
theorem ajw (x:J×J) (y:Bool×J) (h:xn x=some y):NP aL x=some y:=by
 obtain⟨D,ix⟩:=x;simp only[xn] at h;split at h
 ·rename_i hc;obtain⟨hD,yb,hn,hp⟩:=hc;rw[<-h];generalize g0 D ix D.length=n at*
  subst yb;have hl:=hD.1;have hlen:(aK D n).length=D.length:=fQ _ _;simp only[NP,aA];rw[bQ,bj];obtain⟨k,k1,k2,k3⟩:=EA (fun j=>(n+1)%eP D (D.length - (j+1))=0) D.length;have KG:∀j,j<=k->(n+1)%eP D (D.length - j)=0:=fun j hj=>by
   cases j with
   |zero=>rw[Nat.sub_zero,EE];omega
   |succ j=>exact k2 j (by omega)
  have qF:∀j,j<k->eF D (n+1) (D.length - (j+1))=0/\¬eF D n (D.length - (j+1))+1<D.getD (D.length - (j+1)) 0:=fun j hj=>by
   have hk:D.length - (j+1)<D.length:=by omega
   have h1:=KG j (by omega);rw[show D.length - j=D.length - (j+1)+1 by omega] at h1;obtain⟨c1,c2⟩:=XA hD hk h1;by_cases hx:eF D n (D.length - (j+1))+1<D.getD (D.length - (j+1)) 0
   ·exact absurd (KG (j+1) (by omega)) (c1 hx).2
   ·exact⟨(c2 hx).1,hx⟩
  have Z0:∀q,0<=eF D n q/\eF D n q<=1048576:=fun q=>by
   unfold eF;have h1:n/eP D (q+1)%(D.getD q 0).toNat<=n/eP D (q+1):=Nat.mod_le _ _;have h2:n/eP D (q+1)<=n:=Nat.div_le_self _ _;omega
  have e0:kx .i64 (aC (aa D)) 1=(D.length:Int) - ((0:Nat):Int) - 1:=by rw[nl,MU (by omega)];omega
  rw[fk (fun j=>((D,(D.length:Int) - (j:Int) - 1),si D n (n+1) (D.length - j))) (r:=if k=D.length then Sum.inl (aK D (n+1)) else Sum.inr (true,aK D (n+1))) k ?_ ?_ ?_ (dY (by omega))]
  ·by_cases hk:k=D.length
   ·rw[if_pos hk,mK];have hz:(n+1)%bY D=0:=by have:=KG k (Nat.le_refl _);rwa[hk,Nat.sub_self,VO] at this
    have Gj:¬n+1<bY D:=fun hx=>by rw[Nat.mod_eq_of_lt hx] at hz;omega
    rw[decide_eq_false Gj,w4 (by show aa (aK D (n+1))=aa (aK D n);unfold aK;rw[AX,AX]),bj]
   ·rw[if_neg hk,GH];have KY:=(k3.resolve_left hk);have Gj:n+1<bY D:=by
     rcases Nat.lt_or_ge (n+1) (bY D) with h|h
     ·exact h
     ·exfalso;have e:n+1=bY D:=by omega
      apply KY;rw[e,<-VO];exact Nat.mod_eq_zero_of_dvd (agp (Nat.zero_le _) (by omega))
    rw[decide_eq_true Gj]
  ·intro j hj;have hk:D.length - (j+1)<D.length:=by omega
   have ek:(D.length:Int) - j - 1=((D.length - (j+1):Nat):Int):=by omega
   obtain⟨s1,s2⟩:=qF j hj;have te:=Z0 (D.length - (j+1));simp only
   rw[ek,show D.length - j=D.length - (j+1)+1 by omega,aY (se (by omega)),mz (by rw[LH];exact hk),bj,fU,DP hk,bj];simp only[bj,fU,DP hk];rw[eK (by omega) (by omega)];have eg:cu (bS (si D n (n+1) (D.length - (j+1)+1)) (D.length - (j+1)) (eF D n (D.length - (j+1))+1)) (D.length - (j+1))=some (eF D n (D.length - (j+1))+1):=KC (DP hk);rw[eg,bj,dg,getD_some 0 hk,bj,bc (eJ (by omega))]
   try simp only[bj,fU,eg]
   rw[U8,<-s1,abq,LH,LH,bQ,bj,MU (by omega)];congr 4;omega
  ·by_cases hk:k=D.length
   ·rw[if_pos hk,hk];simp only
    rw[bc (AW (by omega)),Nat.sub_self,anR]
   ·rw[if_neg hk];have nh:D.length - (k+1)<D.length:=by omega
    have ek:(D.length:Int) - k - 1=((D.length - (k+1):Nat):Int):=by omega
    have h1:=KG k (Nat.le_refl _);rw[show D.length - k=D.length - (k+1)+1 by omega] at h1;obtain⟨c1,c2⟩:=XA hD nh h1;have KY:=(k3.resolve_left hk);have hx:eF D n (D.length - (k+1))+1<D.getD (D.length - (k+1)) 0:=by
     rcases Decidable.em (eF D n (D.length - (k+1))+1<D.getD (D.length - (k+1)) 0) with h|h
     ·exact h
     ·exact absurd (c2 h).2 KY
    obtain⟨s1,s2⟩:=c1 hx;have te:=Z0 (D.length - (k+1));simp only
    rw[ek,show D.length - k=D.length - (k+1)+1 by omega,aY (se (by omega)),mz (by rw[LH];exact nh),bj,fU,DP nh,bj];simp only[bj,fU,DP nh];rw[eK (by omega) (by omega)];have eg:cu (bS (si D n (n+1) (D.length - (k+1)+1)) (D.length - (k+1)) (eF D n (D.length - (k+1))+1)) (D.length - (k+1))=some (eF D n (D.length - (k+1))+1):=KC (DP nh);rw[eg,bj,dg,getD_some 0 nh,bj,aY (dQ (by omega))];rw[<-s1,abq];have er:si D n (n+1) (D.length - (k+1))=aK D (n+1):=ra fun q hq=>by
     by_cases h:D.length - (k+1)<=q
     ·rw[if_pos h]
     ·rw[if_neg h,ah9 hD (by omega) KY (by omega)]
    rw[er,w4 (by show aa (aK D (n+1))=aa (aK D n);unfold aK;rw[AX,AX]),bj];rfl
  ·rw[e0,Nat.sub_zero,anS]
 ·cases h
theorem AD {D:J} {n i:Nat} (hi:i<D.length):(aK D n).getD i 0=eF D n i:=by
 rw[List.getD_eq_getElem?_getD,aK,vc _ hi];rfl
theorem acU {D:J} (hD:mC D) {n:Nat} (hn:n<bY D):∀j,j<=D.length->g0 D (aK D n) j=n/eP D j
 |0,_=>by rw[VO,Nat.div_eq_of_lt hn];rfl
 |j+1,hj=>by
  rw[g0,acU hD hn j (by omega),AD (by omega),eF,Int.toNat_natCast,EF (by omega),Nat.mul_comm (D.getD j 0).toNat,<-Nat.div_div_eq_div_mul,Nat.mul_comm,Nat.div_add_mod]
theorem DR {D:J} (hD:mC D) {n:Nat} (hn:n<bY D) (hp:bY D<=1048576):xn (D,aK D n)=some (decide (n+1<bY D),aK D (n+1)):=by
 have e:=acU hD hn D.length (Nat.le_refl _);rw[EE,Nat.div_one] at e;simp only[xn,e];rw[if_pos ⟨hD,trivial,hn,hp⟩]
theorem y4 (n:Nat) (f:Nat->Int):dF (dq n f) [f n]=dq (n+1) f:=by
 unfold dF dq;rw[List.range_succ,List.map_append];rfl
theorem aaA {D:J} (hD:mC D):dC (aa D) (0:Int)=aK D 0:=by
 rw[Tq];refine ra fun i _=>?_;simp[eF]
def xw:J×J->Option Bool:=fun x=>if x.1.length<=1048576/\x.2.length<=1048576 then some (decide (x.1=x.2)) else none
def zr:J×J->Option Bool:=xw
def Jy:ak:=[(.one,[.list [.int .i64]]),(.one,[.list [.int .i64]])]
def UG:ak:=[(.one,[.bool])]
def aoX:aM:=[]
def Iy:ak:=[(.one,[.list [.int .i64]]),(.one,[.list [.int .i64]])]
def TI:ak:=[(.one,[.bool])]
def an8:aM:=[]
def OA (NN:Nat):(J×J)->(Option Bool):=
 (fun((l0,l1):(J×J))=>
 bV (ci NN (fun((l2,l3,l4,i5,i6):(J×(J×(J×(Int×Int)))))=>
 av (bG i6 i5)
 ((cM l4 i6).ae (fun i7=>
 av (jb (aC (aa l3)) i6)
 (some (Sum.inr (Sum.inr false)))
 ((cM l3 i6).ae (fun i8=>
 av (fq i8 i7)
 (some (Sum.inr (Sum.inr false)))
 (some (Sum.inl (l2,l3,l4,i5,cC .i64 i6 1)))))))
 (some (Sum.inr (Sum.inl (l2,l3)))))
 (l0,l1,l0,aC (aa l0),(0:Int)))
 (fun(l9,ed)=>
 some (dD (aC (aa l9)) (aC (aa ed)))))
def NK (NN:Nat):(J×J)->(Option Bool):=
 (fun((l0,l1):(J×J))=>
 av (fq (aC (aa l0)) (aC (aa l1)))
 (some false)
 (bV (ci NN (fun((l2,l3,i4,i5):(J×(J×(Int×Int))))=>
 av (bG i5 i4)
 ((cM l2 i5).ae (fun i6=>
 (cM l3 i5).ae (fun i7=>
 av (fq i6 i7)
 (some (Sum.inr (Sum.inr false)))
 (some (Sum.inl (l2,l3,i4,cC .i64 i5 1))))))
 (some (Sum.inr (Sum.inl ()))))
 (l0,l1,aC (aa l0),(0:Int)))
 (fun _=>
 some true)))
theorem Kg {x y:J} (h:x.length=y.length):(x=y)↔∀k,k<x.length->x.getD k 0=y.getD (0+k) 0:=by
 constructor
 ·rintro rfl k _;rw[Nat.zero_add]
 ·intro h1;apply List.ext_getElem?;intro k;by_cases hk:k<x.length
  ·have:=h1 k hk;rw[Nat.zero_add] at this;rw[getD_some 0 hk,getD_some 0 (show k<y.length by omega),this]
  ·rw[List.getElem?_eq_none (by omega),List.getElem?_eq_none (by omega)]
theorem ajr (x:J×J) (y:Bool) (h:zr x=some y):NK aL x=some y:=by
 obtain⟨D,ix⟩:=x;simp only[zr,xw] at h;split at h
 ·rename_i hc;obtain⟨h1,h2⟩:=hc;rw[<-h];simp only[NK];by_cases hl:D.length=ix.length
  ·rw[bc (pS (by simp only[nl,hl]))];rw[abh D (fun(_:Unit) i=>(D,ix,aC (aa D),(i:Int))) (fun _ _=>True) (fun i _ v=>if decide (v=ix.getD i 0)=true then some () else none) (Sum.inr false) (fun _=>Sum.inl ()) ?_ ?_ ?_ (s:=()) trivial ?_ (dY (by omega))]
   ·rw[Qk (fun i v=>decide (v=ix.getD i 0)) 0];by_cases hk:∀k,k<D.length->decide (D.getD k 0=ix.getD (0+k) 0)=true
    ·rw[if_pos hk,decide_eq_true ((Kg hl).2 fun k bJ=>of_decide_eq_true (hk k bJ))];rfl
    ·rw[if_neg hk,decide_eq_false (fun h=>hk fun k bJ=>decide_eq_true ((Kg hl).1 h k bJ))];rfl
   all_goals try simp only
   ·intro i _ v hv _;have hi:=yI hv;rw[aY (kv hv),dg,hv,bj,dg,getD_some 0 (show i<ix.length by omega),bj];by_cases q:v=ix.getD i 0
    ·rw[bc (pS q),if_pos (decide_eq_true q),nA hv (by omega)]
    ·rw[aY (tz q),if_neg (fun h=>q (of_decide_eq_true h))]
   ·intros;trivial
   ·intro _ _;rw[bc (gD D)]
   ·rfl
  ·rw[aY (tz (by simp only[nl];omega)),decide_eq_false (fun e=>hl (by rw[e]))]
 ·cases h
theorem akj (x:J×J) (y:Bool) (h:xw x=some y):OA aL x=some y:=by
 obtain⟨D,ix⟩:=x;simp only[xw] at h;split at h
 ·rename_i hc;obtain⟨h1,h2⟩:=hc;rw[<-h];simp only[OA];rw[abh D (fun(_:Unit) i=>(D,ix,D,aC (aa D),(i:Int))) (fun _ _=>True) (fun i _ v=>if(decide (i<ix.length)&&decide (v=ix.getD i 0))=true then some () else none) (Sum.inr false) (fun _=>Sum.inl (D,ix)) ?_ ?_ ?_ (s:=()) trivial ?_ (dY (by omega))]
  ·rw[Qk (fun i v=>decide (i<ix.length)&&decide (v=ix.getD i 0)) 0];by_cases hl:D.length=ix.length
   ·by_cases hk:∀k,k<D.length->(decide (0+k<ix.length)&&decide (D.getD k 0=ix.getD (0+k) 0))=true
    ·rw[if_pos hk,decide_eq_true ((Kg hl).2 fun k bJ=>by have:=hk k bJ;simp only[Bool.and_eq_true,decide_eq_true_eq] at this;exact this.2)];simp only[mK];rw[rH (by simp only[nl,hl])]
    ·rw[if_neg hk,decide_eq_false (fun h=>hk fun k bJ=>by simp only[Bool.and_eq_true,decide_eq_true_eq];exact⟨by omega,(Kg hl).1 h k bJ⟩)];rfl
   ·rw[decide_eq_false (fun e=>hl (by rw[e]))];split
    ·simp only[mK];rw[rG (by simp only[nl];omega)]
    ·rfl
  all_goals try simp only
  ·intro i _ v hv _;have hi:=yI hv;rw[aY (kv hv),dg,hv,bj];by_cases hk:i<ix.length
   ·rw[bc (AW (by rw[nl];omega)),dg,getD_some 0 hk,bj];by_cases q:v=ix.getD i 0
    ·rw[bc (pS q.symm),if_pos (by rw[decide_eq_true hk,decide_eq_true q];rfl),nA hv (by omega)]
    ·rw[aY (tz (fun e=>q e.symm)),if_neg (by rw[decide_eq_true hk,decide_eq_false q];simp)]
   ·rw[aY (se (by rw[nl];omega)),if_neg (by rw[decide_eq_false hk];simp)]
  ·intros;trivial
  ·intro _ _;rw[bc (gD D)]
  ·rfl
 ·cases h
def gT:Int×Int×Int->Bool:=fun((k,p,n):Int×Int×Int)=>
 if k=1 then decide (p=0/\n=0) else if k=2 then gZ p&&decide (n=0) else if k=3\/k=4\/k=5 then decide ((1<=p/\p<=1000000)/\n=0)
 else if k=6 then decide (p=0/\1<=n/\n<=20) else if k=7 then gZ p&&decide (1<=n/\n<=6) else if k=8 then gZ p&&decide (p≠2/\n=0) else false
def jL:Int×Int×Int->Int:=fun((k,p,n):Int×Int×Int)=>if k=7 then n else if k=8 then 4 else 1
def aR (r:Int×Int×Int):Nat:=(jL r).toNat
def fa:Int×Int×Int->Int:=fun((k,p,n):Int×Int×Int)=>if k=1 then 1 else if k=3\/k=4\/k=5 then p else if k=6 then 2^n.toNat - 1 else p - 1
def qL (t v:Int):Bool:=decide (0<=v/\v<=t)
def nM (r:Int×Int×Int) (x:J):Bool:=decide (x.length=aR r)&&x.all (qL (fa r))
def jq:Int×Int×Int->J:=fun((k,p,n):Int×Int×Int)=>if k=4 then[p] else dC (aR (k,p,n)) 0
def DW:Int×Int×Int->J:=fun((k,p,n):Int×Int×Int)=>bS (dC (aR (k,p,n)) 0) 0 (if k=4 then 0 else if k=5\/k=6 then fa (k,p,n) else 1)
def sm:Nat->(Nat->Int)->Int
 |0,_=>0
 |n+1,f=>sm n f+f n
def kW (om:Bool) (x y:Nat->Int) (t i j:Nat):Int:=if i+j=t then x i*y j else if om=true/\i+j=t+4 then -(x i*y j) else 0
def pb (w:Nat) (f:Nat->Int):J:=(List.range w).map f
def fv (x:J):Nat->Int:=fun i=>x.getD i 0
def zP (p:Int) (om:Bool) (w:Nat) (x y:Nat->Int):J:=pb w fun t=>sm w (fun i=>sm w (fun j=>kW om x y t i j))%p
def qX:Int×Int×Int->Int->Int->Int:=fun((k,p,n):Int×Int×Int) a b=>
 if k=1\/k=6 then((a.toNat&&&b.toNat:Nat):Int) else if k=2 then a*b%p else if k=3 then min (a*b) p else if k=4 then min (a+b) p else min a b
def yJ (r:Int×Int×Int) (x y:J):J:=if r.1=7\/r.1=8 then zP r.2.1 (decide (r.1=8)) (aR r) (fv x) (fv y) else[qX r (fv x 0) (fv y 0)]
def B1:Int×Int×Int->Option Bool:=fun r=>some (gT r)
def BF:Int×Int×Int->Option Bool:=fun r=>some (gT r)
def tW:Int×Int×Int->Option Int:=fun r=>some (jL r)
def tO:Int×Int×Int->Option Int:=fun r=>some (jL r)
def EW:Int×Int×Int->Option Int:=fun r=>if gT r=true then some (fa r) else none
def BN:Int×Int×Int->Option Int:=fun r=>if gT r=true then some (fa r) else none
def BK:(Int×Int×Int)×J->Option Bool:=fun((r,x):(Int×Int×Int)×J)=>if gT r=true/\x.length<=9223372036854775806 then some (x.all (qL (fa r))) else none
def EX:Int×Int×Int->Option J:=fun r=>if gT r=true then some (jq r) else none
def BO:Int×Int×Int->Option J:=fun r=>if gT r=true then some (jq r) else none
def zv:Int×Int×Int->Option (Int×Int×Int):=fun r=>some r
def Jb:ak:=[(.agg,[.int .i64,.int .i64,.int .i64])]
def Ui:ak:=[(.agg,[.int .i64,.int .i64,.int .i64])]
def aoB:aM:=[]
def Ir:ak:=[(.agg,[.int .i64,.int .i64,.int .i64])]
def TA:ak:=[(.one,[.bool])]
def an1:aM:=[]
def Ji:ak:=[(.agg,[.int .i64,.int .i64,.int .i64])]
def Up:ak:=[(.one,[.bool])]
def aoI:aM:=[]
def II:ak:=[(.agg,[.int .i64,.int .i64,.int .i64])]
def TS:ak:=[(.one,[.int .i64])]
def aoh:aM:=[]
def Jn:ak:=[(.agg,[.int .i64,.int .i64,.int .i64])]
def Uv:ak:=[(.one,[.int .i64])]
def aoN:aM:=[]
def IH:ak:=[(.agg,[.int .i64,.int .i64,.int .i64])]
def TR:ak:=[(.one,[.int .i64])]
def aog:aM:=[]
def Jm:ak:=[(.agg,[.int .i64,.int .i64,.int .i64])]
def Uu:ak:=[(.one,[.int .i64])]
def aoM:aM:=[]
def IB:ak:=[(.agg,[.int .i64,.int .i64,.int .i64]),(.one,[.list [.int .i64]])]
def TL:ak:=[(.one,[.bool])]
def aob:aM:=[]
def IJ:ak:=[(.agg,[.int .i64,.int .i64,.int .i64])]
def TT:ak:=[(.one,[.list [.int .i64]])]
def aoi:aM:=[]
def Jo:ak:=[(.agg,[.int .i64,.int .i64,.int .i64])]
def Uw:ak:=[(.one,[.list [.int .i64]])]
def aoO:aM:=[]
def Wh (NN:Nat):(Int×(Int×Int))->(Option (Int×(Int×Int))):=
 (fun((i0,i1,i2):(Int×(Int×Int)))=>
 some (i0,i1,i2))
def ND (NN:Nat):(Int×(Int×Int))->(Option Bool):=
 (fun((i0,i1,i2):(Int×(Int×Int)))=>
 av (dD i0 (1:Int))
 (av (dD i1 (0:Int))
 (some (dD i2 (0:Int)))
 (some false))
 (av (dD i0 (2:Int))
 ((xk i1).ae (fun b3=>
 av (b3)
 (some (dD i2 (0:Int)))
 (some false)))
 (bV (av (dD i0 (3:Int))
 (some (Sum.inl ((true,i0),i0,i1,i2)))
 (av (dD i0 (4:Int))
 (some (Sum.inl ((true,i0),i0,i1,i2)))
 (some (Sum.inl ((dD i0 (5:Int),i0),i0,i1,i2)))))
 (fun((b4,i5),i6,i7,i8)=>
 av (b4)
 (av (jb (1:Int) i7)
 (av (jb i7 (1000000:Int))
 (some (dD i8 (0:Int)))
 (some false))
 (some false))
 (av (dD i5 (6:Int))
 (av (dD i7 (0:Int))
 (av (jb (1:Int) i8)
 (some (jb i8 (20:Int)))
 (some false))
 (some false))
 (av (dD i5 (7:Int))
 ((xk i7).ae (fun b9=>
 av (b9)
 (av (jb (1:Int) i8)
 (some (jb i8 (6:Int)))
 (some false))
 (some false)))
 (av (dD i5 (8:Int))
 ((xk i7).ae (fun oE=>
 av (oE)
 (av (fq i7 (2:Int))
 (some (dD i8 (0:Int)))
 (some false))
 (some false)))
 (some false))))))))
def Ok (NN:Nat):(Int×(Int×Int))->(Option Bool):=
 (fun((i0,i1,i2):(Int×(Int×Int)))=>
 av (dD i0 (1:Int))
 (av (dD i1 (0:Int))
 (some (dD i2 (0:Int)))
 (some false))
 (av (dD i0 (2:Int))
 ((xt i1).ae (fun b3=>
 av (b3)
 (some (dD i2 (0:Int)))
 (some false)))
 (bV (av (dD i0 (3:Int))
 (some (Sum.inl ((true,i0),i0,i1,i2)))
 (av (dD i0 (4:Int))
 (some (Sum.inl ((true,i0),i0,i1,i2)))
 (some (Sum.inl ((dD i0 (5:Int),i0),i0,i1,i2)))))
 (fun((b4,i5),i6,i7,i8)=>
 av (b4)
 ((ky (i7,(1:Int),(1000000:Int))).ae (fun b9=>
 av (b9)
 (some (dD i8 (0:Int)))
 (some false)))
 (av (dD i5 (6:Int))
 (av (dD i7 (0:Int))
 ((ky (i8,(1:Int),(20:Int))).ae (fun oE=>
 some oE))
 (some false))
 (av (dD i5 (7:Int))
 ((xt i7).ae (fun Cl=>
 av (Cl)
 ((ky (i8,(1:Int),(6:Int))).ae (fun OX=>
 some OX))
 (some false)))
 (av (dD i5 (8:Int))
 ((xt i7).ae (fun zF=>
 av (zF)
 (av (bG (2:Int) i7)
 (some (dD i8 (0:Int)))
 (some false))
 (some false)))
 (some false))))))))
def NT (NN:Nat):(Int×(Int×Int))->(Option Int):=
 (fun((i0,i1,i2):(Int×(Int×Int)))=>
 av (dD i0 (7:Int))
 (some i2)
 (av (dD i0 (8:Int))
 (some (4:Int))
 (some (1:Int))))
def Wj (NN:Nat):(Int×(Int×Int))->(Option Int):=
 (fun((i0,i1,i2):(Int×(Int×Int)))=>
 av (dD i0 (7:Int))
 (some i2)
 (av (dD i0 (8:Int))
 (some (4:Int))
 (some (1:Int))))
def Wa (NN:Nat):(Int×(Int×Int))->(Option Int):=
 (fun((i0,i1,i2):(Int×(Int×Int)))=>
 av (dD i0 (1:Int))
 (some (1:Int))
 (bV (av (dD i0 (3:Int))
 (some (Sum.inl ((true,i0),i0,i1,i2)))
 (av (dD i0 (4:Int))
 (some (Sum.inl ((true,i0),i0,i1,i2)))
 (some (Sum.inl ((dD i0 (5:Int),i0),i0,i1,i2)))))
 (fun((b3,i4),i5,i6,i7)=>
 av (b3)
 (some i6)
 (av (dD i4 (6:Int))
 ((y7 .i64 (1:Int) i7).ae (fun i8=>
 some (kx .i64 i8 1)))
 (some (kx .i64 i6 1))))))
def Wi (NN:Nat):(Int×(Int×Int))->(Option Int):=
 (fun((i0,i1,i2):(Int×(Int×Int)))=>
 av (dD i0 (1:Int))
 (some (1:Int))
 (bV (av (dD i0 (3:Int))
 (some (Sum.inl ((true,i0),i0,i1,i2)))
 (av (dD i0 (4:Int))
 (some (Sum.inl ((true,i0),i0,i1,i2)))
 (some (Sum.inl ((dD i0 (5:Int),i0),i0,i1,i2)))))
 (fun((b3,i4),i5,i6,i7)=>
 av (b3)
 (some i6)
 (av (dD i4 (6:Int))
 ((y7 .i64 (1:Int) i7).ae (fun i8=>
 some (kx .i64 i8 1)))
 (some (kx .i64 i6 1))))))
def NO (NN:Nat):((Int×(Int×Int))×J)->(Option Bool):=
 (fun(((i0,i1,i2),l3):((Int×(Int×Int))×J))=>
 (BN (i0,i1,i2)).ae (fun i4=>
 bV (ci NN (fun((i5,l6,i7,i8):(Int×(J×(Int×Int))))=>
 av (bG i8 i7)
 ((cM l6 i8).ae (fun i9=>
 av (bG i9 (0:Int))
 (some (Sum.inr (Sum.inr false)))
 (av (bG i5 i9)
 (some (Sum.inr (Sum.inr false)))
 (some (Sum.inl (i5,l6,i7,cC .i64 i8 1))))))
 (some (Sum.inr (Sum.inl ()))))
 (i4,l3,aC (aa l3),(0:Int)))
 (fun _=>
 some true)))
def NU (NN:Nat):(Int×(Int×Int))->(Option J):=
 (fun((i0,i1,i2):(Int×(Int×Int)))=>
 (tO (i0,i1,i2)).ae (fun i3=>
 (lV i3 i3 8).ae (fun k4=>
 bV (av (dD i0 (4:Int))
 ((eX (0:Int) k4).ae (fun k5=>
 (cu (dC k4 (0:Int)) (aG 0 k5)).ae (fun i6=>
 (bo 0 k4 (aa (bS (dC k4 (0:Int)) (aG 0 k5) i1))).ae (fun _=>
 some (Sum.inl (bS (dC k4 (0:Int)) (aG 0 k5) i1))))))
 ((bo 0 k4 (aa (dC k4 (0:Int)))).ae (fun _=>
 some (Sum.inl (dC k4 (0:Int))))))
 (fun l7=>
 (dP l7 (aa l7)).ae (fun l8=>
 some l8)))))
def Wk (NN:Nat):(Int×(Int×Int))->(Option J):=
 (fun((i0,i1,i2):(Int×(Int×Int)))=>
 (tW (i0,i1,i2)).ae (fun i3=>
 (lV i3 i3 8).ae (fun k4=>
 bV (av (dD i0 (4:Int))
 ((eX (0:Int) k4).ae (fun k5=>
 (cu (dC k4 (0:Int)) (aG 0 k5)).ae (fun i6=>
 (bo 0 k4 (aa (bS (dC k4 (0:Int)) (aG 0 k5) i1))).ae (fun _=>
 some (Sum.inl (bS (dC k4 (0:Int)) (aG 0 k5) i1))))))
 ((bo 0 k4 (aa (dC k4 (0:Int)))).ae (fun _=>
 some (Sum.inl (dC k4 (0:Int))))))
 (fun l7=>
 (dP l7 (aa l7)).ae (fun l8=>
 some l8)))))
theorem ajX (x y:Int×Int×Int) (h:zv x=some y):Wh aL x=some y:=h
theorem atU (r:Int×Int×Int):zv r=some r:=rfl
theorem Xi {α:Type} (a b:Int) (x y:α):av (dD a b) x y=if a=b then x else y:=by
 by_cases h:a=b
 ·rw[if_pos h,aY (rH h)]
 ·rw[if_neg h,bc (rG h)]
theorem XM (a b:Int):dD a b=decide (a=b):=by by_cases h:a=b<;>simp[dD,h]
theorem anE (a b:Int):jb a b=decide (a<=b):=rfl
theorem anK (a b:Int):bG a b=decide (a<b):=rfl
theorem J2 {α:Type} (p:Prop) [Decidable p] (x y:α):av (decide p) x y=if p then x else y:=by
 by_cases h:p
 ·rw[if_pos h,aY (decide_eq_true h)]
 ·rw[if_neg h,bc (decide_eq_false h)]
theorem Ee {k p n:Int} (h:gT (k,p,n)=true):(k=1/\p=0/\n=0)\/(k=2/\gZ p=true/\n=0)\/(k=3/\(1<=p/\p<=1000000)/\n=0)\/(k=4/\(1<=p/\p<=1000000)/\n=0)\/(k=5/\(1<=p/\p<=1000000)/\n=0)\/
  (k=6/\p=0/\1<=n/\n<=20)\/(k=7/\gZ p=true/\1<=n/\n<=6)\/(k=8/\gZ p=true/\p≠2/\n=0):=by
 simp only[gT] at h;by_cases h1:k=1
 ·rw[if_pos h1] at h;exact .inl ⟨h1,by simpa using h⟩
 rw[if_neg h1] at h;by_cases h2:k=2
 ·rw[if_pos h2] at h;simp at h;exact .inr (.inl ⟨h2,h⟩)
 rw[if_neg h2] at h;by_cases h3:k=3\/k=4\/k=5
 ·rw[if_pos h3] at h;simp only[decide_eq_true_eq] at h;rcases h3 with h3|h3|h3
  ·exact .inr (.inr (.inl ⟨h3,h⟩))
  ·exact .inr (.inr (.inr (.inl ⟨h3,h⟩)))
  ·exact .inr (.inr (.inr (.inr (.inl ⟨h3,h⟩))))
 rw[if_neg h3] at h;by_cases h4:k=6
 ·rw[if_pos h4] at h;simp at h;exact .inr (.inr (.inr (.inr (.inr (.inl ⟨h4,h⟩)))))
 rw[if_neg h4] at h;by_cases h5:k=7
 ·rw[if_pos h5] at h;simp at h;exact .inr (.inr (.inr (.inr (.inr (.inr (.inl ⟨h5,h⟩))))))
 rw[if_neg h5] at h;by_cases h6:k=8
 ·rw[if_pos h6] at h;simp at h;exact .inr (.inr (.inr (.inr (.inr (.inr (.inr ⟨h6,h⟩))))))
 rw[if_neg h6] at h;cases h
theorem ajk (x:Int×Int×Int) (y:Bool) (h:BF x=some y):ND aL x=some y:=by
 obtain⟨k,p,n⟩:=x;rw[<-h];simp only[BF,ND,gT,xk,bj,XM,anE,J2];by_cases h1:k=1
 ·rw[if_pos h1,if_pos h1];by_cases hp:p=0<;>by_cases hn:n=0<;>simp[hp,hn]
 rw[if_neg h1,if_neg h1];by_cases h2:k=2
 ·rw[if_pos h2,if_pos h2];cases gZ p<;>rfl
 rw[if_neg h2,if_neg h2];have hd:(if k=3 then some (Sum.inl ((true,k),k,p,n)) else if k=4 then some (Sum.inl ((true,k),k,p,n)) else some (Sum.inl ((decide (k=5),k),k,p,n)):Option (((Bool×Int)×Int×Int×Int)⊕Bool))=some (Sum.inl ((decide (k=3\/k=4\/k=5),k),k,p,n)):=by
  by_cases h3:k=3
  ·simp[h3]
  ·by_cases h4:k=4
   ·simp[h4]
   ·simp[h3,h4]
 rw[hd,mK];simp only[J2];by_cases h3:k=3\/k=4\/k=5
 ·rw[if_pos h3,if_pos h3];by_cases ha:1<=p
  ·by_cases hb:p<=1000000<;>simp[ha,hb]
  ·simp[ha]
 rw[if_neg h3,if_neg h3];by_cases h4:k=6
 ·rw[if_pos h4,if_pos h4];by_cases ha:p=0
  ·by_cases hb:1<=n<;>simp[ha,hb]
  ·simp[ha]
 rw[if_neg h4,if_neg h4];by_cases h5:k=7
 ·rw[if_pos h5,if_pos h5];cases gZ p
  ·rfl
  ·rw[aY rfl];by_cases hb:1<=n<;>simp[hb]
 rw[if_neg h5,if_neg h5];by_cases h6:k=8
 ·rw[if_pos h6,if_pos h6];cases gZ p
  ·rfl
  ·rw[aY rfl,LU,Bool.true_and];by_cases hb:p=2<;>simp[hb,av]
 rw[if_neg h6,if_neg h6]
theorem aj4 (x:Int×Int×Int) (y:Bool) (h:B1 x=some y):Ok aL x=some y:=by
 obtain⟨k,p,n⟩:=x;rw[<-h];simp only[B1,Ok,gT,xt,ky,bj,XM,anK,J2];by_cases h1:k=1
 ·rw[if_pos h1,if_pos h1];by_cases hp:p=0<;>by_cases hn:n=0<;>simp[hp,hn]
 rw[if_neg h1,if_neg h1];by_cases h2:k=2
 ·rw[if_pos h2,if_pos h2];cases gZ p<;>rfl
 rw[if_neg h2,if_neg h2];have hd:(if k=3 then some (Sum.inl ((true,k),k,p,n)) else if k=4 then some (Sum.inl ((true,k),k,p,n)) else some (Sum.inl ((decide (k=5),k),k,p,n)):Option (((Bool×Int)×Int×Int×Int)⊕Bool))=some (Sum.inl ((decide (k=3\/k=4\/k=5),k),k,p,n)):=by
  by_cases h3:k=3
  ·simp[h3]
  ·by_cases h4:k=4
   ·simp[h4]
   ·simp[h3,h4]
 rw[hd,mK];simp only[J2];by_cases h3:k=3\/k=4\/k=5
 ·rw[if_pos h3,if_pos h3];by_cases ha:1<=p/\p<=1000000<;>simp[ha]
 rw[if_neg h3,if_neg h3];by_cases h4:k=6
 ·rw[if_pos h4,if_pos h4];by_cases ha:p=0<;>simp[ha]
 rw[if_neg h4,if_neg h4];by_cases h5:k=7
 ·rw[if_pos h5,if_pos h5];cases gZ p<;>rfl
 rw[if_neg h5,if_neg h5];by_cases h6:k=8
 ·rw[if_pos h6,if_pos h6];cases hp:gZ p
  ·rfl
  ·have:=qM hp;rw[aY rfl,Bool.true_and];by_cases hb:p=2
   ·simp[hb]
   ·rw[if_pos (by omega)];simp[hb]
 rw[if_neg h6,if_neg h6]
theorem Yb (x:Int×Int×Int) (y:Int) (h:tO x=some y):NT aL x=some y:=by
 obtain⟨k,p,n⟩:=x;rw[<-h];simp only[tO,NT,jL,Xi];by_cases h7:k=7
 ·rw[if_pos h7,if_pos h7]
 ·rw[if_neg h7,if_neg h7];by_cases h8:k=8<;>simp[h8]
theorem aj9 (x:Int×Int×Int) (y:Int) (h:tW x=some y):Wj aL x=some y:=Yb x y h
theorem as7 {n:Int} (h0:0<=n) (h1:n<=60):y7 .i64 1 n=some (2^n.toNat):=by
 obtain⟨m,rfl⟩:=pR h0;rw[as8 (by omega),Int.toNat_natCast];congr 1
theorem adh {n:Int} (h0:0<=n) (h1:n<=20):1<=(2:Int)^n.toNat/\(2:Int)^n.toNat<=1048576:=by
 have a:(2:Nat)^n.toNat<=2^20:=Nat.pow_le_pow_right (by decide) (by omega);have b:1<=(2:Nat)^n.toNat:=Nat.one_le_two_pow;have e:(((2:Nat)^n.toNat:Nat):Int)=(2:Int)^n.toNat:=by push_cast;rfl
 rw[<-e];omega
theorem Ya (x:Int×Int×Int) (y:Int) (h:BN x=some y):Wa aL x=some y:=by
 obtain⟨k,p,n⟩:=x;simp only[BN] at h;split at h
 ·rename_i hr;rw[<-h];rcases Ee hr with⟨rfl,rfl,rfl⟩|⟨rfl,hp,rfl⟩|⟨rfl,hp,rfl⟩|⟨rfl,hp,rfl⟩|⟨rfl,hp,rfl⟩|⟨rfl,rfl,hn⟩|⟨rfl,hp,hn⟩|⟨rfl,hp,lz,rfl⟩
  ·rfl
  ·have:=qM hp;exact congrArg some (tI (by omega) (by omega))
  ·rfl
  ·rfl
  ·rfl
  ·have h1:=adh (n:=n) (by omega) hn.2;show(y7 .i64 1 n).ae _=_;rw[as7 (by omega) (by omega),bj,tI (by omega) (by omega)];rfl
  ·have:=qM hp;exact congrArg some (tI (by omega) (by omega))
  ·have:=qM hp;exact congrArg some (tI (by omega) (by omega))
 ·cases h
theorem aj8 (x:Int×Int×Int) (y:Int) (h:EW x=some y):Wi aL x=some y:=Ya x y h
theorem agy {r:Int×Int×Int} (h:gT r=true):0<=fa r/\fa r<=1048576:=by
 obtain⟨k,p,n⟩:=r;rcases Ee h with⟨rfl,rfl,rfl⟩|⟨rfl,hp,rfl⟩|⟨rfl,hp,rfl⟩|⟨rfl,hp,rfl⟩|⟨rfl,hp,rfl⟩|⟨rfl,rfl,hn⟩|⟨rfl,hp,hn⟩|⟨rfl,hp,lz,rfl⟩
 ·simp[fa]
 ·have:=qM hp;simp[fa];omega
 ·simp[fa];omega
 ·simp[fa];omega
 ·simp[fa];omega
 ·have h1:=adh (n:=n) (by omega) hn.2;simp only[fa,Int.reduceEq,reduceIte,or_self];omega
 ·have:=qM hp;simp[fa];omega
 ·have:=qM hp;simp[fa];omega
theorem pi {r:Int×Int×Int} (h:gT r=true):jL r=(aR r:Int)/\1<=aR r/\aR r<=6:=by
 obtain⟨k,p,n⟩:=r;rcases Ee h with⟨rfl,rfl,rfl⟩|⟨rfl,hp,rfl⟩|⟨rfl,hp,rfl⟩|⟨rfl,hp,rfl⟩|⟨rfl,hp,rfl⟩|⟨rfl,rfl,hn⟩|⟨rfl,hp,hn⟩|⟨rfl,hp,lz,rfl⟩
 ·simp[aR,jL]
 ·simp[aR,jL]
 ·simp[aR,jL]
 ·simp[aR,jL]
 ·simp[aR,jL]
 ·simp[aR,jL]
 ·simp[aR,jL];omega
 ·simp[aR,jL]
theorem aju (x:(Int×Int×Int)×J) (y:Bool) (h:BK x=some y):NO aL x=some y:=by
 obtain⟨⟨k,p,n⟩,l⟩:=x;simp only[BK] at h;split at h
 ·rename_i hc;obtain⟨hr,hl⟩:=hc;rw[<-h];have hb:=agy hr;simp only[NO];rw[show BN (k,p,n)=some (fa (k,p,n)) from if_pos hr,bj]
  generalize fa (k,p,n)=t at hb⊢;rw[AZ l (fun i=>(t,l,aC (aa l),(i:Int))) (qL t) (.inr false) (.inl ()) ?_ ?_ ?_ ?_ (dY (by omega))]
  ·cases l.all (qL t)<;>rfl
  ·intro i a ha hb;rw[aY (kv ha),dg,ha,bj];simp only[qL,decide_eq_true_eq] at hb;rw[bc (eJ hb.1),bc (eJ hb.2),nA ha (by omega)]
  ·intro i a ha hb;rw[aY (kv ha),dg,ha,bj];simp only[qL,decide_eq_false_iff_not] at hb;by_cases h0:a<0
   ·rw[aY (dQ h0)]
   ·rw[bc (eJ (by omega)),aY (dQ (by omega))]
  ·rw[bc (gD l)]
  ·rfl
 ·cases h
theorem asm {w:Nat} {p:Int} (h:w=1):bS (dC w (0:Int)) 0 p=[p]:=by subst h;rfl
theorem mkW {r:Int×Int×Int} (hr:gT r=true):lV (jL r) (jL r) 8=some (aR r):=by
 have hw:=pi hr;rw[hw.1];exact pQ (by simp only[dR];omega)
theorem Yc (x:Int×Int×Int) (y:J) (h:BO x=some y):NU aL x=some y:=by
 obtain⟨k,p,n⟩:=x;simp only[BO] at h;split at h
 ·rename_i hr;rw[<-h];simp only[NU,tO,bj];rw[mkW hr,bj,Xi];by_cases h4:k=4
  ·subst h4;rw[if_pos rfl];rfl
  ·rw[if_neg h4,pO,bQ,bj,mK,io,bj];simp only[jq];rw[if_neg h4]
 ·cases h
theorem aka (x:Int×Int×Int) (y:J) (h:EX x=some y):Wk aL x=some y:=Yc x y h
theorem ED (w:Nat) (f:Nat->Int):(pb w f).length=w:=by simp[pb]
theorem HU {w j:Nat} (f:Nat->Int) (h:j<w):(pb w f)[j]? =some (f j):=by simp[pb,h]
theorem agn {w:Nat} {f g:Nat->Int} (h:∀j,j<w->f j=g j):pb w f=pb w g:=List.map_congr_left fun j hj=>h j (List.mem_range.1 hj)
theorem atK {w:Nat} (f:Nat->Int) (j:Nat) (v:Int):(pb w f).set j v=pb w (fun i=>if i=j then v else f i):=by
 apply List.ext_getElem?;intro i;by_cases hi:i<w
 ·rw[HU _ hi];by_cases hj:j=i
  ·subst hj;rw[List.getElem?_set_self (by rw[ED];exact hi),if_pos rfl]
  ·rw[List.getElem?_set_ne hj,HU _ hi,if_neg (fun e=>hj e.symm)]
 ·rw[List.getElem?_eq_none (by rw[List.length_set,ED];omega),List.getElem?_eq_none (by rw[ED];omega)]
theorem Yw {x:J} {j:Nat} (h:j<x.length):x[j]? =some (fv x j):=by
 rw[List.getElem?_eq_getElem h];simp[fv,List.getD_eq_getElem?_getD,List.getElem?_eq_getElem h]
theorem P7 {w j:Nat} (f:Nat->Int) (h:j<w):fv (pb w f) j=f j:=by simp[fv,List.getD_eq_getElem?_getD,HU f h]
theorem atJ {x:J} {w:Nat} (h:x.length=w):pb w (fv x)=x:=by
 subst h;apply List.ext_getElem?;intro i;by_cases hi:i<x.length
 ·rw[HU _ hi,Yw hi]
 ·rw[List.getElem?_eq_none (by rw[ED];omega),List.getElem?_eq_none (by omega)]
theorem ago (w:Nat) (c:Int):dC w c=pb w fun _=>c:=by
 apply List.ext_getElem?;intro i;by_cases hi:i<w
 ·rw[HU _ hi];simp[dC,hi]
 ·rw[List.getElem?_eq_none (by simp[dC];omega),List.getElem?_eq_none (by rw[ED];omega)]
theorem XH {r:Int×Int×Int} {x:J} (h:nM r x=true):x.length=aR r:=by
 simp only[nM,Bool.and_eq_true,decide_eq_true_eq] at h;exact h.1
theorem XG {r:Int×Int×Int} {x:J} (h:nM r x=true) {j:Nat} (hj:j<aR r):0<=fv x j/\fv x j<=fa r:=by
 simp only[nM,Bool.and_eq_true,decide_eq_true_eq] at h;have:=List.all_eq_true.1 h.2 (fv x j) (List.mem_of_getElem? (Yw (by rw[h.1];exact hj)));simpa[qL] using this
theorem ain {r:Int×Int×Int} {f:Nat->Int} (h:∀j,j<aR r->0<=f j/\f j<=fa r):nM r (pb (aR r) f)=true:=by
 simp only[nM,Bool.and_eq_true,decide_eq_true_eq,ED,true_and,List.all_eq_true];intro v hv;obtain⟨j,hj,rfl⟩:=List.mem_map.1 hv;simpa[qL] using h j (List.mem_range.1 hj)
theorem FE {r:Int×Int×Int} {x:J} (h:nM r x=true) (hw:aR r=1):x=[fv x 0]/\0<=fv x 0/\fv x 0<=fa r:=by
 have hl:=XH h;rw[hw] at hl;match x,hl with
 |[a],_=>exact⟨rfl,XG h (j:=0) (by omega)⟩
theorem adI {a p:Int} (ha:0<=a) (hp:0<p):mO a p=some (a%p):=by
 obtain⟨m,rfl⟩:=pR (z:=p) (by omega);exact Hj ha (by omega)
theorem Eo {f g:Nat->Int}:∀{n:Nat},(∀i,i<n->f i=g i)->sm n f=sm n g
 |0,_=>rfl
 |n+1,h=>by simp only[sm];rw[Eo (n:=n) (fun i hi=>h i (by omega)),h n (by omega)]
structure Nu (k p:Int) (w:Nat):Prop where
 ck:k=7\/k=8
 cp:2<=p/\p<=1000003
 cw:1<=w/\w<=6
 w8:k=8->w=4
theorem W3 {k p n:Int} (h:gT (k,p,n)=true) (hk:k=7\/k=8):Nu k p (aR (k,p,n)):=by
 have hw:=pi h;refine⟨hk,?_,hw.2,fun e=>by subst e;rfl⟩;rcases Ee h with⟨rfl,rfl,rfl⟩|⟨rfl,hp,rfl⟩|⟨rfl,hp,rfl⟩|⟨rfl,hp,rfl⟩|⟨rfl,hp,rfl⟩|⟨rfl,rfl,hn⟩|⟨rfl,hp,hn⟩|⟨rfl,hp,lz,rfl⟩
 all_goals first|exact qM hp|(exfalso;omega)
theorem GX {r:Int×Int×Int} {a b:Int} (h:¬(r.1=7\/r.1=8)):yJ r [a] [b]=[qX r a b]:=by simp only[yJ];rw[if_neg h];rfl
theorem XI {r:Int×Int×Int} {x y:J} (hx:nM r x=true) (hy:nM r y=true) (hw:aR r=1):∃a b,x=[a]/\y=[b]/\(0<=a/\a<=fa r)/\0<=b/\b<=fa r:=
 ⟨_,_,(FE hx hw).1,(FE hy hw).1,(FE hx hw).2,(FE hy hw).2⟩
theorem aio {r:Int×Int×Int} (hr:gT r=true):nM r (jq r)=true:=by
 have hT:=agy hr;obtain⟨k,p,n⟩:=r;simp only[jq];split
 ·rename_i h4;subst h4;simp[nM,aR,jL,fa,qL];simp[fa] at hT;omega
 ·rw[ago];exact ain fun j _=>⟨Int.le_refl _,hT.1⟩
theorem aqE (k p n:Int):DW (k,p,n)=pb (aR (k,p,n)) fun j=>if j=0 then(if k=4 then 0 else if k=5\/k=6 then fa (k,p,n) else 1) else 0:=by
 simp only[DW];rw[ago];exact atK _ 0 _
def ch:Nat->Nat->Nat
 |_,0=>1
 |0,_+1=>0
 |n+1,k+1=>ch n k+ch n (k+1)
theorem JS:∀{n k:Nat},n<k->ch n k=0
 |0,k+1,_=>by simp[ch]
 |n+1,k+1,h=>by simp[ch,JS (show n<k by omega),JS (show n<k+1 by omega)]
theorem Fh (n:Nat):ch n 0=1:=by cases n<;>rfl
theorem W6:∀n,ch n n=1
 |0=>rfl
 |n+1=>by simp[ch,W6 n,JS (Nat.lt_succ_self n)]
theorem JT:∀(n k:Nat),(k+1)*ch (n+1) (k+1)=(n+1)*ch n k
 |0,0=>by simp[ch]
 |0,k+1=>by simp[ch]
 |n+1,0=>by
  have h:=JT n 0;simp only[Fh] at h⊢;have e:ch (n+1+1) (0+1)=ch (n+1) 0+ch (n+1) (0+1):=rfl;rw[e,Fh];omega
 |n+1,k+1=>by
  have h1:=JT n k;have h2:=JT n (k+1);have e1:ch (n+1+1) (k+1+1)=ch (n+1) (k+1)+ch (n+1) (k+1+1):=rfl;have e2:ch (n+1) (k+1)=ch n k+ch n (k+1):=rfl;rw[e1];generalize ch (n+1) (k+1+1)=B at*
  generalize ch (n+1) (k+1)=A at*
  generalize ch n k=u at*
  generalize ch n (k+1)=v at*
  subst e2
  grind
def o8 (f:Nat->Nat):Nat->Nat
 |0=>0
 |m+1=>o8 f m+f m
theorem agi (n a:Nat):∀m,o8 (fun k=>ch (n+1) k*a^k) (m+1)=o8 (fun k=>ch n k*a^k) (m+1)+a*o8 (fun k=>ch n k*a^k) m
 |0=>by simp[o8,Fh]
 |m+1=>by
  have h:=agi n a m;simp only[o8] at h⊢;have e:ch (n+1) (m+1)=ch n m+ch n (m+1):=rfl;rw[h,e,Nat.pow_succ]
  grind
theorem WN (a:Nat):∀n,(a+1)^n=o8 (fun k=>ch n k*a^k) (n+1)
 |0=>by simp[o8,Fh]
 |n+1=>by
  rw[agi];have e:o8 (fun k=>ch n k*a^k) (n+1+1)=o8 (fun k=>ch n k*a^k) (n+1):=by
   show o8 _ (n+1)+ch n (n+1)*a^(n+1)=_;rw[JS (Nat.lt_succ_self n)];simp
  rw[e,<-WN a n,Nat.pow_succ]
  grind
theorem age {p:Nat} {f:Nat->Nat}:∀m,(∀k,0<k->k<=m->p∣f k)->o8 f (m+1)%p=f 0%p
 |0,h=>by simp[o8]
 |m+1,h=>by
  have i:=age m fun k h1 h2=>h k h1 (by omega);obtain⟨c,hc⟩:=h (m+1) (by omega) (Nat.le_refl _);show(o8 f (m+1)+f (m+1))%p=_;rw[hc,Nat.add_mul_mod_self_left,i]
def zB (p:Nat):Prop:=2<=p/\∀d,d∣p->d=1\/d=p
theorem zB.pu {p a:Nat} (hp:zB p) (h:¬p∣a):Nat.Coprime p a:=by
 have:=hp.2 (Nat.gcd p a) (Nat.gcd_dvd_left p a);rcases this with h1|h1
 ·exact h1
 ·exact absurd (h1▸Nat.gcd_dvd_right p a) h
theorem zB.ch {p k:Nat} (hp:zB p) (h1:0<k) (h2:k<p):p∣ch p k:=by
 obtain⟨q,rfl⟩:∃q,p=q+1:=⟨p - 1,by omega⟩;obtain⟨j,rfl⟩:∃j,k=j+1:=⟨k - 1,by omega⟩;have hm:=JT q j;have hd:(q+1)∣(j+1)*Go.Am.ch (q+1) (j+1):=⟨Go.Am.ch q j,hm⟩;exact(hp.pu fun h=>absurd (Nat.le_of_dvd (by omega) h) (by omega)).dvd_of_dvd_mul_left hd
theorem Ye {p:Nat} (hp:zB p):∀a,a^p%p=a%p
 |0=>by rw[Nat.zero_pow (by have:=hp.1;omega)]
 |a+1=>by
  rw[WN];show(o8 _ p+Go.Am.ch p p*a^p)%p=_;obtain⟨q,rfl⟩:∃q,p=q+1:=⟨p - 1,by have:=hp.1;omega⟩;have h:=age (p:=q+1) (f:=fun k=>Go.Am.ch (q+1) k*a^k) q fun k h1 h2=>Nat.dvd_trans (hp.ch h1 (by omega)) (Nat.dvd_mul_right _ _);rw[W6,Nat.one_mul,Nat.add_mod,h,Ye hp a];simp only[Fh,Nat.pow_zero,Nat.mul_one];rw[<-Nat.add_mod,Nat.add_comm]
theorem akr {p a:Nat} (hp:zB p) (ha:¬p∣a):a*a^(p - 2)%p=1:=by
 have h2:=hp.1;have h:=Ye hp a;have e:a^p=a*(a*a^(p - 2)):=by
  obtain⟨q,rfl⟩:∃q,p=q+2:=⟨p - 2,by omega⟩;rw[Nat.pow_succ,Nat.pow_succ,Nat.add_sub_cancel];rw[Nat.mul_comm a (a^q),Nat.mul_comm a (a^q*a)]
 rw[e] at h;have ZQ:0<a:=by
  rcases Nat.eq_zero_or_pos a with h|h
  ·subst h;exact absurd ⟨0,by simp⟩ ha
  ·exact h
 have hz:0<a*a^(p - 2):=Nat.mul_pos ZQ (Nat.pow_pos ZQ);generalize a*a^(p - 2)=z at h hz⊢;obtain⟨y,rfl⟩:∃y,z=y+1:=⟨z - 1,by omega⟩;have hd:p∣a*y:=by
  have e:a*(y+1)=a*y+a:=by rw[Nat.mul_add,Nat.mul_one]
  rw[e] at h;have:(a*y+a - a)%p=0:=Nat.sub_mod_eq_zero_of_mod_eq h;rw[Nat.add_sub_cancel] at this;exact Nat.dvd_of_mod_eq_zero this
 obtain⟨c,rfl⟩:=(hp.pu ha).dvd_of_dvd_mul_left hd;rw[Nat.add_comm,Nat.add_mul_mod_self_left];exact Nat.mod_eq_of_lt (by omega)
theorem alX {p:Int} (h:gZ p=true):zB p.toNat:=by
 have hp:=qM h;obtain⟨n,rfl⟩:=pR (show 0<=p by omega);simp only[Int.toNat_natCast];refine⟨by omega,fun d hd=>?_⟩;rcases Nat.lt_or_ge d 2 with h2|h2
 ·rcases Nat.eq_zero_or_pos d with h0|h0
  ·subst h0;have:=Nat.eq_zero_of_zero_dvd hd;omega
  ·exact .inl (by omega)
 ·obtain⟨e,he⟩:=hd;simp only[gZ,Bool.and_eq_true,decide_eq_true_eq,Bool.not_eq_true',List.any_eq_false] at h;have db:∀a b:Nat,2<=a->2<=b->a<=b->n≠a*b:=by
   intro a b ha hb gd e;have h1:a*a<=n:=by rw[e];exact Nat.mul_le_mul_left _ gd
   have h3:a<1001:=by
    rcases Nat.lt_or_ge a 1001 with h|h
    ·exact h
    ·have:=Nat.mul_le_mul h h;omega
   refine h.2 a (by simp;omega) ?_;unfold rD;have ea:((a:Int))*(a:Int)=((a*a:Nat):Int):=by norm_cast
   simp only[Bool.and_eq_true,decide_eq_true_eq];constructor
   ·rw[ea];omega
   ·rw[e];push_cast;exact Int.mul_emod_right _ _
  right;rcases Nat.lt_or_ge e 2 with h3|h3
  ·have:e=1:=by
    rcases Nat.eq_zero_or_pos e with h0|h0
    ·subst h0;simp at he;omega
    ·omega
   subst this;omega
  ·exfalso;rcases Nat.le_total d e with QH|QH
   ·exact db d e h2 h3 QH he
   ·exact db e d h3 h2 QH (by rw[he,Nat.mul_comm])
theorem adi (x:Int) (b:Nat):∀m:Nat,(x*x)^m*x^b=x^(2*m+b)
 |0=>by simp
 |m+1=>by
  have ih:=adi x b m;rw[show 2*(m+1)+b=2*m+b+1+1 by omega,Int.pow_succ,Int.pow_succ (n:=2*m+b+1),Int.pow_succ (n:=2*m+b),<-ih]
  grind
theorem alS {p:Int} (hp:oU p):∀(n:Nat) (out x:Int),uP p out x n%p=out*x^n%p:=by
 intro n;induction n using Nat.strongRecOn with
 |ind n ih=>
  intro out x;by_cases h0:n=0
  ·subst h0;rw[alR];simp
  ·rw[alT h0,ih (n/2) (by omega)];have e:x^n=(x*x)^(n/2)*x^(n%2):=by
    rw[adi,Nat.div_add_mod]
   rw[e];have h1:((x*x%p)^(n/2))%p=((x*x)^(n/2))%p:=by
    have:∀k:Nat,((x*x%p)^k)%p=((x*x)^k)%p:=by
     intro k;induction k with
     |zero=>simp
     |succ k ih=>rw[Int.pow_succ,Int.pow_succ,Int.mul_emod,ih,Int.emod_emod,<-Int.mul_emod]
    exact this _
   by_cases hb:n%2=1
   ·rw[if_pos hb,hb,Int.mul_emod,h1,Int.emod_emod,<-Int.mul_emod];congr 1
    grind
   ·rw[if_neg hb,show n%2=0 by omega,Int.mul_emod,h1,<-Int.mul_emod];congr 1
    grind
theorem alV {p x:Int} (Gl:gZ p=true) (hx:qK p x) (h0:x≠0):x*uP p 1 x (p - 2).toNat%p=1:=by
 have hp:=qM Gl;have bC:oU p:=⟨hp.1,hp.2⟩;obtain⟨n,rfl⟩:=pR (show 0<=p by omega);obtain⟨a,rfl⟩:=pR hx.1;have hN:=alX Gl;simp only[Int.toNat_natCast] at hN;have ha:¬n∣a:=fun h=>by
  have:=Nat.le_of_dvd (by omega) h;have:=hx.2;omega
 have hf:=akr hN ha;have e:(((n:Int)) - 2).toNat=n - 2:=by omega
 rw[Int.mul_emod,alS bC,e,Int.one_mul,<-Int.mul_emod]
 exact_mod_cast hf
def ik (f g:Nat->Int):Nat->Int
 |0=>0
 |n+1=>ik f g n+f n*g n
theorem agc {p:Int} {f f' g:Nat->Int}:∀n,(∀k,k<n->∃q,f k=f' k+p*q)->∃q,ik f g n=ik f' g n+p*q
 |0,_=>⟨0,by simp[ik]⟩
 |n+1,h=>by
  obtain⟨q,hq⟩:=agc (g:=g) n fun k hk=>h k (by omega);obtain⟨q',eV⟩:=h n (by omega);exact⟨q+q'*g n,by simp only[ik,hq,eV];grind⟩
theorem VB (f f2 g:Nat->Int) (c:Int):∀n,ik (fun k=>f k+c*f2 k) g n=ik f g n+c*ik f2 g n
 |0=>by simp[ik]
 |n+1=>by simp only[ik,VB f f2 g c n];grind
theorem MY (f g g2:Nat->Int) (c:Int):∀n,ik f (fun k=>g k - c*g2 k) n=ik f g n - c*ik f g2 n
 |0=>by simp[ik]
 |n+1=>by simp only[ik,MY f g g2 c n];grind
theorem VC (f g:Nat->Int) (c:Int):∀n,ik (fun k=>f k*c) g n=ik f g n*c
 |0=>by simp[ik]
 |n+1=>by simp only[ik,VC f g c n];grind
theorem VD (f g:Nat->Int) (c:Int):∀n,ik f (fun k=>g k*c) n=ik f g n*c
 |0=>by simp[ik]
 |n+1=>by simp only[ik,VD f g c n];grind
def dl (a b:Nat):Int:=if a=b then 1 else 0
def mV (p:Int) (n:Nat) (E X:ew):Prop:=∀a,a<n->∀b,b<n->∃q,ik (E a) (fun k=>X k b) n=dl a b+p*q
theorem mV.congr {p:Int} {n:Nat} {E E' X:ew} (h:mV p n E X) (he:∀a,a<n->∀k,k<n->∃q,E' a k=E a k+p*q):mV p n E' X:=by
 intro a ha b hb;obtain⟨q,hq⟩:=h a ha b hb;obtain⟨q',eV⟩:=agc (p:=p) (f:=E' a) (f':=E a) (g:=fun k=>X k b) n (he a ha);exact⟨q+q',by rw[eV,hq];grind⟩
theorem mV.swap {p:Int} {n:Nat} {E X:ew} (h:mV p n E X) {s t:Nat} (hs:s<n) (ht:t<n):∃X',mV p n (p9 E s t) X':=by
 let sw:Nat->Nat:=fun i=>if i=s then t else if i=t then s else i
 have K5:∀i,i<n->sw i<n:=by
  intro i hi;show(if i=s then t else if i=t then s else i)<n
  split
  ·exact ht
  ·split
   ·exact hs
   ·exact hi
 have uC:∀i j,sw i=sw j->i=j:=by
  intro i j;show(if i=s then t else if i=t then s else i)=(if j=s then t else if j=t then s else j)->i=j
  intro h
  repeat' split at h
  all_goals omega
 refine⟨fun k b=>X k (sw b),fun a ha b hb=>?_⟩;obtain⟨q,hq⟩:=h (sw a) (K5 a ha) (sw b) (K5 b hb);refine⟨q,?_⟩;have e:p9 E s t a=E (sw a):=by
  funext k;show(if a=s then E t k else if a=t then E s k else E a k)=E (if a=s then t else if a=t then s else a) k
  split
  ·rfl
  ·split<;>rfl
 rw[e,hq];congr 1;unfold dl;by_cases gd:a=b
 ·subst gd;simp
 ·rw[if_neg gd,if_neg fun h=>gd (uC _ _ h)]
theorem mV.asP {p inv u:Int} {n:Nat} {E X:ew} (h:mV p n E X) {t:Nat} (ht:t<n) (hu:u*inv%p=1):∃X',mV p n (Bg p inv E t) X':=by
 have n4:∃z,u*inv=1+p*z:=⟨u*inv/p,by have:=Int.emod_add_mul_ediv (u*inv) p;omega⟩;obtain⟨z,hz⟩:=n4;refine⟨fun k b=>if b=t then X k t*u else X k b,mV.congr (E:=fun a k=>if a=t then E t k*inv else E a k) (fun a ha b hb=>?_) (fun a ha k hk=>?_)⟩
 ·obtain⟨q,hq⟩:=h a ha b hb;by_cases cD:a=t
  ·subst cD;by_cases qw:b=a
   ·subst qw;refine⟨z+q*inv*u,?_⟩;simp only[if_true];rw[VC,VD,hq,dl,if_pos rfl]
    grind
   ·refine⟨q*inv,?_⟩;simp only[if_true,if_neg qw];rw[VC,hq,dl,if_neg (Ne.symm qw)]
    grind
  ·by_cases qw:b=t
   ·subst qw;refine⟨q*u,?_⟩;simp only[if_neg cD,if_true];rw[VD];have:ik (fun k=>E a k) (fun k=>X k b) n=dl a b+p*q:=hq;rw[this,dl,if_neg cD]
    grind
   ·refine⟨q,?_⟩;simp only[if_neg cD,if_neg qw];exact hq
 ·unfold Bg;by_cases cD:a=t
  ·simp only[cD,if_true];refine⟨-(E t k*inv/p),?_⟩;have:=Int.emod_add_mul_ediv (E t k*inv) p;have e:p* -(E t k*inv/p)= -(p*(E t k*inv/p)):=Int.mul_neg _ _;omega
  ·simp only[cD,if_false];exact⟨0,by simp⟩
theorem mV.add {p f:Int} {n:Nat} {E E' X:ew} (h:mV p n E X) {m t:Nat} (hm:m<n) (ht:t<n) (Di:m≠t) (he:∀a,a<n->∀k,k<n->∃q,E' a k=(if a=m then E m k+f*E t k else E a k)+p*q):∃X',mV p n E' X':=by
 refine⟨fun k b=>if b=t then X k t - f*X k m else X k b,mV.congr (E:=fun a k=>if a=m then E m k+f*E t k else E a k) (fun a ha b hb=>?_) he⟩
 obtain⟨q1,h1⟩:=h a ha b hb;obtain⟨q2,h2⟩:=h t ht b hb;obtain⟨q3,h3⟩:=h a ha m hm;obtain⟨q4,h4⟩:=h t ht m hm;have iS:ik (fun k=>E a k) (fun k=>X k b) n=dl a b+p*q1:=h1;have xZ:ik (fun k=>E t k) (fun k=>X k b) n=dl t b+p*q2:=h2;have x3:ik (fun k=>E a k) (fun k=>X k m) n=dl a m+p*q3:=h3;have h4':ik (fun k=>E t k) (fun k=>X k m) n=dl t m+p*q4:=h4;have d1:dl t m=0:=if_neg (Ne.symm Di);by_cases Ab:a=m
 ·subst Ab;have d2:dl a a=1:=if_pos rfl;by_cases qw:b=t
  ·subst qw;have d3:dl a b=0:=if_neg Di;have d4:dl b b=1:=if_pos rfl;refine⟨q1+f*q2 - f*q3 - f*f*q4,?_⟩;simp only[if_true];rw[VB,MY,MY,iS,xZ,x3,h4',d1,d2,d3,d4]
   grind
  ·refine⟨q1+f*q2,?_⟩;have d3:dl t b=0:=if_neg (Ne.symm qw);simp only[if_true,if_neg qw];rw[VB,iS,xZ,d3]
   grind
 ·by_cases qw:b=t
  ·subst qw;have d3:dl a m=0:=if_neg Ab;refine⟨q1 - f*q3,?_⟩;simp only[if_neg Ab,if_true];rw[MY,iS,x3,d3]
   grind
  ·refine⟨q1,?_⟩;simp only[if_neg Ab,if_neg qw];exact iS
def RK (p:Int) (n:Nat) (s:ew×J×Int) (j:Nat):Prop:=
 (∃X,mV p n (fun a k=>s.1 a (n+k)) X)/\∀b,b<j->∀i,s.2.1.length<=i->i<n->s.1 i b=0
theorem RK.step {p:Int} {n:Nat} {s:ew×J×Int} {j:Nat} (Gl:gZ p=true) (hj:j<2*n) (I:RI p n (2*n) s j) (h:RK p n s j):RK p n (wS p n s j) (j+1):=by
 have hp:oU p:=qM Gl;obtain⟨⟨X,hX⟩,hz⟩:=h;obtain⟨M,L,d⟩:=s;simp only at hX hz;by_cases hl:L.length<n
 ·cases hk:wQ M j (n - L.length) L.length with
  |none=>
   rw[asb (s:=(M,L,d)) hl hk];refine⟨⟨X,hX⟩,fun b hb i h1 h2=>?_⟩;by_cases Qy:b=j
   ·subst Qy;exact ade hk i h1 (by simp only at h1;omega)
   ·exact hz b (by omega) i h1 h2
  |some k=>
   rw[asc (s:=(M,L,d)) hl hk];simp only
   have hq:=S5 hk;have KR:k<n:=by omega
   have hM:qJ p n (2*n) M:=I.m;have hx:qK p (M k j):=hM k KR j hj;have K5:p9 M L.length k L.length j=M k j:=if_pos rfl;have hi:=alV Gl hx hq.2.2;generalize ak3:uP p 1 (M k j) (p - 2).toNat=inv at hi;have alm:Hc p M L.length j k=Bg p inv (p9 M L.length k) L.length:=by unfold Hc;rw[K5,ak3]
   rw[alm];have hS:qJ p n (2*n) (p9 M L.length k):=agj hM hl KR;generalize C1:Bg p inv (p9 M L.length k) L.length=M2;have aur:qJ p n (2*n) M2:=by rw[<-C1];exact afm hp hS _
   constructor
   ·obtain⟨X1,hX1⟩:=hX.swap (s:=L.length) (t:=k) hl KR;obtain⟨X2,hX2⟩:=hX1.asP (inv:=inv) (u:=M k j) hl hi;have base:mV p n (fun a b=>kj p M2 L.length j 0 a (n+b)) X2:=by
     rw[ahN,<-C1];exact hX2
    have db:∀m,m<=n->∃X',mV p n (fun a b=>kj p M2 L.length j m a (n+b)) X':=by
     intro m;induction m with
     |zero=>intro _;exact⟨X2,base⟩
     |succ m ih=>
      intro hm;obtain⟨X',ZP⟩:=ih (by omega);by_cases Di:m=L.length
      ·subst Di;rw[ahQ];exact⟨X',ZP⟩
      ·refine ZP.add (f:=p - M2 m j) (m:=m) (t:=L.length) (by omega) hl Di fun a ha b hb=>?_;show∃q,kj p M2 L.length j (m+1) a (n+b)=_;by_cases Ab:a=m
       ·subst Ab;rw[if_pos rfl];show∃q,kj p M2 L.length j (a+1) a (n+b)=(kj p M2 L.length j a a (n+b)+(p - M2 a j)*kj p M2 L.length j a L.length (n+b))+p*q;rw[ahP,ahR];unfold kj;rw[if_pos ⟨by omega,Di⟩];refine⟨-((M2 a (n+b)+(p - M2 a j)*M2 L.length (n+b))/p),?_⟩;have e1:=Int.emod_add_mul_ediv (M2 a (n+b)+(p - M2 a j)*M2 L.length (n+b)) p;have e2:=Int.mul_neg p ((M2 a (n+b)+(p - M2 a j)*M2 L.length (n+b))/p);omega
       ·rw[if_neg Ab];refine⟨0,?_⟩;show kj p M2 L.length j (m+1) a (n+b)=kj p M2 L.length j m a (n+b)+p*0;unfold kj;by_cases hc:a<m/\a≠L.length
        ·rw[if_pos hc,if_pos ⟨by omega,hc.2⟩];simp
        ·rw[if_neg hc,if_neg (by omega)];simp
    exact db n (Nat.le_refl _)
   ·intro b hb i h1 h2;simp only[List.length_append,List.length_cons,List.length_nil] at h1;show kj p M2 L.length j n i b=0;unfold kj;rw[if_pos ⟨h2,by omega⟩];have e2:∀c,M2 i c=p9 M L.length k i c:=fun c=>by rw[<-C1];exact if_neg (by omega)
    have e3:∀c,M2 L.length c=M k c*inv%p:=fun c=>by rw[<-C1];show(if L.length=L.length then _ else _)=_;rw[if_pos rfl];congr 2;exact if_pos rfl
    by_cases Qy:b=j
    ·subst Qy;rw[e3 b,hi];have:M2 i b+(p - M2 i b)*1=p:=by omega
     rw[this];exact Int.emod_self
    ·have Qz:b<j:=by omega
     rw[e3 b,hz b Qz k hq.1 KR,e2 b];have:p9 M L.length k i b=0:=by
      unfold p9;rw[if_neg (by omega)];split
      ·exact hz b Qz L.length (Nat.le_refl _) hl
      ·exact hz b Qz i (by omega) h2
     rw[this];simp
 ·unfold wS;rw[if_neg hl];exact⟨⟨X,hX⟩,fun b hb i h1 h2=>by simp only at h1;omega⟩
def auc (n:Nat) (M:ew):ew:=fun a b=>if b<n then M a b else dl a (b - n)
def aud (n:Nat) (M:ew):ew:=ofD (2*n) (ZE n (2*n) (auc n M))
def aaJ (p:Int) (n:Nat) (M:ew):ew×J×Int:=adD p n (aud n M) (2*n)
def alU (p:Int) (n:Nat) (M:ew):Prop:=∀i,i<n->(aaJ p n M).2.1.getD i 0=(i:Int)
instance (p:Int) (n:Nat) (M:ew):Decidable (alU p n M):=inferInstanceAs (Decidable (∀i,i<n->(aaJ p n M).2.1.getD i 0=(i:Int)))
section
variable {p:Int} {n:Nat} {M R:ew} {L:J}
end
section
variable {p:Int} {n:Nat} {M R:ew} {L:J}
end
abbrev lH:=Int×Int×J
abbrev Nt:=Int×Int×J×List (Int×Int×J)×J
def Nk (k:Nat) (w:J):Prop:=∀c∈w,0<=c/\c<(k:Int)
instance (k:Nat) (w:J):Decidable (Nk k w):=inferInstanceAs (Decidable (∀c∈w,0<=c/\c<(k:Int)))
def ahj (x:Nt):Bool:=match x with
 |(m,n,a,ms,b)=>gZ m&&(decide (0<=n/\n<=24)&&((rb m a&&decide ((a.length:Int)=n))&&((rb m b&&decide ((b.length:Int)=n))&&(decide (1<=ms.length/\ms.length<=4)&&ms.all fun y=>decide (y.1=n/\y.2.1=n/\y.2.2.length=n.toNat*n.toNat)&&rb m y.2.2))))
def adA (x:Nt×J):Prop:=ahj x.1=true/\Nk x.1.2.2.2.1.length x.2/\x.2.length<=1048576
instance (x:Nt×J):Decidable (adA x):=by unfold adA;infer_instance
theorem adL {m:Int} {l:J}:rb m l=true↔qh m l:=by
 simp only[rb,qh,List.all_eq_true,yu,decide_eq_true_eq,qK]
structure ER (N:Nat) (p:Int) (n:Nat) (a:J) (ms:List lH) (b:J):Prop where
 pr:gZ p=true
 hn:n<=N
 al:a.length=n
 ap:qh p a
 bl:b.length=n
 bp:qh p b
 l1:1<=ms.length
 l4:ms.length<=4
 hm:∀x∈ms,∃M:ew,x=((n:Int),(n:Int),ZE n n M)/\qJ p n n M
abbrev ag0:=ER 12
abbrev agZ:=ER 24
theorem ER.p {N:Nat} {p:Int} {n:Nat} {a b:J} {ms:List lH} (h:ER N p n a ms b):oU p:=qM h.pr
theorem ER.b {p:Int} {n:Nat} {a b:J} {ms:List lH} (h:ag0 p n a ms b):agZ p n a ms b:=⟨h.pr,Nat.le_trans h.hn (by omega),h.al,h.ap,h.bl,h.bp,h.l1,h.l4,h.hm⟩
section
variable {p:Int} {n:Nat} {a b:J} {ms:List lH}
end
section
variable {p:Int} {n m:Nat} {a b a2 b2:J} {ms SH:List lH}
end
section
variable {p sg:Int} {n m:Nat} {a b a2 b2:J} {ms SH:List lH}
end
section
variable {n:Int} {d:List (Int×Int)} {a b:Int}
end
def q8 (b a:Int) (l:J):J:=l.map fun x=>if x=b then a else x
def xF (l:J) (i:Int):Int:=l.getD i.toNat 0
def yy (n:Nat):J:=(List.range n).map fun i=>((i:Nat):Int)
def D2 (s:Nat) (i:Nat) (st:Int×J) (e:Int×Int):Int×J:=
 if s.testBit i=true/\xF st.2 e.1≠xF st.2 e.2 then(st.1 - 1,q8 (xF st.2 e.2) (xF st.2 e.1) st.2) else st
def parts (n:Int) (es:List (Int×Int)) (s:Int):Int×J:=uv (D2 s.toNat) 0 (n,yy n.toNat) es
def Sk (s:Nat) (i:Nat) (l:J) (e:Int×Int):J:=
 if s.testBit i=true then q8 (max (xF l e.1) (xF l e.2)) (min (xF l e.1) (xF l e.2)) l else l
def P4 (l:J):Int:=((List.range l.length).countP fun i=>l.getD i 0==(i:Int):Nat)
theorem RX (n:Nat):(yy n).length=n:=by simp[yy]
theorem Tl (b a:Int) (l:J):(q8 b a l).length=l.length:=by simp[q8]
theorem Xp (p:Nat->Bool) (j:Nat):(List.range (j+1)).countP p=(List.range j).countP p+(if p j=true then 1 else 0):=by
 rw[List.range_succ,List.countP_append,List.countP_singleton]
theorem Xo (p q:Nat->Bool) (k:Nat):∀n,k<n->(∀i,i<n->i≠k->p i=q i)->p k=true->q k=false->(List.range n).countP p=(List.range n).countP q+1
 |0,h,_,_,_=>by omega
 |n+1,h,Q9,h1,h2=>by
  rw[Xp,Xp];by_cases hk:k=n
  ·subst hk;rw[h1,h2];have:(List.range k).countP p=(List.range k).countP q:=List.countP_congr fun i hi=>by
    have:=List.mem_range.1 hi;rw[Q9 i (by omega) (by omega)]
   rw[this];simp
  ·rw[Xo p q k n (by omega) (fun i hi=>Q9 i (by omega)) h1 h2,Q9 n (by omega) (by omega)];omega
structure E6 (m:Nat) (l:J) (c:Int) (q:J):Prop where
 ll:l.length=m
 lq:q.length=m
 hJ:∀i j:Nat,i<m->j<m->(l.getD i 0=l.getD j 0↔q.getD i 0=q.getD j 0)
 low:∀i:Nat,i<m->0<=l.getD i 0/\l.getD i 0<=(i:Int)/\l.getD (l.getD i 0).toNat 0=l.getD i 0
 cA:P4 l=c
theorem adH {b a:Int} {l:J} {i:Nat} (h:i<l.length):(q8 b a l).getD i 0=if l.getD i 0=b then a else l.getD i 0:=by
 simp[q8,List.getD,List.getElem?_map,List.getElem?_eq_getElem h]
theorem asi (b:Int) (l:J):q8 b b l=l:=by
 unfold q8
 conv=>rhs;rw[<-List.map_id l]
 refine List.map_congr_left fun x _=>?_;split
 ·rename_i h;exact h.symm
 ·rfl
theorem abo {b a x y:Int}:((if x=b then a else x)=(if y=b then a else y))↔(x=y\/((x=b\/x=a)/\(y=b\/y=a))):=by
 constructor
 ·intro h;split at h<;>split at h<;>omega
 ·intro h;split<;>split<;>omega
theorem E6.step {m:Nat} {l:J} {c:Int} {q:J} (h:E6 m l c q) {u v:Nat} (hu:u<m) (hv:v<m) {s i:Nat}:
  E6 m (Sk s i l ((u:Int),(v:Int))) (D2 s i (c,q) ((u:Int),(v:Int))).1 (D2 s i (c,q) ((u:Int),(v:Int))).2:=by
 cases hb:s.testBit i with
 |false=>
  have e1:Sk s i l ((u:Int),(v:Int))=l:=if_neg (by rw[hb];decide);have e2:D2 s i (c,q) ((u:Int),(v:Int))=(c,q):=if_neg (fun hh=>by rw[hb] at hh;exact absurd hh.1 (by decide));rw[e1,e2];exact h
 |true=>
  have ep:q.getD u 0=q.getD v 0->D2 s i (c,q) ((u:Int),(v:Int))=(c,q):=fun h=>if_neg (fun hh=>hh.2 h);have en:q.getD u 0≠q.getD v 0->D2 s i (c,q) ((u:Int),(v:Int))=(c - 1,q8 (q.getD v 0) (q.getD u 0) q):=fun h=>if_pos ⟨hb,h⟩;have el:Sk s i l ((u:Int),(v:Int))=q8 (max (l.getD u 0) (l.getD v 0)) (min (l.getD u 0) (l.getD v 0)) l:=if_pos hb;obtain⟨ll,lq,hJ,low,cA⟩:=h;by_cases hq:q.getD u 0=q.getD v 0
  ·have hl:=(hJ u v hu hv).2 hq;rw[ep hq,el,hl,Int.max_self,Int.min_self,asi];exact⟨ll,lq,hJ,low,cA⟩
  ·have hl:l.getD u 0≠l.getD v 0:=fun e=>hq ((hJ u v hu hv).1 e);rw[en hq,el];obtain⟨lu0,lu1,Sv⟩:=low u hu;obtain⟨lv0,lv1,Sw⟩:=low v hv;obtain⟨lo,hi,e1,e2,cj,uH,ak8,qz,wb,aaa⟩:∃lo hi:Nat,min (l.getD u 0) (l.getD v 0)=(lo:Int)/\max (l.getD u 0) (l.getD v 0)=(hi:Int)/\lo<hi/\
     (∀x:Int,(x=(hi:Int)\/x=(lo:Int))↔(x=l.getD v 0\/x=l.getD u 0))/\lo<m/\l.getD lo 0=(lo:Int)/\l.getD hi 0=(hi:Int)/\hi<m:=by
    obtain⟨a,ha⟩:=pR lu0;obtain⟨b,hb⟩:=pR lv0;rw[ha,Int.toNat_natCast] at Sv;rw[hb,Int.toNat_natCast] at Sw;rw[ha] at lu1 hl;rw[hb] at lv1 hl;rw[ha,hb];rcases Nat.lt_or_ge a b with gd|gd
    ·exact⟨a,b,by omega,by omega,gd,fun x=>by omega,by omega,Sv,Sw,by omega⟩
    ·exact⟨b,a,by omega,by omega,by omega,fun x=>by omega,by omega,Sw,Sv,by omega⟩
   rw[e1,e2];have gl:∀j,j<m->(q8 (hi:Int) (lo:Int) l).getD j 0=if l.getD j 0=(hi:Int) then(lo:Int) else l.getD j 0:=fun j hj=>adH (by omega)
   have gq:∀j,j<m->(q8 (q.getD v 0) (q.getD u 0) q).getD j 0=if q.getD j 0=q.getD v 0 then q.getD u 0 else q.getD j 0:=fun j hj=>adH (by omega)
   refine⟨by rw[Tl];exact ll,by rw[Tl];exact lq,?_,?_,?_⟩
   ·intro x y hx hy;rw[gl x hx,gl y hy,gq x hx,gq y hy,abo,abo,uH,uH,hJ x y hx hy,hJ x u hx hu,hJ x v hx hv,hJ y u hy hu,hJ y v hy hv]
   ·intro x hx;obtain⟨h0,h1,h2⟩:=low x hx;rw[gl x hx];by_cases Rs:l.getD x 0=(hi:Int)
    ·rw[if_pos Rs];refine⟨by omega,by omega,?_⟩;rw[Int.toNat_natCast,gl lo ak8,qz,if_neg (by omega)]
    ·rw[if_neg Rs];refine⟨h0,h1,?_⟩;rw[gl _ (by omega),h2,if_neg Rs]
   ·have hc:=Xo (fun j=>l.getD j 0==(j:Int)) (fun j=>(q8 (hi:Int) (lo:Int) l).getD j 0==(j:Int)) hi m aaa ?_ (by rw[wb];simp) (by rw[gl hi aaa,if_pos wb];simp;omega)
    ·unfold P4 at cA⊢;rw[Tl,ll];rw[ll,hc] at cA;omega
    ·intro j hj aF;rw[gl j hj];by_cases QS:l.getD j 0=(hi:Int)
     ·rw[if_pos QS,QS,Bool.eq_iff_iff];simp only[beq_iff_eq];constructor
      ·intro h;omega
      ·intro h;have:lo=j:=by omega
       subst this;omega
     ·rw[if_neg QS]
theorem RW {m i:Nat} (h:i<m):(yy m).getD i 0=(i:Int):=by
 simp[yy,List.getD,List.getElem?_map,List.getElem?_range h]
theorem E6.init (m:Nat):E6 m (yy m) (m:Int) (yy m):=by
 refine⟨RX m,RX m,fun _ _ _ _=>Iff.rfl,fun i hi=>?_,?_⟩
 ·rw[RW hi,Int.toNat_natCast,RW hi];omega
 ·unfold P4;rw[RX];have:(List.range m).countP (fun i=>(yy m).getD i 0==(i:Int))=(List.range m).length:=by
   rw[List.countP_eq_length];intro i hi;rw[RW (List.mem_range.1 hi)];simp
  rw[this,List.length_range]

def cS (om:Bool) (w:Nat) (x y:Nat->Int) (t:Nat):Int:=sm w (fun i=>sm w (fun j=>kW om x y t i j))
def pc (x y:Nat->Int) (t:Nat):Int:=sm (t+1) (fun i=>x i*y (t - i))
theorem Vg:∀(n:Nat) {f:Nat->Int},(∀i,i<n->f i=0)->sm n f=0
 |0,_,_=>rfl
 |n+1,f,h=>by simp only[sm];rw[Vg n (fun i hi=>h i (by omega)),h n (by omega)];rfl
theorem Ve {a:Nat} {f:Nat->Int}:∀(n:Nat),a<n->(∀i,i<n->i≠a->f i=0)->sm n f=f a
 |0,h,_=>by omega
 |n+1,h,hf=>by
  simp only[sm];by_cases e:a=n
  ·subst e;rw[Vg a (fun i hi=>hf i (by omega) (by omega))];omega
  ·rw[Ve n (by omega) (fun i hi aF=>hf i (by omega) aF),hf n (by omega) (by omega)];omega
theorem afD {m:Nat} {f:Nat->Int}:∀(n:Nat),m<=n->(∀i,i<n->m<=i->f i=0)->sm n f=sm m f
 |0,h,_=>by rw[show m=0 by omega]
 |n+1,h,hf=>by
  by_cases e:m=n+1
  ·rw[e]
  ·simp only[sm];rw[afD n (by omega) (fun i hi hm=>hf i (by omega) hm),hf n (by omega) (by omega)];omega
theorem Vf {p:Int} {f g:Nat->Int}:∀{n:Nat},(∀i,i<n->f i%p=g i%p)->sm n f%p=sm n g%p
 |0,_=>rfl
 |n+1,h=>by simp only[sm];rw[Int.add_emod,Vf (n:=n) (fun i hi=>h i (by omega)),h n (by omega),<-Int.add_emod]
theorem Fe {w t:Nat} (x y:Nat->Int) (h:t<w):cS false w x y t=pc x y t:=by
 have cW:∀i,i<w->sm w (fun j=>kW false x y t i j)=if i<=t then x i*y (t - i) else 0:=by
  intro i hi;split
  ·rename_i x9;rw[Ve (a:=t - i) w (by omega) (fun j hj aF=>by unfold kW;rw[if_neg (by omega),if_neg (by simp)])];unfold kW;rw[if_pos (by omega)]
  ·exact Vg w fun j hj=>by unfold kW;rw[if_neg (by omega),if_neg (by simp)]
 unfold cS pc;rw[Eo cW,afD (m:=t+1) w (by omega) (fun i hi hm=>if_neg (by omega))];exact Eo fun i hi=>if_pos (by omega)
theorem aqr {p a b:Int} (gd:a%p=b%p):(-a)%p=(-b)%p:=by
 have:(0 - a)%p=(0 - b)%p:=by rw[Int.sub_emod,gd,<-Int.sub_emod]
 simpa using this
theorem W0 {om:Bool} {w t:Nat} {p:Int} {x x' y y':Nat->Int} (hx:∀i,i<w->x i%p=x' i%p) (hy:∀i,i<w->y i%p=y' i%p):cS om w x y t%p=cS om w x' y' t%p:=by
 refine Vf fun i hi=>Vf fun j hj=>?_;have hm:(x i*y j)%p=(x' i*y' j)%p:=by rw[Int.mul_emod,hx i hi,hy j hj,<-Int.mul_emod]
 unfold kW;split
 ·exact hm
 ·split
  ·exact aqr hm
  ·rfl
theorem Pf {om:Bool} {w t:Nat} {x x' y y':Nat->Int} (hx:∀i,i<w->x i=x' i) (hy:∀i,i<w->y i=y' i):cS om w x y t=cS om w x' y' t:=
 Eo fun i hi=>Eo fun j hj=>by unfold kW;rw[hx i hi,hy j hj]
theorem arN (x y z:Nat->Int) {t:Nat} (h:t<6):pc (pc x y) z t=pc x (pc y z) t:=by
 match t,h with
 |0,_=>simp only[pc,sm,Nat.reduceSub,Nat.reduceAdd,Nat.zero_add];try grind
 |1,_=>simp only[pc,sm,Nat.reduceSub,Nat.reduceAdd,Nat.zero_add];try grind
 |2,_=>simp only[pc,sm,Nat.reduceSub,Nat.reduceAdd,Nat.zero_add];try grind
 |3,_=>simp only[pc,sm,Nat.reduceSub,Nat.reduceAdd,Nat.zero_add];try grind
 |4,_=>simp only[pc,sm,Nat.reduceSub,Nat.reduceAdd,Nat.zero_add];try grind
 |5,_=>simp only[pc,sm,Nat.reduceSub,Nat.reduceAdd,Nat.zero_add];try grind
theorem zK (x y:Nat->Int):cS true 4 x y 0=x 0*y 0 - x 1*y 3 - x 2*y 2 - x 3*y 1:=by simp[cS,sm,kW];grind
theorem zL (x y:Nat->Int):cS true 4 x y 1=x 0*y 1+x 1*y 0 - x 2*y 3 - x 3*y 2:=by simp[cS,sm,kW];grind
theorem zM (x y:Nat->Int):cS true 4 x y 2=x 0*y 2+x 1*y 1+x 2*y 0 - x 3*y 3:=by simp[cS,sm,kW];grind
theorem zN (x y:Nat->Int):cS true 4 x y 3=x 0*y 3+x 1*y 2+x 2*y 1+x 3*y 0:=by simp[cS,sm,kW]
theorem ahV (x y z:Nat->Int) {t:Nat} (h:t<4):cS true 4 (cS true 4 x y) z t=cS true 4 x (cS true 4 y z) t:=by
 match t,h with
 |0,_=>rw[zK,zK];simp only[zK,zL,zM,zN];grind
 |1,_=>rw[zL,zL];simp only[zK,zL,zM,zN];grind
 |2,_=>rw[zM,zM];simp only[zK,zL,zM,zN];grind
 |3,_=>rw[zN,zN];simp only[zK,zL,zM,zN];grind
theorem ahB {k p:Int} {w:Nat} (c:Nu k p w) (x y z:Nat->Int) {t:Nat} (h:t<w):cS (decide (k=8)) w (cS (decide (k=8)) w x y) z t=cS (decide (k=8)) w x (cS (decide (k=8)) w y z) t:=by
 by_cases h8:k=8
 ·obtain rfl:=c.w8 h8;rw[decide_eq_true h8];exact ahV x y z h
 ·rw[decide_eq_false h8];have h6:=c.cw;rw[Pf (x':=pc x y) (y':=z) (fun i hi=>Fe x y hi) (fun _ _=>rfl),Fe _ _ h,Pf (x':=x) (y':=pc y z) (fun _ _=>rfl) (fun i hi=>Fe y z hi),Fe _ _ h];exact arN x y z (by omega)
theorem PI (p:Int) (om:Bool) (w:Nat) (x y:Nat->Int):zP p om w x y=pb w fun t=>cS om w x y t%p:=rfl
theorem Fw {r:Int×Int×Int} (h:r.1=7\/r.1=8) (x y:J):yJ r x y=zP r.2.1 (decide (r.1=8)) (aR r) (fv x) (fv y):=if_pos h
theorem abp {a b c p:Int} (hp:0<=p) (ha:0<=a) (hb:0<=b) (hc:0<=c):min (min (a*b) p*c) p=min (a*b*c) p:=by
 generalize hm:a*b=m;by_cases h:m<=p
 ·rw[show min m p=m by omega]
 ·rw[show min m p=p by omega];by_cases h0:c=0
  ·subst h0;simp
  ·have h1:p*1<=p*c:=Int.mul_le_mul_of_nonneg_left (by omega) hp;have h2:p*c<=m*c:=Int.mul_le_mul_of_nonneg_right (by omega) hc;omega
theorem agS {r:Int×Int×Int} (hk:¬(r.1=7\/r.1=8)):aR r=1:=by
 obtain⟨k,p,n⟩:=r;simp only at hk;simp only[aR,jL];rw[if_neg (by omega),if_neg (by omega)];rfl
theorem aqF {r:Int×Int×Int} (hr:gT r=true) (hk:¬(r.1=7\/r.1=8)) {a b c:Int} (ha:0<=a/\a<=fa r) (hb:0<=b/\b<=fa r) (hc:0<=c/\c<=fa r):qX r (qX r a b) c=qX r a (qX r b c):=by
 obtain⟨k,p,n⟩:=r;simp only at hk;rcases Ee hr with⟨rfl,rfl,rfl⟩|⟨rfl,hp,rfl⟩|⟨rfl,hp,rfl⟩|⟨rfl,hp,rfl⟩|⟨rfl,hp,rfl⟩|⟨rfl,rfl,hn⟩|⟨rfl,hp,hn⟩|⟨rfl,hp,lz,rfl⟩
 ·have o:∀u v,qX (1,0,0) u v=((u.toNat&&&v.toNat:Nat):Int):=fun _ _=>rfl;rw[o,o,o,o,Int.toNat_natCast,Int.toNat_natCast,Nat.and_assoc]
 ·have o:∀u v,qX (2,p,0) u v=u*v%p:=fun _ _=>rfl;rw[o,o,o,o,Int.mul_emod,Int.emod_emod,<-Int.mul_emod,Int.mul_emod a,Int.emod_emod,<-Int.mul_emod,Int.mul_assoc]
 ·have o:∀u v,qX (3,p,0) u v=min (u*v) p:=fun _ _=>rfl;rw[o,o,o,o,abp (by omega) ha.1 hb.1 hc.1,Int.mul_comm a (min _ _),abp (by omega) hb.1 hc.1 ha.1,Int.mul_assoc a b c,Int.mul_comm a]
 ·have o:∀u v,qX (4,p,0) u v=min (u+v) p:=fun _ _=>rfl;rw[o,o,o,o];omega
 ·have o:∀u v,qX (5,p,0) u v=min u v:=fun _ _=>rfl;rw[o,o,o,o];omega
 ·have o:∀u v,qX (6,0,n) u v=((u.toNat&&&v.toNat:Nat):Int):=fun _ _=>rfl;rw[o,o,o,o,Int.toNat_natCast,Int.toNat_natCast,Nat.and_assoc]
 ·omega
 ·omega
theorem mul_assoc {r:Int×Int×Int} {x y z:J} (hr:gT r=true) (hx:nM r x=true) (hy:nM r y=true) (hz:nM r z=true):yJ r (yJ r x y) z=yJ r x (yJ r y z):=by
 by_cases hk:r.1=7\/r.1=8
 ·obtain⟨k,p,n⟩:=r;have c:=W3 hr hk;rw[Fw hk,Fw hk,Fw hk,Fw hk];simp only
  refine agn fun t ht=>?_;show cS (decide (k=8)) (aR (k,p,n)) (fv (zP p (decide (k=8)) (aR (k,p,n)) (fv x) (fv y))) (fv z) t%p=cS (decide (k=8)) (aR (k,p,n)) (fv x) (fv (zP p (decide (k=8)) (aR (k,p,n)) (fv y) (fv z))) t%p;have e1:cS (decide (k=8)) (aR (k,p,n)) (fv (zP p (decide (k=8)) (aR (k,p,n)) (fv x) (fv y))) (fv z) t%p=cS (decide (k=8)) (aR (k,p,n)) (cS (decide (k=8)) (aR (k,p,n)) (fv x) (fv y)) (fv z) t%p:=
   W0 (fun i hi=>by rw[PI,P7 _ hi,Int.emod_emod]) (fun _ _=>rfl)
  have e2:cS (decide (k=8)) (aR (k,p,n)) (fv x) (fv (zP p (decide (k=8)) (aR (k,p,n)) (fv y) (fv z))) t%p=cS (decide (k=8)) (aR (k,p,n)) (fv x) (cS (decide (k=8)) (aR (k,p,n)) (fv y) (fv z)) t%p:=
   W0 (fun _ _=>rfl) (fun i hi=>by rw[PI,P7 _ hi,Int.emod_emod])
  rw[e1,e2,ahB c _ _ _ ht]
 ·have hw:=agS hk;obtain⟨a,b,rfl,rfl,ha,hb⟩:=XI hx hy hw;obtain⟨_,c,e,rfl,_,hc⟩:=XI hx hz hw;rw[GX hk,GX hk,GX hk,GX hk,aqF hr hk ha hb hc]
theorem akv {k p n:Int} (hk:k=7\/k=8) {j:Nat} (hj:j<aR (k,p,n)):fv (DW (k,p,n)) j=if j=0 then 1 else 0:=by
 rw[aqE,P7 _ hj,if_neg (show¬k=4 by omega),if_neg (show¬(k=5\/k=6) by omega)]
theorem ahA {k p:Int} {w:Nat} (c:Nu k p w) (u:Nat->Int) (v:Int) {t:Nat} (h:t<w):cS (decide (k=8)) w u (fun j=>if j=0 then v else 0) t=u t*v:=by
 by_cases h8:k=8
 ·obtain rfl:=c.w8 h8;rw[decide_eq_true h8];match t,h with
  |0,_=>rw[zK];simp
  |1,_=>rw[zL];simp
  |2,_=>rw[zM];simp
  |3,_=>rw[zN];simp
 ·rw[decide_eq_false h8,Fe _ _ h];unfold pc;rw[Ve (a:=t) (t+1) (by omega) (fun i hi aF=>by simp only;rw[if_neg (by omega),Int.mul_zero])];simp only
  rw[if_pos (by omega)]
theorem aqG {k p n:Int} (hr:gT (k,p,n)=true) (hk:¬(k=7\/k=8)) {a:Int} (ha:0<=a/\a<=fa (k,p,n)):qX (k,p,n) a (if k=4 then 0 else if k=5\/k=6 then fa (k,p,n) else 1)=a:=by
 rcases Ee hr with⟨rfl,rfl,rfl⟩|⟨rfl,hp,rfl⟩|⟨rfl,hp,rfl⟩|⟨rfl,hp,rfl⟩|⟨rfl,hp,rfl⟩|⟨rfl,rfl,hn⟩|⟨rfl,hp,hn⟩|⟨rfl,hp,lz,rfl⟩
 ·have e:fa (1,0,0)=1:=rfl;have h1:a=0\/a=1:=by omega
  rcases h1 with rfl|rfl<;>decide
 ·have e:fa (2,p,0)=p - 1:=rfl;have:=qM hp;show a*1%p=a;rw[Int.mul_one,Int.emod_eq_of_lt (by omega) (by omega)]
 ·have e:fa (3,p,0)=p:=rfl;show min (a*1) p=a;omega
 ·have e:fa (4,p,0)=p:=rfl;show min (a+0) p=a;omega
 ·have e:fa (5,p,0)=p:=rfl;show min a p=a;omega
 ·have e:fa (6,0,n)=2^n.toNat - 1:=rfl;have e2:(((2:Nat)^n.toNat:Nat):Int)=(2:Int)^n.toNat:=by push_cast;rfl
  show((a.toNat&&&(2^n.toNat - 1:Int).toNat:Nat):Int)=a;rw[show(2^n.toNat - 1:Int).toNat=2^n.toNat - 1 by omega,Nat.and_two_pow_sub_one_eq_mod,Nat.mod_eq_of_lt (by omega)];omega
 ·omega
 ·omega
theorem mul_one {r:Int×Int×Int} {x:J} (hr:gT r=true) (hx:nM r x=true):yJ r x (DW r)=x:=by
 obtain⟨k,p,n⟩:=r;by_cases hk:k=7\/k=8
 ·have c:=W3 hr hk;rw[Fw hk,PI];simp only
  have hT:fa (k,p,n)=p - 1:=by
   simp only[fa];rw[if_neg (by omega),if_neg (by omega),if_neg (by omega)]
  refine(agn fun t ht=>?_).trans (atJ (XH hx));rw[Pf (x':=fv x) (y':=fun j=>if j=0 then 1 else 0) (fun _ _=>rfl) (fun i hi=>akv hk hi),ahA c _ _ ht,Int.mul_one]
  have:=XG hx ht;rw[hT] at this;exact Int.emod_eq_of_lt this.1 (by omega)
 ·have hw:=agS (r:=(k,p,n)) hk;obtain⟨e,ha⟩:=FE hx hw;have e1:DW (k,p,n)=[if k=4 then 0 else if k=5\/k=6 then fa (k,p,n) else 1]:=by simp only[DW];exact asm hw
  rw[e,e1,GX hk,aqG hr hk ha]
abbrev Rg:=Int×Int×Int
abbrev T3:=J×J×J
abbrev fb:=Int×List J
def jd (r:Rg) (t:T3):Bool:=gT r&&(decide (0<=fS t.1 t.2.1)&&(decide ((t.2.2.length:Int)=fS t.1 t.2.1*jL r)&&t.2.2.all (qL (fa r))))
def xu:Rg×T3->Option Bool:=fun x=>if x.2.1.length<=1048576/\x.2.2.1.length<=1048576/\x.2.2.2.length<=1048576 then some (jd x.1 x.2) else none
def BG:Rg×T3->Option Bool:=xu
def B3:T3->Option T3:=fun x=>if x.1.length<=1048576/\x.2.1.length<=1048576/\x.2.2.length<=1048576 then some x else none
def iu (R:List J) (ix:J) (i:Nat):Int:=(R.getD i []).getD (ix.getD i 0).toNat 0
def Bu (x:fb×J):Prop:=(1<=x.1.1/\x.1.1<=12)/\x.2.length<=12/\∀i,i<x.2.length->i<x.1.2.length/\(0<=x.2.getD i 0/\(x.2.getD i 0).toNat<(x.1.2.getD i []).length)/\0<=iu x.1.2 x.2 i/\iu x.1.2 x.2 i<=12
instance (x:fb×J):Decidable (Bu x):=by unfold Bu;infer_instance
def zy:fb×J->Option Int:=fun x=>if Bu x then some (sm x.2.length (iu x.1.2 x.2)%x.1.1) else none
def xm:fb×J->Option J:=fun x=>if Bu x then some (dq x.2.length (iu x.1.2 x.2)) else none
def tP:J->Option Int:=fun l=>if l.length<=12/\∀v∈l,0<=v/\v<=12 then some (sm l.length fun i=>l.getD i 0) else none
def zu:J->Option Int:=fun l=>if l.length<=12/\∀v∈l,1<=v/\v<=8 then some (eo l) else none
def BL:J×Int->Option J:=vn
def kQ (l:J) (o:Nat) (x:J):J:=l.take o++x++l.drop (o+x.length)
def Te (x:Rg×T3×Int×J):Prop:=gT x.1=true/\0<=x.2.2.1/\x.2.2.1.toNat*aR x.1+x.2.2.2.length<=x.2.1.2.2.length/\x.2.1.2.2.length<=1048576
instance (x:Rg×T3×Int×J):Decidable (Te x):=by unfold Te;infer_instance
def zx:Rg×T3×Int×J->Option J:=fun x=>if Te x then some (kQ x.2.1.2.2 (x.2.2.1.toNat*aR x.1) x.2.2.2) else none
def PN (x:Rg×T3×Int):Prop:=gT x.1=true/\0<=x.2.2/\(x.2.2.toNat+1)*aR x.1<=x.2.1.2.2.length/\x.2.1.2.2.length<=1048576
instance (x:Rg×T3×Int):Decidable (PN x):=by unfold PN;infer_instance
def uf (D:J) (c:fb) (n:Nat):Bool:=decide (sm D.length (iu c.2 (aK D n))%c.1≠0)
def jh (r:Rg) (D:J) (c:fb) (A:J):Nat->J
 |0=>A
 |k+1=>if uf D c k=true then kQ (jh r D c A k) (k*aR r) (jq r) else jh r D c A k
def CJ (x:Rg×T3×fb):Prop:=(x.2.1.1.length<=1048576/\x.2.1.2.1.length<=1048576/\x.2.1.2.2.length<=1048576)/\JQ (x.2.1,x.2.2)
instance (x:Rg×T3×fb):Decidable (CJ x):=by unfold CJ;infer_instance
def Ft (r:Rg) (t:T3) (c:fb):T3×Bool:=if jd r t=true/\jP (t,c)=true then((t.1,t.2.1,jh r t.2.1 c t.2.2 (bY t.2.1)),true) else(([],[],[]),false)
def B0:Rg×T3×fb->Option (T3×Bool):=fun x=>if CJ x then some (Ft x.1 x.2.1 x.2.2) else none
def vI (r:Rg) (t:T3) (c:fb):Bool:=decide (jd r t=true/\jP (t,c)=true/\jh r t.2.1 c t.2.2 (bY t.2.1)=t.2.2)
def xr:Rg×T3×fb->Option Bool:=fun x=>if CJ x then some (vI x.1 x.2.1 x.2.2) else none
def BE:Rg×T3×fb->Option Bool:=xr
def Jj:ak:=[(.agg,[.int .i64,.int .i64,.int .i64]),(.agg,[.list [.int .i64],.list [.int .i64],.list [.int .i64]])]
def Uq:ak:=[(.one,[.bool])]
def aoJ:aM:=[]
def Is:ak:=[(.agg,[.int .i64,.int .i64,.int .i64]),(.agg,[.list [.int .i64],.list [.int .i64],.list [.int .i64]])]
def TB:ak:=[(.one,[.bool])]
def an2:aM:=[]
def Jq:ak:=[(.agg,[.list [.int .i64],.list [.int .i64],.list [.int .i64]])]
def Uy:ak:=[(.agg,[.list [.int .i64],.list [.int .i64],.list [.int .i64]])]
def aoQ:aM:=[]
def JE:ak:=[(.agg,[.int .i64,.list [.list [.int .i64]]]),(.one,[.list [.int .i64]])]
def UM:ak:=[(.one,[.int .i64])]
def ao3:aM:=[]
def Iw:ak:=[(.agg,[.int .i64,.list [.list [.int .i64]]]),(.one,[.list [.int .i64]])]
def TG:ak:=[(.one,[.list [.int .i64]])]
def an6:aM:=[]
def IK:ak:=[(.one,[.list [.int .i64]])]
def TU:ak:=[(.one,[.int .i64])]
def aoj:aM:=[]
def IF:ak:=[(.one,[.list [.int .i64]])]
def TP:ak:=[(.one,[.int .i64])]
def aoe:aM:=[]
def IC:ak:=[(.one,[.list [.int .i64]]),(.one,[.int .i64])]
def TM:ak:=[(.one,[.list [.int .i64]])]
def aoc:aM:=[]
def Ol (NN:Nat):((Int×(Int×Int))×(J×(J×J)))->(Option Bool):=
 (fun(((i0,i1,i2),l3,l4,l5):((Int×(Int×Int))×(J×(J×J))))=>
 (tV (l3,l4,l5)).ae (fun i6=>
 (B1 (i0,i1,i2)).ae (fun b7=>
 av (dN b7)
 (some false)
 (av (bG i6 (0:Int))
 (some false)
 ((tW (i0,i1,i2)).ae (fun i8=>
 av (fq (aC (aa l5)) (lW .i64 i6 i8))
 (some false)
 (bV (ci NN (fun(((l9,jD,fZ),fH,f0,gB):((J×(Int×Int))×(Int×(Int×Int))))=>
 av (bG fZ jD)
 ((cM l9 fZ).ae (fun lT=>
 (EW (fH,f0,gB)).ae (fun lB=>
 (ky (lT,(0:Int),lB)).ae (fun b17=>
 av (dN b17)
 (some (Sum.inr (Sum.inr false)))
 (some (Sum.inl ((l9,jD,cC .i64 fZ 1),fH,f0,gB)))))))
 (some (Sum.inr (Sum.inl ()))))
 ((l5,aC (aa l5),(0:Int)),i0,i1,i2))
 (fun _=>
 some true))))))))
def NE (NN:Nat):((Int×(Int×Int))×(J×(J×J)))->(Option Bool):=
 (fun(((i0,i1,i2),l3,l4,l5):((Int×(Int×Int))×(J×(J×J))))=>
 (BF (i0,i1,i2)).ae (fun b6=>
 av (dN b6)
 (some false)
 ((xl (l3,l4,l5)).ae (fun i7=>
 av (fq i7 ((-1:Int)))
 ((tO (i0,i1,i2)).ae (fun i8=>
 av (dD (aC (aa l5)) (lW .i64 i7 i8))
 ((BK ((i0,i1,i2),l5)).ae (fun b9=>
 some b9))
 (some false)))
 (some false)))))
def Oq (NN:Nat):(J×(J×J))->(Option (J×(J×J))):=
 (fun((l0,l1,l2):(J×(J×J)))=>
 (nC l0).ae (fun l3=>
 (nC l1).ae (fun l4=>
 (nC l2).ae (fun l5=>
 (dP l3 (aa l3)).ae (fun l6=>
 (dP l4 (aa l4)).ae (fun l7=>
 (dP l5 (aa l5)).ae (fun l8=>
 some (l6,l7,l8))))))))
def OH (NN:Nat):((Int×(List J))×J)->(Option Int):=
 (fun(((i0,l1),l2):((Int×(List J))×J))=>
 bV (ci NN (fun(((i3,l4,i5,i6),i7,l8):((Int×(J×(Int×Int)))×(Int×(List J))))=>
 av (bG i6 i5)
 ((cM l4 i6).ae (fun i9=>
 (cM l8 i6).ae (fun ed=>
 (cM ed i9).ae (fun fZ=>
 some (Sum.inl ((cC .i64 i3 fZ,l4,i5,cC .i64 i6 1),i7,l8))))))
 (some (Sum.inr (Sum.inl (i3,i7,l8)))))
 (((0:Int),l2,aC (aa l2),(0:Int)),i0,l1))
 (fun(fH,f0,f7)=>
 (mO fH f0).ae (fun lT=>
 some lT)))
def NI (NN:Nat):((Int×(List J))×J)->(Option J):=
 (fun(((i0,l1),l2):((Int×(List J))×J))=>
 (lV (aC (aa l2)) (aC (aa l2)) 8).ae (fun k3=>
 bV ((bo 0 k3 (aa (dC k3 (0:Int)))).ae (fun _=>
 ci NN (fun(((l4,i5,i6),(i7,l8),l9):((J×(Int×Int))×((Int×(List J))×J)))=>
 av (bG i6 i5)
 ((cM l4 i6).ae (fun jD=>
 (cM l8 i6).ae (fun gi=>
 (cM gi jD).ae (fun fH=>
 (eX i6 (aa l9)).ae (fun R3=>
 (cu l9 (aG 0 R3)).ae (fun gB=>
 (bo 0 (aa l9) (aa (bS l9 (aG 0 R3) fH))).ae (fun _=>
 some (Sum.inl ((l4,i5,cC .i64 i6 1),(i7,l8),bS l9 (aG 0 R3) fH)))))))))
 ((aA l9 (
 some (Sum.inl l9))).ae (fun e8=>
 some (Sum.inr e8))))
 ((l2,aC (aa l2),(0:Int)),(i0,l1),dC k3 (0:Int))))
 (fun iZ=>
 (dP iZ (aa iZ)).ae (fun eS=>
 some eS))))
def NV (NN:Nat):J->(Option Int):=
 (fun(l0:J)=>
 bV (ci NN (fun((i1,l2,i3,i4):(Int×(J×(Int×Int))))=>
 av (bG i4 i3)
 ((cM l2 i4).ae (fun i5=>
 some (Sum.inl (cC .i64 i1 i5,l2,i3,cC .i64 i4 1))))
 (some (Sum.inr (Sum.inl i1))))
 ((0:Int),l0,aC (aa l0),(0:Int)))
 (fun i6=>
 some i6))
def NR (NN:Nat):J->(Option Int):=
 (fun(l0:J)=>
 bV (ci NN (fun((i1,l2,i3,i4):(Int×(J×(Int×Int))))=>
 av (bG i4 i3)
 ((cM l2 i4).ae (fun i5=>
 some (Sum.inl (lW .i64 i1 i5,l2,i3,cC .i64 i4 1))))
 (some (Sum.inr (Sum.inl i1))))
 ((1:Int),l0,aC (aa l0),(0:Int)))
 (fun i6=>
 some i6))
def V9 (NN:Nat):(J×Int)->(Option J):=
 (fun((l0,i1):(J×Int))=>
 (lV (aC (aa l0)) (aC (aa l0)) 8).ae (fun k2=>
 bV ((bo 0 k2 (aa (dC k2 (0:Int)))).ae (fun _=>
 ci NN (fun(((l3,i4,i5),l6):((J×(Int×Int))×J))=>
 av (jb (0:Int) i5)
 ((cM l3 i5).ae (fun i7=>
 (mO i4 i7).ae (fun i8=>
 (eX i5 (aa l6)).ae (fun k9=>
 (cu l6 (aG 0 k9)).ae (fun jD=>
 (cM l3 i5).ae (fun fZ=>
 (D7 .i64 i4 fZ).ae (fun fH=>
 (bo 0 (aa l6) (aa (bS l6 (aG 0 k9) i8))).ae (fun _=>
 some (Sum.inl ((l3,fH,kx .i64 i5 1),bS l6 (aG 0 k9) i8))))))))))
 ((aA l6 (
 some (Sum.inl l6))).ae (fun iY=>
 some (Sum.inr iY))))
 ((l0,i1,kx .i64 (aC (aa l0)) (1:Int)),dC k2 (0:Int))))
 (fun f7=>
 (dP f7 (aa f7)).ae (fun e8=>
 some e8))))
theorem ao {α β:Type} (x:α) (f:α->Option β):(some x).ae f=f x:=by
 have h:∀o:Option α,o=some x->o.ae f=f x:=by intro o h;subst h;rfl
 exact h _ rfl
theorem zi {r:Rg} {L D A:J} (h:jd r (L,D,A)=true):gT r=true/\(D.length<=12/\(∀x∈D,1<=x/\x<=8))/\fS L D=(bY D:Int)/\(1<=bY D/\bY D<=4096)/\A.length=bY D*aR r/\mC D/\zG 4096 D=(bY D:Int)/\eo D=(bY D:Int)/\A.all (qL (fa r))=true:=by
 simp only[jd,Bool.and_eq_true,decide_eq_true_eq] at h;obtain⟨h1,h2,h3,h4⟩:=h;have hw:=pi h1;by_cases ha:oD L D=true/\eo D<=4096
 ·have e:fS L D=eo D:=if_pos ha;have hd:=Cj ha.1;have hl:=vB ha.1;have hI:=He (D:=D) fun x hx=>(hd x hx).1;have eR:=A8 (D:=D) fun x hx=>(hd x hx).1;refine⟨h1,⟨by omega,hd⟩,e.trans hI,⟨eR,by omega⟩,?_,⟨by omega,fun x hx=>by have:=hd x hx;omega⟩,?_,hI,h4⟩
  ·rw[e,hI,hw.1] at h3
   exact_mod_cast h3
  ·unfold zG;rw[JO (by decide) _ 0 1 (fun x hx=>(hd x hx).1) (by decide) (by decide),Int.one_mul,hI,Int.min_eq_left (by omega)]
 ·have e:fS L D= -1:=if_neg ha;rw[e] at h2;exact absurd h2 (by decide)
theorem agB (L D:J):fS L D= -1\/(0<=fS L D/\fS L D<=4096):=by
 unfold fS;split
 ·rename_i h;have hd:=Cj h.1;have hI:=He (D:=D) fun x hx=>(hd x hx).1;right;omega
 ·exact .inl rfl
theorem agx {L D:J} {r:Rg} (h:gT r=true) (h0:0<=fS L D):lW .i64 (fS L D) (jL r)=fS L D*jL r:=by
 have hw:=pi h;have h1:fS L D<=4096:=by
  rcases agB L D with e|e
  ·omega
  ·exact e.2
 have h2:fS L D*jL r<=4096*6:=Int.mul_le_mul h1 (by omega) (by omega) (by decide);have h3:0<=fS L D*jL r:=Int.mul_nonneg h0 (by omega);exact oT (by omega) (by omega)
theorem aj5 (x:Rg×T3) (y:Bool) (h:xu x=some y):Ol aL x=some y:=by
 obtain⟨⟨k,p,n⟩,L,D,A⟩:=x;simp only[xu] at h;split at h
 ·rename_i hc;rw[<-h];simp only[Ol];rw[show tV (L,D,A)=some (fS L D) from if_pos ⟨hc.1,hc.2.1⟩]
  simp only[ao,B1];cases hr:gT (k,p,n) with
  |false=>rw[aY (b:=dN false) rfl];simp[jd,hr]
  |true=>
   rw[bc (b:=dN true) rfl];by_cases h0:0<=fS L D
   ·rw[bc (eJ h0)];simp only[tW,ao];rw[agx hr h0,nl];by_cases hl:(A.length:Int)=fS L D*jL (k,p,n)
    ·rw[bc (show fq _ _=false by unfold fq;rw[hl];simp)];have tn:EW (k,p,n)=some (fa (k,p,n)):=if_pos hr;rw[AZ A (fun i=>((A,(A.length:Int),(i:Int)),k,p,n)) (qL (fa (k,p,n))) (.inr false) (.inl ()) ?_ ?_ ?_ ?_ (dY (by have:=hc.2.2;omega))]
     ·cases ha:A.all (qL (fa (k,p,n)))
      ·rw[if_neg (by simp)];simp[jd,hr,ha,bV]
      ·rw[if_pos rfl];simp[jd,hr,ha,bV,h0,hl]
     ·intro i a ha hb;have aJ:decide (0<=a/\a<=fa (k,p,n))=true:=hb;dsimp only
      rw[aY (dQ (by have:=yI ha;omega)),dg,ha,ao,tn];simp only[ky,ao];rw[aJ,bc SL,nA ha (by have:=hc.2.2;omega)]
     ·intro i a ha hb;have aJ:decide (0<=a/\a<=fa (k,p,n))=false:=hb;dsimp only
      rw[aY (dQ (by have:=yI ha;omega)),dg,ha,ao,tn];simp only[ky,ao];rw[aJ,aY (b:=dN false) rfl]
     ·dsimp only;rw[bc (eJ (by omega))]
     ·rfl
    ·rw[aY (show fq _ _=true from bne_iff_ne.2 hl)]
     simp[jd,hr,hl]
   ·rw[aY (dQ (by omega))];simp[jd,hr,h0]
 ·cases h
theorem ajl (x:Rg×T3) (y:Bool) (h:BG x=some y):NE aL x=some y:=by
 obtain⟨⟨k,p,n⟩,L,D,A⟩:=x;simp only[BG,xu] at h;split at h
 ·rename_i hc;rw[<-h];simp only[NE,BF,ao];cases hr:gT (k,p,n) with
  |false=>rw[aY (b:=dN false) rfl];simp[jd,hr]
  |true=>
   rw[bc (b:=dN true) rfl,show xl (L,D,A)=some (fS L D) from if_pos ⟨hc.1,hc.2.1⟩]
   simp only[ao];by_cases h0:0<=fS L D
   ·rw[aY (show fq _ _=true from bne_iff_ne.2 (by omega))]
    simp only[tO,ao];rw[agx hr h0,nl];by_cases hl:(A.length:Int)=fS L D*jL (k,p,n)
    ·rw[aY (show dD _ _=true from beq_iff_eq.2 hl),show BK ((k,p,n),A)=some _ from if_pos ⟨hr,by have:=hc.2.2;omega⟩,ao]
     simp[jd,hr,h0,hl]
    ·rw[bc (show dD _ _=false from beq_eq_false_iff_ne.2 hl)]
     simp[jd,hr,hl]
   ·have:fS L D= -1:=by rcases agB L D with e|e<;>omega
    rw[bc (show fq _ _=false by unfold fq;rw[this];rfl)];simp[jd,hr,h0]
 ·cases h
theorem akc (x:T3) (y:T3) (h:B3 x=some y):Oq aL x=some y:=by
 obtain⟨L,D,A⟩:=x;simp only[B3] at h;split at h
 ·rename_i hc;rw[<-h];simp only[Oq];rw[show nC L=some L from if_pos (by have:=hc.1;omega),show nC D=some D from if_pos (by have:=hc.2.1;omega),show nC A=some A from if_pos (by have:=hc.2.2;omega)]
  simp only[ao,io]
 ·cases h
theorem W5 {m:Int} {R:List J} {ix:J} (h:Bu ((m,R),ix)) {i:Nat} (hi:i<ix.length):
  cM ix (i:Int)=some (ix.getD i 0)/\cM R (i:Int)=some (R.getD i [])/\cM (R.getD i []) (ix.getD i 0)=some (iu R ix i):=by
 obtain⟨_,_,h3⟩:=h;obtain⟨a1,⟨a2,a3⟩,_⟩:=h3 i hi;dsimp only at a1 a2 a3;refine⟨by rw[dg,getD_some 0 hi],by rw[dg,getD_some [] a1],?_⟩;unfold iu;obtain⟨v,hv⟩:=pR a2;rw[hv] at a3⊢;rw[dg,Int.toNat_natCast];exact getD_some 0 a3
theorem JR {m:Int} {R:List J} {ix:J} (h:Bu ((m,R),ix)):∀k,k<=ix.length->0<=sm k (iu R ix)/\sm k (iu R ix)<=12*k
 |0,_=>⟨Int.le_refl 0,Int.le_refl 0⟩
 |k+1,hk=>by
  have ih:=JR h k (by omega);have:=(h.2.2 k (by dsimp only;omega)).2.2;simp only[sm];dsimp only at this;omega
theorem akp (x:fb×J) (y:Int) (h:zy x=some y):OH aL x=some y:=by
 obtain⟨⟨m,R⟩,ix⟩:=x;simp only[zy] at h;split at h
 ·rename_i hc;rw[<-h];have hl:=hc.2.1;dsimp only at hl;have hm:=hc.1;dsimp only at hm;simp only[OH];rw[fk (fun k=>((sm k (iu R ix),ix,aC (aa ix),(k:Int)),m,R)) ix.length ?a1 ?a2 ?a3 (dY (by omega))]
  case a3=>rfl
  case a2=>dsimp only;rw[bc (gD ix)]
  case a1=>
   intro k hk;obtain⟨g1,g2,g3⟩:=W5 hc hk;have hb:=JR hc k (by omega);have hv:=(hc.2.2 k hk).2.2;dsimp only at hv;dsimp only
   rw[aY (dQ (by rw[nl];omega)),g1,ao,g2,ao,g3,ao,eK (by omega) (by omega),eK (by omega) (by omega)];rfl
  have hb:=JR hc ix.length (Nat.le_refl _);simp only[bV,Option.bind];rw[adI hb.1 (by omega)];simp only[ao]
 ·cases h
theorem ajp (x:fb×J) (y:J) (h:xm x=some y):NI aL x=some y:=by
 obtain⟨⟨m,R⟩,ix⟩:=x;simp only[xm] at h;split at h
 ·rename_i hc;rw[<-h];have hl:=hc.2.1;dsimp only at hl;simp only[NI,aA];rw[pQ (n:=aa ix) (by simp only[aa,dR];omega)];simp only[ao];rw[show bo 0 (aa ix) (aa (dC (aa ix) (0:Int)))=some () by rw[pO];exact bQ _];simp only[ao];rw[fk (fun k=>((ix,aC (aa ix),(k:Int)),(m,R),dq ix.length fun q=>if q<k then iu R ix q else 0)) (r:=Sum.inl (dq ix.length (iu R ix))) ix.length ?a1 ?a2 ?a3 (dY (by omega))]
  case a3=>
   rw[Tq];have:dq (aa ix) (fun _=>(0:Int))=dq ix.length fun q=>if q<0 then iu R ix q else 0:=ra fun q _=>by rw[if_neg (by omega)]
   rw[this];rfl
  case a2=>
   dsimp only
   rw[bc (gD ix)];simp only[Ky,ao];rw[show dq ix.length (fun q=>if q<ix.length then iu R ix q else 0)=dq ix.length (iu R ix) from ra fun q hq=>by rw[if_pos hq]]
  case a1=>
   intro k hk;obtain⟨g1,g2,g3⟩:=W5 hc hk;dsimp only
   rw[aY (dQ (by rw[nl];omega)),g1,ao,g2,ao,g3,ao,Pn _ hk];simp only[ao,fU];rw[KB _ hk];simp only[ao];rw[Tr,Ky];simp only[ao];rw[eK (by omega) (by omega)];have:dq ix.length (fun q=>if q=k then iu R ix k else if q<k then iu R ix q else 0)=dq ix.length fun q=>if q<k+1 then iu R ix q else 0:=ra fun q _=>by
    by_cases e:q=k
    ·rw[if_pos e,if_pos (by omega),e]
    ·rw[if_neg e];by_cases h:q<k
     ·rw[if_pos h,if_pos (by omega)]
     ·rw[if_neg h,if_neg (by omega)]
   rw[this];rfl
  simp only[bV,Option.bind,io,ao]
 ·cases h
theorem ajA (x:J) (y:Int) (h:tP x=some y):NV aL x=some y:=by
 simp only[tP] at h;split at h
 ·rename_i hc;rw[<-h];obtain⟨hl,hv⟩:=hc;have hb:∀k,k<=x.length->0<=sm k (fun i=>x.getD i 0)/\sm k (fun i=>x.getD i 0)<=12*k:=by
   intro k;induction k with
   |zero=>exact fun _=>⟨Int.le_refl 0,Int.le_refl 0⟩
   |succ k ih=>
    intro hk;have ih:=ih (by omega);have:=hv _ (List.mem_of_getElem? (getD_some 0 (show k<x.length by omega)));simp only[sm];omega
  simp only[NV];rw[fk (fun k=>(sm k (fun i=>x.getD i 0),x,aC (aa x),(k:Int))) x.length ?a1 ?a2 ?a3 (dY (by omega))]
  case a3=>rfl
  case a2=>dsimp only;rw[bc (gD x)]
  case a1=>
   intro k hk;have g:=getD_some (0:Int) hk;have h1:=hb k (by omega);have h2:=hv _ (List.mem_of_getElem? g);dsimp only
   rw[aY (dQ (by rw[nl];omega)),dg,g,ao,eK (by omega) (by omega),eK (by omega) (by omega)];rfl
  simp only[bV,Option.bind]
 ·cases h
theorem ajy (x:J) (y:Int) (h:zu x=some y):NR aL x=some y:=by
 simp only[zu] at h;split at h
 ·rename_i hc;rw[<-h];obtain⟨hl,hv⟩:=hc;have hb:∀k,k<=x.length->1<=eo (x.take k)/\eo (x.take k)<=8^k:=by
   intro k;induction k with
   |zero=>exact fun _=>⟨Int.le_refl 1,Int.le_refl 1⟩
   |succ k ih=>
    intro hk;obtain⟨i1,i2⟩:=ih (by omega);have h1:=hv _ (List.mem_of_getElem? (getD_some 0 (show k<x.length by omega)));rw[D6 (by omega)];have a1:1*1<=eo (x.take k)*x.getD k 0:=Int.mul_le_mul i1 h1.1 (by decide) (by omega);have a2:eo (x.take k)*x.getD k 0<=8^k*8:=Int.mul_le_mul i2 h1.2 (by omega) (by exact Int.pow_nonneg (by decide));exact⟨by omega,by rw[Int.pow_succ];exact a2⟩
  have Qs:∀k,k<=12->(8:Int)^k<=68719476736:=by decide
  simp only[NR];rw[fk (fun k=>(eo (x.take k),x,aC (aa x),(k:Int))) x.length ?a1 ?a2 ?a3 (dY (by omega))]
  case a3=>rfl
  case a2=>dsimp only;rw[bc (gD x)]
  case a1=>
   intro k hk;have g:=getD_some (0:Int) hk;have h1:=hb (k+1) (by omega);have h2:=Qs (k+1) (by omega);rw[D6 hk] at h1;dsimp only
   rw[aY (dQ (by rw[nl];omega)),dg,g,ao,oT (by omega) (by omega),eK (by omega) (by omega),<-D6 hk];rfl
  simp only[bV,Option.bind,List.take_length]
 ·cases h
theorem ajv (x:J×Int) (y:J) (h:BL x=some y):V9 aL x=some y:=Yd x y h
def Jx:ak:=[(.agg,[.int .i64,.int .i64,.int .i64]),(.agg,[.list [.int .i64],.list [.int .i64],.list [.int .i64]]),(.one,[.int .i64]),(.one,[.list [.int .i64]])]
def UF:ak:=[(.one,[.list [.int .i64]])]
def LQ:aM:=[[],[none,none,some .aO]]
def Jf:ak:=[(.agg,[.int .i64,.int .i64,.int .i64]),(.agg,[.list [.int .i64],.list [.int .i64],.list [.int .i64]]),(.agg,[.int .i64,.list [.list [.int .i64]]])]
def Um:ak:=[(.agg,[.list [.int .i64],.list [.int .i64],.list [.int .i64]]),(.one,[.bool])]
def aoF:aM:=[]
def Oz (NN:Nat):((Int×(Int×Int))×((J×(J×J))×(Int×J)))->(Option J):=
 (fun(((i0,i1,i2),(l3,l4,l5),i6,l7):((Int×(Int×Int))×((J×(J×J))×(Int×J))))=>
 (tW (i0,i1,i2)).ae (fun i8=>
 aA l5 (
 ci NN (fun(((i9,ed,fZ,fH,f0),f7,e8,iZ):((Int×(J×(Int×(Int×Int))))×(J×(J×J))))=>
 av (bG f0 fH)
 ((cM ed f0).ae (fun Gs=>
 (eX (cC .i64 (lW .i64 i9 fZ) f0) (aa f7)).ae (fun R5=>
 (cu f7 (aG 0 R5)).ae (fun Dt=>
 (bo 0 (aa f7) (aa (bS f7 (aG 0 R5) Gs))).ae (fun _=>
 some (Sum.inl ((i9,ed,fZ,fH,cC .i64 f0 1),bS f7 (aG 0 R5) Gs,e8,iZ)))))))
 (((j6 (aa f7) (aa l5)).ae (fun _=>
 some f7)).ae (fun fI=>
 some (Sum.inr fI))))
 ((i6,l7,i8,aC (aa l7),(0:Int)),l5,l3,l4))))
def Oh (NN:Nat):((Int×(Int×Int))×((J×(J×J))×(Int×(List J))))->(Option ((J×(J×J))×Bool)):=
 (fun(((i0,i1,i2),(l3,l4,l5),i6,l7):((Int×(Int×Int))×((J×(J×J))×(Int×(List J)))))=>
 (xu ((i0,i1,i2),l3,l4,l5)).ae (fun b8=>
 av (dN b8)
 (some ((([]:J),([]:J),([]:J)),false))
 ((xq ((l3,l4,l5),i6,l7)).ae (fun b9=>
 av (dN b9)
 (some ((([]:J),([]:J),([]:J)),false))
 ((B3 (l3,l4,l5)).ae (fun(ed,gi,fy)=>
 bV ((bo 0 0 (aa (([]:J)))).ae (fun _=>
 (bo 0 0 (aa (([]:J)))).ae (fun _=>
 (bo 0 0 (aa (([]:J)))).ae (fun _=>
 aA ed (
 aA gi (
 aA fy (
 ci NN (fun((f0,(gB,lT,lB),(eS,f8,fj),(qI,jX),e9,ja,gj,fe,fJ,kK):(Int×((Int×(Int×Int))×((J×(J×J))×((Int×(List J))×(J×(J×(J×(J×(J×J))))))))))=>
 (rq (f8,(4096:Int))).ae (fun AA=>
 av (bG f0 AA)
 ((vn (f8,f0)).ae (fun ig=>
 (cX ig 0 (aa ig)).ae (fun jF=>
 (zy ((qI,jX),jF)).ae (fun Rz=>
 av (fq Rz (0:Int))
 ((EX (gB,lT,lB)).ae (fun kt=>
 (cX fe 0 (aa fe)).ae (fun iH=>
 (cX fJ 0 (aa fJ)).ae (fun lC=>
 aA kK (
 (cX kt 0 (aa kt)).ae (fun np=>
 (zx ((gB,lT,lB),(iH,lC,kK),f0,np)).ae (fun jG=>
 aA e9 (
 aA ja (
 aA gj (
 aA fe (
 aA fJ (
 (bo 0 (aa kK) (aa jG)).ae (fun _=>
 some (Sum.inl (cC .i64 f0 1,(gB,lT,lB),(eS,f8,fj),(qI,jX),e9,ja,gj,fe,fJ,jG)))))))))))))))
 (aA e9 (
 aA ja (
 aA gj (
 aA fe (
 aA fJ (
 aA kK (
 some (Sum.inl (cC .i64 f0 1,(gB,lT,lB),(eS,f8,fj),(qI,jX),e9,ja,gj,fe,fJ,kK)))))))))))))
 ((aA e9 (
 aA ja (
 aA gj (
 aA fe (
 aA fJ (
 aA kK (
 some (Sum.inl (e9,ja,gj,fe,fJ,kK))))))))).ae (fun nq=>
 some (Sum.inr nq)))))
 ((0:Int),(i0,i1,i2),(l3,l4,l5),(i6,l7),([]:J),([]:J),([]:J),ed,gi,fy))))))))
 (fun(tq,yB,uS,qO,n7,tr)=>
 (dP qO (aa qO)).ae (fun yC=>
 (dP n7 (aa n7)).ae (fun pM=>
 (dP tr (aa tr)).ae (fun lU=>
 some ((yC,pM,lU),true)))))))))))
theorem RM {α:Type} {a b:Prop} [Decidable a] [Decidable b] (h:a↔b) (x y:α):(if a then x else y)=if b then x else y:=by simp only[h]
theorem LR {a b:Nat} (h:a*b<=1099511627776):lW .i64 (a:Int) (b:Int)=((a*b:Nat):Int):=by
 have e:(a:Int)*(b:Int)=((a*b:Nat):Int):=(Int.natCast_mul a b).symm;rw[oT (by omega) (by omega),e]
theorem Hi {l:J} {o:Nat} {x:J} (h:o+x.length<=l.length):(kQ l o x).length=l.length:=by
 unfold kQ;simp only[List.length_append,List.length_take,List.length_drop];omega
theorem Tg {l:J} {o:Nat} {x:J} (h:o+x.length<=l.length) (q:Nat):(kQ l o x)[q]? =if q<o then l[q]? else if q<o+x.length then x[q - o]? else l[q]? :=by
 unfold kQ;have h1:(l.take o).length=o:=by rw[List.length_take];omega
 have h2:(l.take o++x).length=o+x.length:=by rw[List.length_append,h1]
 by_cases a:q<o
 ·rw[if_pos a,List.getElem?_append_left (by omega),List.getElem?_append_left (by omega),List.getElem?_take,if_pos a]
 ·rw[if_neg a];by_cases b:q<o+x.length
  ·rw[if_pos b,List.getElem?_append_left (by omega),List.getElem?_append_right (by omega),h1]
  ·rw[if_neg b,List.getElem?_append_right (by omega),h2,List.getElem?_drop];congr 1;omega
theorem ar8 {l:J} {o i:Nat} {x:J} (h:o+x.length<=l.length) (hi:i<x.length):bS (kQ l o (x.take i)) (o+i) (x.getD i 0)=kQ l o (x.take (i+1)):=by
 have l1:(x.take i).length=i:=by rw[List.length_take];omega
 have l2:(x.take (i+1)).length=i+1:=by rw[List.length_take];omega
 have lp:=Hi (l:=l) (o:=o) (x:=x.take i) (by omega);apply List.ext_getElem?;intro q;unfold bS;rw[Tg (by omega) q,l2];by_cases e:q=o+i
 ·subst e;rw[List.getElem?_set_self (by omega),if_neg (by omega),if_pos (by omega),Nat.add_sub_cancel_left,List.getElem?_take,if_pos (by omega)];exact(getD_some 0 hi).symm
 ·rw[List.getElem?_set_ne (fun h=>e h.symm),Tg (by omega) q,l1];by_cases a:q<o
  ·rw[if_pos a,if_pos a]
  ·rw[if_neg a,if_neg a];by_cases b:q<o+i
   ·rw[if_pos b,if_pos (by omega),List.getElem?_take,List.getElem?_take,if_pos (by omega),if_pos (by omega)]
   ·rw[if_neg b,if_neg (by omega)]
theorem aki (x:Rg×T3×Int×J) (y:J) (h:zx x=some y):Oz aL x=some y:=by
 obtain⟨⟨k,p,m⟩,⟨L,D,A⟩,n,x⟩:=x;simp only[zx] at h;split at h
 ·rename_i hc;rw[<-h];obtain⟨hr,h0,h1,h2⟩:=hc;dsimp only at hr h0 h1 h2;obtain⟨n,rfl⟩:=pR h0;have hw:=pi hr;simp only[Int.toNat_natCast] at h1⊢;have hnw:n*aR (k,p,m)<=1048576:=by omega
  have hn:n<=1048576:=by have:=Nat.le_mul_of_pos_right n (show 0<aR (k,p,m) by omega);omega
  simp only[Oz,tW,ao,bQ,aA];rw[hw.1];rw[fk (fun i=>(((n:Int),x,((aR (k,p,m):Nat):Int),aC (aa x),(i:Int)),kQ A (n*aR (k,p,m)) (x.take i),L,D)) (r:=kQ A (n*aR (k,p,m)) x) x.length ?a1 ?a2 ?a3 (dY (by omega))]
  case a3=>rw[List.take_zero];simp[kQ]
  case a2=>
   dsimp only
   rw[bc (gD x),List.take_length];have:aa (kQ A (n*aR (k,p,m)) x)=aa A:=Hi h1;rw[this,show j6 (aa A) (aa A)=some () from if_pos rfl]
   simp only[ao]
  case a1=>
   intro i hi;have l1:(x.take i).length=i:=by rw[List.length_take];omega
   have hl:aa (kQ A (n*aR (k,p,m)) (x.take i))=A.length:=Hi (by omega);dsimp only
   rw[aY (dQ (by rw[nl];omega)),dg,getD_some 0 hi];simp only[ao];rw[LR (a:=n) (b:=aR (k,p,m)) (by omega)];rw[eK (by omega) (by omega),show((n*aR (k,p,m):Nat):Int)+(i:Int)=((n*aR (k,p,m)+i:Nat):Int) by push_cast;rfl];rw[hl,mz (by omega)];simp only[ao,fU];obtain⟨v,hv⟩:∃v,(kQ A (n*aR (k,p,m)) (x.take i))[n*aR (k,p,m)+i]? =some v:=⟨_,List.getElem?_eq_getElem (show n*aR (k,p,m)+i<(kQ A (n*aR (k,p,m)) (x.take i)).length by have:(kQ A (n*aR (k,p,m)) (x.take i)).length=A.length:=hl;omega)⟩;rw[show cu (kQ A (n*aR (k,p,m)) (x.take i)) (n*aR (k,p,m)+i)=some v from hv]
   simp only[ao];have l2:(x.take (i+1)).length=i+1:=by rw[List.length_take];omega
   rw[ar8 h1 hi,show bo 0 A.length (aa (kQ A (n*aR (k,p,m)) (x.take (i+1))))=some () from xX (Hi (by omega)).symm]
   simp only[ao];rw[eK (by omega) (by omega)];rfl
 ·cases h
theorem EO {r:Rg} (h:gT r=true):(jq r).length=aR r:=by
 have:=aio h;simp only[nM,Bool.and_eq_true,decide_eq_true_eq] at this;exact this.1
theorem Fs {r:Rg} {D A:J} {c:fb} {N:Nat} (hr:gT r=true) (hA:A.length=N*aR r):∀k,k<=N->(jh r D c A k).length=A.length
 |0,_=>rfl
 |k+1,hk=>by
  have ih:=Fs (D:=D) (c:=c) hr hA k (by omega);have hm:(k+1)*aR r<=N*aR r:=Nat.mul_le_mul_right _ hk;rw[Nat.add_mul,Nat.one_mul] at hm;unfold jh;split
  ·rw[Hi (by rw[EO hr,ih];omega)];exact ih
  ·exact ih
theorem Pz {r:Rg} {D A:J} {c:fb} {N:Nat} (hr:gT r=true) (hA:A.length=N*aR r) (q:Nat):∀k,k<=N->(jh r D c A k)[q]? =if q/aR r<k/\uf D c (q/aR r)=true then(jq r)[q%aR r]? else A[q]?
 |0,_=>by rw[if_neg (fun h=>Nat.not_lt_zero _ h.1)];rfl
 |k+1,hk=>by
  have ih:=Pz (D:=D) (c:=c) hr hA q k (by omega);have hw:=(pi hr).2.1;have hm:(k+1)*aR r<=N*aR r:=Nat.mul_le_mul_right _ hk;rw[Nat.add_mul,Nat.one_mul] at hm;have hdm:=Nat.div_add_mod q (aR r);have KW:=Nat.mod_lt q (show 0<aR r by omega);unfold jh;by_cases hb:uf D c k=true
  ·rw[if_pos hb,Tg (by rw[EO hr,Fs hr hA k (by omega)];omega),EO hr,ih];by_cases e:q/aR r=k
   ·subst e;rw[if_neg (by rw[Nat.mul_comm];omega),if_pos (by rw[Nat.mul_comm];omega),if_pos ⟨by omega,hb⟩];congr 1;rw[Nat.mul_comm];omega
   ·have h1:¬(¬q<k*aR r/\q<k*aR r+aR r):=by
     rintro⟨a1,a2⟩;apply e;apply Nat.div_eq_of_lt_le
     ·rw[Nat.mul_comm];rw[Nat.mul_comm] at a1;omega
     ·rw[Nat.add_mul,Nat.one_mul];omega
    have h2:(q/aR r<k/\uf D c (q/aR r)=true)↔(q/aR r<k+1/\uf D c (q/aR r)=true):=by
     constructor
     ·rintro⟨a1,a2⟩;exact⟨by omega,a2⟩
     ·rintro⟨a1,a2⟩;exact⟨by omega,a2⟩
    by_cases a:q<k*aR r
    ·rw[if_pos a];exact RM h2 _ _
    ·rw[if_neg a,if_neg (fun b=>h1 ⟨a,b⟩)];exact RM h2 _ _
  ·rw[if_neg hb,ih];refine RM ?_ _ _;constructor
   ·rintro⟨a1,a2⟩;exact⟨by omega,a2⟩
   ·rintro⟨a1,a2⟩;refine⟨?_,a2⟩;by_cases e:q/aR r=k
    ·rw[e] at a2;exact absurd a2 hb
    ·omega
theorem ah0 {r:Rg} {D A:J} {c:fb} {N:Nat} (hr:gT r=true) (hA:A.length=N*aR r):jh r D c A N=A↔∀n,n<N->uf D c n=true->f9 A (n*aR r) (aR r)=jq r:=by
 have hw:=(pi hr).2.1;constructor
 ·intro h n hn hb;have hm:(n+1)*aR r<=N*aR r:=Nat.mul_le_mul_right _ hn;rw[Nat.add_mul,Nat.one_mul] at hm;apply List.ext_getElem?;intro j;unfold f9;rw[List.getElem?_take,List.getElem?_drop];by_cases hj:j<aR r
  ·rw[if_pos hj];have hd:(n*aR r+j)/aR r=n:=by rw[Nat.mul_comm,Nat.mul_add_div (by omega),Nat.div_eq_of_lt hj,Nat.add_zero]
   have ic:(n*aR r+j)%aR r=j:=by rw[Nat.mul_comm,Nat.mul_add_mod,Nat.mod_eq_of_lt hj]
   have:=Pz (D:=D) (c:=c) hr hA (n*aR r+j) N (Nat.le_refl _);rw[h,hd,ic,if_pos ⟨hn,hb⟩] at this;exact this
  ·rw[if_neg hj,List.getElem?_eq_none (by rw[EO hr];omega)]
 ·intro h;apply List.ext_getElem?;intro q;rw[Pz hr hA q N (Nat.le_refl _)];split
  ·rename_i hc;have:=h _ hc.1 hc.2;have KW:=Nat.mod_lt q (show 0<aR r by omega);have e:=congrArg (fun l=>l[q%aR r]?) this;unfold f9 at e;simp only[List.getElem?_take,List.getElem?_drop,if_pos KW] at e;rw[<-e];congr 1;rw[Nat.mul_comm];exact Nat.div_add_mod q (aR r)
  ·rfl
theorem agh {L D A:J} {c:fb} {r:Rg} (ht:jd r (L,D,A)=true) (hc:jP ((L,D,A),c)=true) (n:Nat):Bu (c,aK D n):=by
 obtain⟨_,⟨hl,hd⟩,_,_,_,hD,_,_,_⟩:=zi ht;obtain⟨m,R⟩:=c;simp only[jP,Bool.and_eq_true,decide_eq_true_eq] at hc;obtain⟨_,hm,hR,hp⟩:=hc;have lx:(aK D n).length=D.length:=fQ _ _;refine⟨hm,by dsimp only;omega,fun i hi=>?_⟩;dsimp only at hi⊢;rw[lx] at hi;obtain⟨d,d1,d2,d3,d4,d5⟩:=Fx hD hi;obtain⟨p1,p2⟩:=hp i (by omega);have yb:(aK D n).getD i 0=((n/eP D (i+1)%d:Nat):Int):=by rw[AD hi];unfold eF;rw[d3]
 have cj:=Nat.mod_lt (n/eP D (i+1)) (show 0<d by omega);rw[d2] at p1;have cW:n/eP D (i+1)%d<(R.getD i []).length:=by omega
 refine⟨by omega,by rw[yb,Int.toNat_natCast];exact⟨by omega,cW⟩,?_⟩;unfold iu;rw[yb,Int.toNat_natCast];have eW:=adL.1 p2;have:=eW _ (List.mem_of_getElem? (getD_some 0 cW));exact⟨this.1,by have:=this.2;omega⟩
theorem MZ {L D A:J} {c:fb} {r:Rg} (ht:jd r (L,D,A)=true) (hc:jP ((L,D,A),c)=true) (n:Nat):zy (c,aK D n)=some (sm D.length (iu c.2 (aK D n))%c.1):=by
 have h:=agh ht hc n;have lx:(aK D n).length=D.length:=fQ _ _;rw[show zy (c,aK D n)=_ from if_pos h]
 dsimp only
 rw[lx]
theorem aj1 (x:Rg×T3×fb) (y:T3×Bool) (h:B0 x=some y):Oh aL x=some y:=by
 obtain⟨⟨k,p,m⟩,⟨L,D,A⟩,cm,R⟩:=x;simp only[B0] at h;split at h
 ·rename_i nU;rw[<-h];have QF:=nU.2;obtain⟨⟨l1,l2,l3⟩,_⟩:=nU;dsimp only at l1 l2 l3;unfold Ft;simp only[Oh,aA];rw[show xu ((k,p,m),L,D,A)=some (jd (k,p,m) (L,D,A)) from if_pos ⟨l1,l2,l3⟩]
  simp only[ao];cases ht:jd (k,p,m) (L,D,A) with
  |false=>rw[aY (b:=dN false) rfl,if_neg (by simp)]
  |true=>
   rw[bc (b:=dN true) rfl,show xq ((L,D,A),cm,R)=some (jP ((L,D,A),cm,R)) from if_pos QF]
   simp only[ao];cases gX:jP ((L,D,A),cm,R) with
   |false=>rw[aY (b:=dN false) rfl,if_neg (by simp)]
   |true=>
    rw[bc (b:=dN true) rfl,if_pos (by simp)];obtain⟨hr,⟨hl,hd⟩,tp,⟨lP,lz⟩,hA,hD,gF,KZ,_⟩:=zi ht;have hw:=pi hr;rw[show B3 (L,D,A)=some (L,D,A) from if_pos ⟨l1,l2,l3⟩]
    simp only[ao,bQ];rw[show bo 0 0 (aa ([]:J))=some () from rfl]
    simp only[ao];rw[fk (fun n=>((n:Int),(k,p,m),(L,D,A),(cm,R),([]:J),([]:J),([]:J),L,D,jh (k,p,m) D (cm,R) A n)) (bY D) ?a1 ?a2 ?a3 (dY (by omega))]
    case a3=>rfl
    case a2=>
     dsimp only
     rw[show rq (D,4096)=some ((bY D:Nat):Int) by
      rw[<-gF];exact if_pos ⟨by decide,l2,List.all_eq_true.2 fun v hv=>by have:=hd v hv;exact decide_eq_true (by omega)⟩]
     simp only[ao];rw[bc (eJ (by omega))]
     try simp only[bQ,ao]
    case a1=>
     intro n hn;have aab:(jh (k,p,m) D (cm,R) A n).length=A.length:=Fs hr hA n (by omega);have hm:(n+1)*aR (k,p,m)<=bY D*aR (k,p,m):=Nat.mul_le_mul_right _ hn;rw[Nat.add_mul,Nat.one_mul] at hm;dsimp only
     rw[show rq (D,4096)=some ((bY D:Nat):Int) by
      rw[<-gF];exact if_pos ⟨by decide,l2,List.all_eq_true.2 fun v hv=>by have:=hd v hv;exact decide_eq_true (by omega)⟩]
     simp only[ao];rw[aY (dQ (by omega)),show vn (D,(n:Int))=some (aK D n) from if_pos ⟨hD,by dsimp only;omega,by dsimp only;omega⟩]
     simp only[ao,kY];rw[MZ ht gX n];simp only[ao];rw[eK (by omega) (by omega)];by_cases hb:uf D (cm,R) n=true
     ·have aJ:=of_decide_eq_true hb;rw[aY (show fq _ 0=true from bne_iff_ne.2 aJ),show EX (k,p,m)=some (jq (k,p,m)) from if_pos hr]
      simp only[ao,kY,bQ];rw[show zx ((k,p,m),(L,D,jh (k,p,m) D (cm,R) A n),(n:Int),jq (k,p,m))=some (kQ (jh (k,p,m) D (cm,R) A n) (n*aR (k,p,m)) (jq (k,p,m))) from by
       simp only[zx];rw[if_pos ⟨hr,by dsimp only;omega,by dsimp only;rw[EO hr,aab,Int.toNat_natCast];omega,by dsimp only;omega⟩];rfl]
      simp only[ao];have e:jh (k,p,m) D (cm,R) A (n+1)=kQ (jh (k,p,m) D (cm,R) A n) (n*aR (k,p,m)) (jq (k,p,m)):=if_pos hb;rw[show bo 0 (aa (jh (k,p,m) D (cm,R) A n)) (aa (kQ (jh (k,p,m) D (cm,R) A n) (n*aR (k,p,m)) (jq (k,p,m))))=some () from xX (by
       rw[<-e];exact aab.trans (Fs hr hA (n+1) (by omega)).symm)]
      simp only[ao];rw[<-e];rfl
     ·have aJ:sm D.length (iu R (aK D n))%cm=0:=Classical.byContradiction fun h=>hb (decide_eq_true h);rw[aJ,bc (by rfl)];have e:jh (k,p,m) D (cm,R) A (n+1)=jh (k,p,m) D (cm,R) A n:=if_neg hb;rw[e];rfl
    simp only[bV,Option.bind,io,ao]
 ·cases h
theorem xW {α:Type}:bo 0 0 (aa ([]:List α))=some ():=rfl
theorem rN {α:Type} (l:List α) (x:α):bo 0 (aG (aa l) (aa [x])) (aa (dF l [x]))=some ():=by
 rw[show aa (dF l [x])=aG (aa l) (aa [x]) by simp[aG,aa,dF]];exact bQ _
def aaQ (x:Int×lH×lH):Prop:=oU x.1/\A2 x.2.1/\A2 x.2.2/\(x.2.1.1*x.2.2.1<=4096/\x.2.1.2.1*x.2.2.2.1<=4096)/\(x.2.1.1*x.2.2.1)*(x.2.1.2.1*x.2.2.2.1)<=1048576/\qh x.1 x.2.1.2.2/\qh x.1 x.2.2.2.2
instance (x:Int×lH×lH):Decidable (aaQ x):=by unfold aaQ;infer_instance
section
variable {p:Int} {r c s d:Nat} {A B:ew}
end
section
variable {p:Int} {n m:Nat} {a b a2 b2:J} {ms SH:List lH}
end

abbrev Wd:=J
structure BI (p:Int) (n t:Nat) (S:List Wd×J) (q:List Wd):Prop where
 dl:S.2.length=S.1.length*n
 dp:qh p S.2
 kn:S.1.length<=n
 qo:∀w∈q,Nk t w/\w.length<=S.1.length
 wo:∀w∈S.1,Nk t w/\w.length<=n
section
variable {p:Int} {n:Nat} {s b:J} {ms:List lH}
theorem BI.no {S:List Wd×J} {w:Wd} {q:List Wd} (h:BI p n ms.length S (w::q)):BI p n ms.length S q:=⟨h.dl,h.dp,h.kn,fun v hv=>h.qo v (by simp[hv]),h.wo⟩
end
theorem agr {α:Type} {l:List α} {n:Nat} (h:n=l.length):dP l n=some l:=by subst h;unfold dP;rw[if_pos (Nat.le_refl _),List.take_length]
section
variable {p:Int} {n:Nat} {s b:J} {ms:List lH}
end
section
variable {p:Int} {n:Nat} {s b:J} {ms:List lH}
end
def afG (x:Int×lH×lH):Prop:=oU x.1/\(0<=x.2.1.1/\x.2.1.1<=x.2.1.2.1/\x.2.1.2.1<=12)/\(0<=x.2.2.1/\x.2.2.1<=12)/\x.2.2.2.1=x.2.1.2.1/\(x.2.1.2.2.length=x.2.1.1.toNat*x.2.1.2.1.toNat/\x.2.2.2.2.length=x.2.2.1.toNat*x.2.1.2.1.toNat)/\qh x.1 x.2.1.2.2/\qh x.1 x.2.2.2.2
instance (x:Int×lH×lH):Decidable (afG x):=by unfold afG;infer_instance


def OU (p:Int) (M:ew) (i j:Nat):Prop:=(M i j+M j i)%p=0/\(i=j->M i j=0)
instance (p:Int) (M:ew) (i j:Nat):Decidable (OU p M i j):=by unfold OU;infer_instance
def Wx (p:Int) (M:ew) (i:Nat):Prop:=∀j,j<i+1->OU p M i j
instance (p:Int) (M:ew) (i:Nat):Decidable (Wx p M i):=by unfold Wx;infer_instance
def m8 (p a b:Int):Prop:=∃q,a=b+p*q
theorem m8.refl (p a:Int):m8 p a a:=⟨0,by simp⟩
theorem m8.trans {p a b c:Int} (h:m8 p a b) (h':m8 p b c):m8 p a c:=by
 obtain⟨q,rfl⟩:=h;obtain⟨q',rfl⟩:=h';exact⟨q'+q,by rw[Int.mul_add];omega⟩
theorem m8.symm {p a b:Int} (h:m8 p a b):m8 p b a:=by
 obtain⟨q,rfl⟩:=h;exact⟨-q,by rw[Int.mul_neg];omega⟩
theorem m8.add {p a b c d:Int} (h:m8 p a b) (h':m8 p c d):m8 p (a+c) (b+d):=by
 obtain⟨q,rfl⟩:=h;obtain⟨q',rfl⟩:=h';exact⟨q+q',by grind⟩
theorem m8.mul {p a b c d:Int} (h:m8 p a b) (h':m8 p c d):m8 p (a*c) (b*d):=by
 obtain⟨q,rfl⟩:=h;obtain⟨q',rfl⟩:=h';exact⟨q*d+b*q'+p*q*q',by grind⟩
section
variable {p inv:Int} {n k:Nat} {A:ew}
end
section
variable {p:Int} {n:Nat} {M:ew}
end
section
variable {p:Int} {n:Nat} {M:ew}
end

section
variable {p:Int} {n m:Nat} {a b a2 b2:J} {ms SH:List lH}
end
def afz:Nat->J->J
 |0,l=>l
 |k+1,l=>if l.getD (k+1) 0<l.getD k 0 then afz k (bS (bS l (k+1) (l.getD k 0)) k (l.getD (k+1) 0)) else l
def afI (l:J):Nat->J
 |0=>l
 |i+1=>afz i (afI l i)
def sN (f:Nat->Nat):Nat->Nat
 |0=>0
 |q+1=>sN f q+f q
def yT (L D S:J):J:=dq S.length fun i=>D.getD (gv L (S.getD i 0)) 0
def gP (L D S:J) (n:Nat) (v:Int):Nat:=(eF (yT L D S) n (gv S v)).toNat*eP D (gv L v+1)
def SP (L D S:J) (n:Nat):Nat:=sN (fun i=>gP L D S n (S.getD i 0)) S.length
def mZ (r:Rg) (A:J) (off:Nat->Nat):Nat->J
 |0=>[]
 |n+1=>mZ r A off n++f9 A (off n*aR r) (aR r)
def adb (x:Rg×T3×J):Prop:=jd x.1 x.2.1=true/\x.2.2=afI x.2.1.1 x.2.1.1.length
instance (x:Rg×T3×J):Decidable (adb x):=by unfold adb;infer_instance
def ve (l:J) (b:Int):Prop:=l.length<=12/\∀x∈l,0<=x/\x<=b
instance (l:J) (b:Int):Decidable (ve l b):=by unfold ve;infer_instance
def xv:J×J->Option Int:=fun x=>if ve x.1 8/\ve x.2 8/\x.1.length=x.2.length then some ((g0 x.1 x.2 x.1.length:Nat):Int) else none
def Mz (l:J) (b:Int):Prop:=l.length<=24/\∀x∈l,0<=x/\x<=b
instance (l:J) (b:Int):Decidable (Mz l b):=by unfold Mz;infer_instance
theorem ve.m {l:J} {b:Int} (h:ve l b):Mz l b:=⟨Nat.le_trans h.1 (by decide),h.2⟩
def vm:Rg×T3×Int->Option J:=fun x=>if PN x then some (f9 x.2.1.2.2 (x.2.2.toNat*aR x.1) (aR x.1)) else none
def tN:Rg×T3×Int->Option J:=vm
def Jv:ak:=[(.one,[.list [.int .i64]]),(.one,[.list [.int .i64]])]
def UD:ak:=[(.one,[.int .i64])]
def aoV:aM:=[]
def Js:ak:=[(.agg,[.int .i64,.int .i64,.int .i64]),(.agg,[.list [.int .i64],.list [.int .i64],.list [.int .i64]]),(.one,[.int .i64])]
def UA:ak:=[(.one,[.list [.int .i64]])]
def aoS:aM:=[]
def IG:ak:=[(.agg,[.int .i64,.int .i64,.int .i64]),(.agg,[.list [.int .i64],.list [.int .i64],.list [.int .i64]]),(.one,[.int .i64])]
def TQ:ak:=[(.one,[.list [.int .i64]])]
def aof:aM:=[[some .aI]]
def Ox (NN:Nat):(J×J)->(Option Int):=
 (fun((l0,l1):(J×J))=>
 bV (ci NN (fun((l2,i3,l4,i5,i6):(J×(Int×(J×(Int×Int)))))=>
 av (bG i6 i5)
 ((cM l4 i6).ae (fun i7=>
 (cM l2 i6).ae (fun i8=>
 some (Sum.inl (l2,cC .i64 (lW .i64 i3 i7) i8,l4,i5,cC .i64 i6 1)))))
 (some (Sum.inr (Sum.inl i3))))
 (l1,(0:Int),l0,aC (aa l0),(0:Int)))
 (fun i9=>
 some i9))
def Ou (NN:Nat):((Int×(Int×Int))×((J×(J×J))×Int))->(Option J):=
 (fun(((i0,i1,i2),(l3,l4,l5),i6):((Int×(Int×Int))×((J×(J×J))×Int)))=>
 (tW (i0,i1,i2)).ae (fun i7=>
 (mQ (lW .i64 i6 i7) (cC .i64 (lW .i64 i6 i7) i7) (aa l5)).ae (fun(k8,k9)=>
 (bo 0 0 (aa (([]:J)))).ae (fun _=>
 (jR (aG (aa (([]:J))) (aa (f9 l5 k8 k9))) 8).ae (fun _=>
 (dP (dF (([]:J)) (f9 l5 k8 k9)) (aG (aa (([]:J))) (aa (f9 l5 k8 k9)))).ae (fun ed=>
 some ed))))))
def NS (NN:Nat):((Int×(Int×Int))×((J×(J×J))×Int))->(Option J):=
 (fun(((i0,i1,i2),(l3,l4,l5),i6):((Int×(Int×Int))×((J×(J×J))×Int)))=>
 (tO (i0,i1,i2)).ae (fun i7=>
 (mQ (lW .i64 i6 i7) (lW .i64 (cC .i64 i6 1) i7) (aa l5)).ae (fun(k8,k9)=>
 some (f9 l5 k8 k9))))
theorem adU {f g:Nat->Nat}:∀q,(∀i,i<q->f i=g i)->sN f q=sN g q
 |0,_=>rfl
 |q+1,h=>by simp only[sN];rw[adU q fun i hi=>h i (by omega),h q (by omega)]
theorem adW (g:Int->Nat) (l:J):∀q,q<=l.length->sN (fun i=>g (l.getD i 0)) q=((l.take q).map g).sum
 |0,_=>by simp[sN]
 |q+1,h=>by
  simp only[sN];rw[adW g l q (by omega),List.take_succ_eq_append_getElem (by omega),List.map_append,List.sum_append_nat,List.getD_eq_getElem?_getD,List.getElem?_eq_getElem (by omega)];simp
theorem adV (g:Int->Nat) (l:J):sN (fun i=>g (l.getD i 0)) l.length=(l.map g).sum:=by
 rw[adW g l _ (Nat.le_refl _),List.take_length]
theorem asJ {S L:J} (h:S.Perm L) (g:Int->Nat):sN (fun i=>g (S.getD i 0)) S.length=sN (fun i=>g (L.getD i 0)) L.length:=by
 rw[adV,adV];exact(h.map g).sum_nat
theorem L8 {l:J} {v:Int} (h:v∈l):gv l v<l.length:=by
 refine Nat.lt_of_le_of_ne (L7 l v) fun e=>?_;obtain⟨i,hi⟩:=List.getElem?_of_mem h;have hl:=(List.getElem?_eq_some_iff.1 hi).1;exact L6 (by omega) hi
theorem adg {l:J} {v:Int} (h:v∈l):l.getD (gv l v) 0=v:=by
 rw[List.getD_eq_getElem?_getD,Hd (L8 h)];rfl
theorem td {l:J} {i:Nat} (h:i<l.length):l.getD i 0∈l:=by
 rw[List.getD_eq_getElem?_getD,List.getElem?_eq_getElem h];exact List.getElem_mem h
theorem S6 {l:J} (hn:l.Nodup) {i:Nat} (h:i<l.length):gv l (l.getD i 0)=i:=by
 have hm:=td h;have h1:=L8 hm;have h2:=Hd h1;rw[List.getElem?_eq_getElem h1] at h2;have e:l[gv l (l.getD i 0)]=l[i]:=by
  injection h2 with h2;rw[h2,List.getD_eq_getElem?_getD,List.getElem?_eq_getElem h];rfl
 exact(List.getElem_inj hn).1 e
structure sP (L D S:J):Prop where
 p:S.Perm L
 nL:L.Nodup
 nS:S.Nodup
 len:L.length=D.length
 fy:L.length<=12
 rC:∀x∈D,1<=x/\x<=8
section
variable {L D S:J} (I:sP L D S)
include I
theorem sP.inv {q k:Nat} (hq:q<S.length) (hk:k<L.length):gv L (S.getD q 0)=k↔gv S (L.getD k 0)=q:=by
 have m1:S.getD q 0∈L:=I.p.mem_iff.1 (td hq);have m2:L.getD k 0∈S:=I.p.mem_iff.2 (td hk);constructor
 ·intro e;have:=adg m1;rw[e] at this;rw[this,S6 I.nS hq]
 ·intro e;have:=adg m2;rw[e] at this;rw[this,S6 I.nL hk]
theorem sP.ahh {q:Nat} (hq:q<S.length):gv L (S.getD q 0)<L.length:=L8 (I.p.mem_iff.1 (td hq))
theorem sP.alY {k:Nat} (hk:k<L.length):gv S (L.getD k 0)<S.length:=L8 (I.p.mem_iff.2 (td hk))
theorem sP.mC:mC D:=⟨by have:=I.len;have:=I.fy;omega,fun x hx=>by have:=I.rC x hx;omega⟩
omit I in
omit I in
def A7 (L D S:J) (n:Nat):J:=dq D.length fun k=>eF (yT L D S) n (gv S (L.getD k 0))
theorem sP.pd {i:Nat} (hi:i<S.length):(yT L D S).getD i 0=D.getD (gv L (S.getD i 0)) 0:=by
 unfold yT;rw[List.getD_eq_getElem?_getD,vc _ hi];rfl
theorem sP.ah8 (n:Nat) {i:Nat} (hi:i<S.length):0<=eF (yT L D S) n i/\eF (yT L D S) n i<D.getD (gv L (S.getD i 0)) 0:=by
 have hd:=I.rC _ (td (l:=D) (i:=gv L (S.getD i 0)) (by have:=I.ahh hi;have:=I.len;omega));unfold eF;rw[I.pd hi];have:=Nat.mod_lt (n/eP (yT L D S) (i+1)) (show 0<(D.getD (gv L (S.getD i 0)) 0).toNat by omega);omega
omit I in
theorem SN {D ix:J} (h:∀k,k<D.length->(ix.getD k 0).toNat<(D.getD k 0).toNat):∀j,j<=D.length->(g0 D ix j+1)*eP D j<=bY D
 |0,_=>by simp[g0,eP]
 |j+1,hj=>by
  have ih:=SN h j (by omega);have hk:=h j (by omega);rw[EF (by omega),<-Nat.mul_assoc] at ih;refine Nat.le_trans (Nat.mul_le_mul_right _ ?_) ih;simp only[g0];rw[Nat.add_mul,Nat.one_mul];omega
omit I in
theorem acV {D ix:J}:∀j,j<=D.length->g0 D ix j*eP D j=sN (fun k=>(ix.getD k 0).toNat*eP D (k+1)) j
 |0,_=>by simp[g0,sN]
 |j+1,hj=>by
  simp only[g0,sN];rw[<-acV j (by omega),EF (i:=j) (by omega),Nat.add_mul,Nat.mul_assoc]
theorem sP.acW (n:Nat) {k:Nat} (hk:k<D.length):(A7 L D S n).getD k 0=eF (yT L D S) n (gv S (L.getD k 0)):=by
 unfold A7;rw[List.getD_eq_getElem?_getD,vc _ hk];rfl
theorem sP.aqD (n:Nat) {k:Nat} (hk:k<D.length):0<=(A7 L D S n).getD k 0/\(A7 L D S n).getD k 0<D.getD k 0:=by
 rw[I.acW n hk];have bJ:k<L.length:=by have:=I.len;omega
 have h1:=I.alY bJ;have h2:=I.ah8 n h1;rw[(I.inv h1 bJ).2 rfl] at h2;exact h2
theorem sP.off (n:Nat):g0 D (A7 L D S n) D.length=SP L D S n:=by
 have h1:=acV (D:=D) (ix:=A7 L D S n) D.length (Nat.le_refl _);rw[EE,Nat.mul_one] at h1;rw[h1];unfold SP;rw[asJ I.p (gP L D S n),I.len];refine adU _ fun k hk=>?_;rw[I.acW n hk];unfold gP;rw[S6 I.nL (by have:=I.len;omega)]
theorem sP.SR (n:Nat):SP L D S n<bY D:=by
 have:=SN (D:=D) (ix:=A7 L D S n) (fun k hk=>by have:=I.aqD n hk;omega) D.length (Nat.le_refl _);rw[EE,Nat.mul_one,I.off n] at this;omega
end
theorem En {l:J} {b:Int} (h:Mz l b) {i:Nat} (hi:i<l.length):∃a:Nat,l[i]? =some (a:Int)/\(l.getD i 0).toNat=a/\(a:Int)<=b:=by
 have:=h.2 _ (List.getElem_mem hi);refine⟨l[i].toNat,?_,?_,by omega⟩
 ·rw[List.getElem?_eq_getElem hi];congr 1;omega
 ·rw[List.getD_eq_getElem?_getD,List.getElem?_eq_getElem hi];rfl
theorem SM {D ix:J} (h1:ve D 8) (h2:ve ix 8) (he:D.length=ix.length):∀j,j<=D.length->g0 D ix j<=17^j
 |0,_=>by simp[g0]
 |j+1,hj=>by
  have ih:=SM h1 h2 he j (by omega);obtain⟨a,_,a2,a3⟩:=En h1.m (i:=j) (by omega);obtain⟨b,_,b2,b3⟩:=En h2.m (i:=j) (by omega);have hp:17^0<=17^j:=Nat.pow_le_pow_right (by omega) (Nat.zero_le j);rw[Nat.pow_zero] at hp;simp only[g0];rw[a2,b2,Nat.pow_succ];have:=Nat.mul_le_mul ih (show a<=8 by omega);omega
theorem akg (x:J×J) (y:Int) (h:xv x=some y):Ox aL x=some y:=by
 obtain⟨D,ix⟩:=x;simp only[xv] at h;split at h
 ·rename_i hc;rw[<-h];obtain⟨h1,h2,he⟩:=hc;simp only[Ox];have hb:∀j,j<=D.length->g0 D ix j<=582622237229761:=fun j hj=>Nat.le_trans (SM h1 h2 he j hj) (Nat.le_trans (Nat.pow_le_pow_right (by omega) (show j<=12 by have:=h1.1;omega)) (by decide));rw[fk (fun j=>(ix,((g0 D ix j:Nat):Int),D,(D.length:Int),(j:Int))) D.length ?a1 ?a2 ?a3 (dY (by have:=h1.1;omega))]
  case a3=>rfl
  case a2=>
   dsimp only
   rw[bc (eJ (by omega))]
  case a1=>
   intro j hj;obtain⟨a,a1,a2,a3⟩:=En h1.m (i:=j) (by omega);obtain⟨b,b1,b2,b3⟩:=En h2.m (i:=j) (by omega);have FV:=hb j (by omega);have hl:=h1.1;have e:g0 D ix (j+1)=g0 D ix j*a+b:=by simp only[g0];rw[a2,b2]
   have hm:=Nat.mul_le_mul FV (show a<=8 by omega);dsimp only
   rw[aY (dQ (by omega)),dg,dg,a1,b1];simp only[ao];rw[oT (by rw[<-Int.natCast_mul];omega) (by rw[<-Int.natCast_mul];omega),<-Int.natCast_mul,eK (by omega) (by omega),eK (by omega) (by omega),e];rfl
  simp only[bV,Option.bind]
 ·cases h
theorem ajz (x:Rg×T3×Int) (y:J) (h:tN x=some y):NS aL x=some y:=by
 obtain⟨⟨k,p,m⟩,⟨L,D,A⟩,n⟩:=x;simp only[tN,vm] at h;split at h
 ·rename_i hc;rw[<-h];obtain⟨hr,h0,h1,h2⟩:=hc;dsimp only at hr h0 h1 h2;obtain⟨n,rfl⟩:=pR h0;have hw:=pi hr;simp only[Int.toNat_natCast] at h1⊢;have mF:(n+1)*aR (k,p,m)=n*aR (k,p,m)+aR (k,p,m):=by rw[Nat.add_mul,Nat.one_mul]
  have hn:n+1<=1048576:=by have:=Nat.le_mul_of_pos_right (n+1) (show 0<aR (k,p,m) by omega);omega
  simp only[NS,tO,ao];rw[hw.1,eK (by omega) (by omega),show(n:Int)+1=((n+1:Nat):Int) by push_cast;rfl];rw[LR (a:=n) (b:=aR (k,p,m)) (by omega)];rw[LR (a:=n+1) (b:=aR (k,p,m)) (by omega)];rw[show mQ ((n*aR (k,p,m):Nat):Int) (((n+1)*aR (k,p,m):Nat):Int) (aa A)=some (n*aR (k,p,m),aR (k,p,m)) by
   unfold mQ aa;rw[if_pos ⟨by omega,by omega,by omega⟩];congr 2;omega]
  simp only[ao]
 ·cases h
theorem ake (x:Rg×T3×Int) (y:J) (h:vm x=some y):Ou aL x=some y:=by
 obtain⟨⟨k,p,m⟩,⟨L,D,A⟩,n⟩:=x;simp only[vm] at h;split at h
 ·rename_i hc;rw[<-h];obtain⟨hr,h0,h1,h2⟩:=hc;dsimp only at hr h0 h1 h2;obtain⟨n,rfl⟩:=pR h0;have hw:=pi hr;simp only[Int.toNat_natCast] at h1⊢;have mF:(n+1)*aR (k,p,m)=n*aR (k,p,m)+aR (k,p,m):=by rw[Nat.add_mul,Nat.one_mul]
  have hn:n+1<=1048576:=by have:=Nat.le_mul_of_pos_right (n+1) (show 0<aR (k,p,m) by omega);omega
  simp only[Ou,tW,ao];rw[hw.1,LR (a:=n) (b:=aR (k,p,m)) (by omega),eK (by omega) (by omega),show((n*aR (k,p,m):Nat):Int)+((aR (k,p,m):Nat):Int)=(((n+1)*aR (k,p,m):Nat):Int) by rw[mF];push_cast;rfl];rw[show mQ ((n*aR (k,p,m):Nat):Int) (((n+1)*aR (k,p,m):Nat):Int) (aa A)=some (n*aR (k,p,m),aR (k,p,m)) by
   unfold mQ aa;rw[if_pos ⟨by omega,by omega,by omega⟩];congr 2;omega]
  simp only[ao];rw[show bo 0 0 (aa ([]:J))=some () from rfl]
  simp only[ao];have hlen:(f9 A (n*aR (k,p,m)) (aR (k,p,m))).length<=aR (k,p,m):=by unfold f9;rw[List.length_take];omega
  rw[kD (by simp only[aG,aa,List.length_nil,dR];omega)];simp only[ao];rw[agr (by simp[aG,aa,dF])];rfl
 ·cases h
abbrev Bk:=J×J×J×J
def j9 (of:J) (x:Int):Nat->J
 |0=>[]
 |n+1=>if of.getD n 0=x then j9 of x n++[(n:Int)] else j9 of x n
def vals (of:J) (x:Int):J:=j9 of x of.length
def sM:J×Int->Option J:=fun x=>if x.1.length<=1048576 then some (vals x.1 x.2) else none
def xy:J×Int->Option J:=sM
def JJ (V:List J) (ix:J):J:=dq ix.length fun i=>(V.getD i []).getD (ix.getD i 0).toNat 0
def Fb (V:List J) (ix:J):Prop:=ix.length<=12/\∀i,i<ix.length->i<V.length/\0<=ix.getD i 0/\(ix.getD i 0).toNat<(V.getD i []).length
instance (V:List J) (ix:J):Decidable (Fb V ix):=by unfold Fb;infer_instance
def B4:List J×J->Option J:=fun x=>if Fb x.1 x.2 then some (JJ x.1 x.2) else none
def iy (R:List J) (ch:J):List J:=(List.range ch.length).map fun i=>vals (R.getD i []) (ch.getD i 0)
def bD (R:List J) (ch:J):J:=dq ch.length fun i=>((vals (R.getD i []) (ch.getD i 0)).length:Int)
def B8:fb×J->Option (List J×J):=fun x=>if x.2.length<=12/\x.2.length<=x.1.2.length/\∀of∈x.1.2,of.length<=8 then some (iy x.1.2 x.2,bD x.1.2 x.2) else none
def BM:J×J->Option Int:=xv
def ph (R:List J) (ch:J) (n:Nat):J:=JJ (iy R ch) (aK (bD R ch) n)
def eA (D:J) (R:List J) (ch:J) (n:Nat):Nat:=g0 D (ph R ch n) D.length
def mw (R:List J) (ch:J):Prop:=ch.length=R.length/\∀i,i<R.length->ch.getD i 0∈R.getD i []
instance (R:List J) (ch:J):Decidable (mw R ch):=by unfold mw;infer_instance
def O8 (x:T3×fb×Bk):Prop:=jP (x.1,x.2.1)=true/\mw x.2.1.2 x.2.2.1/\x.2.2.2.2.1=bD x.2.1.2 x.2.2.1
instance (x:T3×fb×Bk):Decidable (O8 x):=by unfold O8;infer_instance
def BJ:T3×fb×Bk->Option J:=fun x=>if O8 x then some (dq (bY (bD x.2.1.2 x.2.2.1)) fun n=>(eA x.1.2.1 x.2.1.2 x.2.2.1 n:Int)) else none
def IL:ak:=[(.one,[.list [.int .i64]]),(.one,[.int .i64])]
def TV:ak:=[(.one,[.list [.int .i64]])]
def aok:aM:=[]
def JF:ak:=[(.one,[.list [.int .i64]]),(.one,[.int .i64])]
def UN:ak:=[(.one,[.list [.int .i64]])]
def ao4:aM:=[]
def IE:ak:=[(.one,[.list [.int .i64]]),(.one,[.list [.int .i64]])]
def TO:ak:=[(.one,[.int .i64])]
def aod:aM:=[]
def Jz:ak:=[(.one,[.list [.list [.int .i64]]]),(.one,[.list [.int .i64]])]
def UH:ak:=[(.one,[.list [.int .i64]])]
def aoY:aM:=[]
def JD:ak:=[(.agg,[.int .i64,.list [.list [.int .i64]]]),(.one,[.list [.int .i64]])]
def UL:ak:=[(.one,[.list [.list [.int .i64]]]),(.one,[.list [.int .i64]])]
def ao2:aM:=[]
def Iv:ak:=[(.agg,[.list [.int .i64],.list [.int .i64],.list [.int .i64]]),(.agg,[.int .i64,.list [.list [.int .i64]]]),(.agg,[.list [.int .i64],.list [.int .i64],.list [.int .i64],.list [.int .i64]])]
def TF:ak:=[(.one,[.list [.int .i64]])]
def an5:aM:=[]
def NW (NN:Nat):(J×Int)->(Option J):=
 (fun((l0,i1):(J×Int))=>
 bV ((bo 0 0 (aa (([]:J)))).ae (fun _=>
 ci NN (fun(((i2,l3,i4,i5),l6):((Int×(J×(Int×Int)))×J))=>
 av (bG i5 i4)
 ((cM l3 i5).ae (fun i7=>
 av (dD i7 i2)
 (aA l6 (
 (cX ((i5::([]:J))) 0 1).ae (fun l8=>
 (jR (aG (aa l6) (aa l8)) 8).ae (fun _=>
 (bo 0 (aG (aa l6) (aa l8)) (aa (dF l6 l8))).ae (fun _=>
 some (Sum.inl ((i2,l3,i4,cC .i64 i5 1),dF l6 l8)))))))
 (aA l6 (
 some (Sum.inl ((i2,l3,i4,cC .i64 i5 1),l6))))))
 ((aA l6 (
 some (Sum.inl l6))).ae (fun l9=>
 some (Sum.inr l9))))
 ((i1,l0,aC (aa l0),(0:Int)),([]:J))))
 (fun ed=>
 (dP ed (aa ed)).ae (fun gi=>
 some gi)))
def OI (NN:Nat):(J×Int)->(Option J):=
 (fun((l0,i1):(J×Int))=>
 bV ((bo 0 0 (aa (([]:J)))).ae (fun _=>
 ci NN (fun(((i2,l3,i4,i5),l6):((Int×(J×(Int×Int)))×J))=>
 av (bG i5 i4)
 ((cM l3 i5).ae (fun i7=>
 av (dD i7 i2)
 (aA l6 (
 (cX ((i5::([]:J))) 0 1).ae (fun l8=>
 (jR (aG (aa l6) (aa l8)) 8).ae (fun _=>
 (bo 0 (aG (aa l6) (aa l8)) (aa (dF l6 l8))).ae (fun _=>
 some (Sum.inl ((i2,l3,i4,cC .i64 i5 1),dF l6 l8)))))))
 (aA l6 (
 some (Sum.inl ((i2,l3,i4,cC .i64 i5 1),l6))))))
 ((aA l6 (
 some (Sum.inl l6))).ae (fun l9=>
 some (Sum.inr l9))))
 ((i1,l0,aC (aa l0),(0:Int)),([]:J))))
 (fun ed=>
 (dP ed (aa ed)).ae (fun gi=>
 some gi)))
def NQ (NN:Nat):(J×J)->(Option Int):=
 (fun((l0,l1):(J×J))=>
 bV (ci NN (fun((l2,i3,l4,i5,i6):(J×(Int×(J×(Int×Int)))))=>
 av (bG i6 i5)
 ((cM l4 i6).ae (fun i7=>
 (cM l2 i6).ae (fun i8=>
 some (Sum.inl (l2,cC .i64 (lW .i64 i3 i8) i7,l4,i5,cC .i64 i6 1)))))
 (some (Sum.inr (Sum.inl i3))))
 (l0,(0:Int),l1,aC (aa l1),(0:Int)))
 (fun i9=>
 some i9))
def OB (NN:Nat):((List J)×J)->(Option J):=
 (fun((l0,l1):((List J)×J))=>
 bV ((bo 0 0 (aa (([]:J)))).ae (fun _=>
 ci NN (fun(((l2,l3,i4,i5),l6):(((List J)×(J×(Int×Int)))×J))=>
 av (bG i5 i4)
 ((cM l3 i5).ae (fun i7=>
 (cM l2 i5).ae (fun l8=>
 (cM l8 i7).ae (fun i9=>
 aA l6 (
 (cX ((i9::([]:J))) 0 1).ae (fun ed=>
 (jR (aG (aa l6) (aa ed)) 8).ae (fun _=>
 (bo 0 (aG (aa l6) (aa ed)) (aa (dF l6 ed))).ae (fun _=>
 some (Sum.inl ((l2,l3,i4,cC .i64 i5 1),dF l6 ed))))))))))
 ((aA l6 (
 some (Sum.inl l6))).ae (fun gi=>
 some (Sum.inr gi))))
 ((l0,l1,aC (aa l1),(0:Int)),([]:J))))
 (fun fy=>
 (dP fy (aa fy)).ae (fun iY=>
 some iY)))
def OG (NN:Nat):((Int×(List J))×J)->(Option ((List J)×J)):=
 (fun(((i0,l1),l2):((Int×(List J))×J))=>
 bV ((bo 0 0 (aa (([]:List J)))).ae (fun _=>
 (bo 0 0 (aa (([]:J)))).ae (fun _=>
 ci NN (fun(((l3,i4,i5),(i6,l7),l8,l9):((J×(Int×Int))×((Int×(List J))×((List J)×J))))=>
 av (bG i5 i4)
 ((cM l3 i5).ae (fun jD=>
 (cM l7 i5).ae (fun gi=>
 (xy (gi,jD)).ae (fun fy=>
 (j6 (aa fy) (aa fy)).ae (fun _=>
 (dP fy (aa fy)).ae (fun iY=>
 aA l8 (
 (bo 0 1 (aa ((iY::([]:List J))))).ae (fun _=>
 (jR (aG (aa l8) (aa ((iY::([]:List J))))) 24).ae (fun _=>
 aA l9 (
 (cX ((aC (aa iY)::([]:J))) 0 1).ae (fun f7=>
 (jR (aG (aa l9) (aa f7)) 8).ae (fun _=>
 (bo 0 (aG (aa l8) (aa ((iY::([]:List J))))) (aa (dF l8 ((iY::([]:List J)))))).ae (fun _=>
 (bo 0 (aG (aa l9) (aa f7)) (aa (dF l9 f7))).ae (fun _=>
 some (Sum.inl ((l3,i4,cC .i64 i5 1),(i6,l7),dF l8 ((iY::([]:List J))),dF l9 f7))))))))))))))))
 ((aA l8 (
 aA l9 (
 some (Sum.inl (l8,l9))))).ae (fun e8=>
 some (Sum.inr e8))))
 ((l2,aC (aa l2),(0:Int)),(i0,l1),([]:List J),([]:J)))))
 (fun(iZ,eS)=>
 (dP iZ (aa iZ)).ae (fun f8=>
 (dP eS (aa eS)).ae (fun fj=>
 some (f8,fj)))))
def NH (NN:Nat):((J×(J×J))×((Int×(List J))×(J×(J×(J×J)))))->(Option J):=
 (fun(((l0,l1,l2),(i3,l4),l5,l6,l7,l8):((J×(J×J))×((Int×(List J))×(J×(J×(J×J))))))=>
 (lV (aC (aa l5)) (aC (aa l5)) 24).ae (fun k9=>
 bV ((bo 0 k9 (aa (dC k9 (([]:J))))).ae (fun _=>
 ci NN (fun(((ed,fZ,fH),(iY,f7,e8),(lB,eS),(f8,fj,fI,jX),e9):((J×(Int×Int))×((J×(J×J))×((Int×(List J))×((J×(J×(J×J)))×(List J))))))=>
 av (bG fH fZ)
 ((cM ed fH).ae (fun Ay=>
 (cM eS fH).ae (fun gj=>
 (sM (gj,Ay)).ae (fun fe=>
 (eX fH (aa e9)).ae (fun R6=>
 (cu e9 (aG 0 R6)).ae (fun kK=>
 (dP fe (aa fe)).ae (fun iG=>
 (bo 0 (aa e9) (aa (bS e9 (aG 0 R6) iG))).ae (fun _=>
 some (Sum.inl ((ed,fZ,cC .i64 fH 1),(iY,f7,e8),(lB,eS),(f8,fj,fI,jX),bS e9 (aG 0 R6) iG))))))))))
 ((aA e9 (
 some (Sum.inl ((iY,f7,e8),(f8,fj,fI,jX),e9)))).ae (fun ig=>
 some (Sum.inr ig))))
 ((l5,aC (aa l5),(0:Int)),(l0,l1,l2),(i3,l4),(l5,l6,l7,l8),dC k9 (([]:J)))))
 (fun((jF,kq,kt),(iH,lC,np,jG),nq)=>
 (lV (aC (aa iH)) (aC (aa iH)) 8).ae (fun R7=>
 aA nq (
 (bo 0 0 (aa (([]:J)))).ae (fun _=>
 (bo 0 R7 (aa (dC R7 (0:Int)))).ae (fun _=>
 ci NN (fun(((yB,uS,qO),(n7,tr,yC,pM),lU,ku,kL):((J×(J×J))×((J×(J×(J×J)))×((List J)×(J×J)))))=>
 (lV (aC (aa kL)) (aC (aa kL)) 8).ae (fun DI=>
 bV (aA lU (
 aA ku (
 aA kL (
 (bo 0 DI (aa (dC DI (0:Int)))).ae (fun _=>
 aA kL (
 ci NN (fun(((yr,AB),(sb,wH,AM),(tv,n8,qP,AO),wI,wJ,nt,mL):((Int×Int)×((J×(J×J))×((J×(J×(J×J)))×((List J)×(J×(J×J)))))))=>
 av (bG AB yr)
 ((eX AB (aa nt)).ae (fun k63=>
 (cu nt (aG 0 k63)).ae (fun i64=>
 (eX AB (aa wI)).ae (fun k65=>
 (cu wI (aG 0 k65)).ae (fun wK=>
 (cM wK i64).ae (fun Dy=>
 (eX AB (aa mL)).ae (fun R9=>
 (cu mL (aG 0 R9)).ae (fun i69=>
 aA wI (
 aA wJ (
 aA nt (
 (bo 0 (aa mL) (aa (bS mL (aG 0 R9) Dy))).ae (fun _=>
 aA nt (
 some (Sum.inl ((yr,cC .i64 AB 1),(sb,wH,AM),(tv,n8,qP,AO),wI,wJ,nt,bS mL (aG 0 R9) Dy)))))))))))))))
 ((aA wJ (
 aA mL (
 aA wI (
 aA nt (
 some (Sum.inl ((sb,wH,AM),(tv,n8,qP,AO),wJ,mL,wI,nt))))))).ae (fun pN=>
 some (Sum.inr pN))))
 ((aC (aa kL),(0:Int)),(yB,uS,qO),(n7,tr,yC,pM),lU,ku,kL,dC DI (0:Int))))))))
 (fun((qQ,GR,uU),(wL,Sh,GS,AR),nu,tw,AS,qR)=>
 (cX tw 0 (aa tw)).ae (fun yE=>
 (BM (GR,yE)).ae (fun Le=>
 aA nu (
 (cX ((Le::([]:J))) 0 1).ae (fun n9=>
 (jR (aG (aa nu) (aa n9)) 8).ae (fun _=>
 aA qR (
 (xn (GS,qR)).ae (fun(O0,wM)=>
 av (dN O0)
 (((dP (dF nu n9) (aG (aa nu) (aa n9))).ae (fun Lz=>
 some Lz)).ae (fun AU=>
 some (Sum.inr AU)))
 (aA AS (
 (bo 0 (aG (aa nu) (aa n9)) (aa (dF nu n9))).ae (fun _=>
 (bo 0 (aa qR) (aa wM)).ae (fun _=>
 some (Sum.inl ((qQ,GR,uU),(wL,Sh,GS,AR),AS,dF nu n9,wM))))))))))))))))
 ((jF,kq,kt),(iH,lC,np,jG),nq,([]:J),dC R7 (0:Int)))))))))
theorem UQ (n:Nat):j6 n n=some ():=if_pos rfl
theorem Nd (of:J) (x:Int):∀n,(j9 of x n).length<=n
 |0=>Nat.le_refl 0
 |n+1=>by
  have ih:=Nd of x n;simp only[j9];split
  ·rw[List.length_append,List.length_singleton];omega
  ·omega
theorem Nf (of:J) (x:Int):∀n v,v∈j9 of x n->∃i:Nat,i<n/\v=(i:Int)/\of.getD i 0=x
 |0,v,h=>by cases h
 |n+1,v,h=>by
  simp only[j9] at h;split at h
  ·rename_i e;rcases List.mem_append.1 h with h|h
   ·obtain⟨i,h1,h2⟩:=Nf of x n v h;exact⟨i,by omega,h2⟩
   ·exact⟨n,by omega,List.mem_singleton.1 h,e⟩
  ·obtain⟨i,h1,h2⟩:=Nf of x n v h;exact⟨i,by omega,h2⟩
theorem agL {of:J} {x:Int}:∀{n i:Nat},i<n->of.getD i 0=x->(i:Int)∈j9 of x n
 |n+1,i,h,e=>by
  by_cases hi:i=n
  ·subst hi;simp only[j9,if_pos e];simp
  ·have ih:=agL (of:=of) (x:=x) (show i<n by omega) e;simp only[j9];split
   ·exact List.mem_append_left _ ih
   ·exact ih
theorem agN {of:J} {x:Int} (h:x∈of):0<(vals of x).length:=by
 obtain⟨i,hi,e⟩:=List.mem_iff_getElem.1 h;exact List.length_pos_of_mem (agL (of:=of) (x:=x) hi (by rw[List.getD_eq_getElem?_getD,List.getElem?_eq_getElem hi];exact e))
theorem at5 {of:J} {x:Int} (h:x∉of):vals of x=[]:=by
 rcases hv:vals of x with _|⟨v,l⟩
 ·rfl
 ·exfalso;obtain⟨i,h1,_,h3⟩:=Nf of x of.length v (by show v∈vals of x;rw[hv];simp);apply h;rw[<-h3,List.getD_eq_getElem?_getD,List.getElem?_eq_getElem h1];exact List.getElem_mem h1
theorem Ng (of:J) (x:Int):(vals of x).length<=of.length:=Nd of x of.length
theorem ajB (x:J×Int) (y:J) (h:sM x=some y):NW aL x=some y:=by
 obtain⟨of,x⟩:=x;simp only[sM] at h;split at h
 ·rename_i hl;rw[<-h];simp only[NW,aA];rw[fk (fun k=>((x,of,aC (aa of),(k:Int)),j9 of x k)) (r:=Sum.inl (vals of x)) of.length ?a1 ?a2 ?a3 (dY (by omega))]
  case a3=>rfl
  case a2=>
   dsimp only
   rw[bc (gD of)];simp only[bQ,ao];rfl
  case a1=>
   intro k hk;have hv:=Nd of x k;dsimp only
   rw[aY (dQ (by rw[nl];omega)),dg,getD_some (0:Int) hk];simp only[ao,bQ];rw[eK (by omega) (by omega),show(k:Int)+1=((k+1:Nat):Int) by push_cast;rfl];by_cases e:of.getD k 0=x
   ·rw[aY (rH e),show cX [(k:Int)] 0 1=some [(k:Int)] from rfl]
    simp only[ao];rw[kD (by simp only[aG,aa,List.length_singleton,dR];omega)];simp only[ao,rN];rw[show j9 of x (k+1)=j9 of x k++[(k:Int)] from if_pos e]
    rfl
   ·rw[bc (rG e),show j9 of x (k+1)=j9 of x k from if_neg e]
  simp only[bV,Option.bind,xW,io,ao]
 ·cases h
theorem akq (x:J×Int) (y:J) (h:xy x=some y):OI aL x=some y:=by
 obtain⟨of,x⟩:=x;simp only[xy,sM] at h;split at h
 ·rename_i hl;rw[<-h];simp only[OI,aA];rw[fk (fun k=>((x,of,aC (aa of),(k:Int)),j9 of x k)) (r:=Sum.inl (vals of x)) of.length ?a1 ?a2 ?a3 (dY (by omega))]
  case a3=>rfl
  case a2=>
   dsimp only
   rw[bc (gD of)];simp only[bQ,ao];rfl
  case a1=>
   intro k hk;have hv:=Nd of x k;dsimp only
   rw[aY (dQ (by rw[nl];omega)),dg,getD_some (0:Int) hk];simp only[ao,bQ];rw[eK (by omega) (by omega),show(k:Int)+1=((k+1:Nat):Int) by push_cast;rfl];by_cases e:of.getD k 0=x
   ·rw[aY (rH e),show cX [(k:Int)] 0 1=some [(k:Int)] from rfl]
    simp only[ao];rw[kD (by simp only[aG,aa,List.length_singleton,dR];omega)];simp only[ao,rN];rw[show j9 of x (k+1)=j9 of x k++[(k:Int)] from if_pos e]
    rfl
   ·rw[bc (rG e),show j9 of x (k+1)=j9 of x k from if_neg e]
  simp only[bV,Option.bind,xW,io,ao]
 ·cases h
theorem ajx (x:J×J) (y:Int) (h:BM x=some y):NQ aL x=some y:=by
 obtain⟨D,ix⟩:=x;simp only[BM,xv] at h;split at h
 ·rename_i hc;rw[<-h];obtain⟨h1,h2,he⟩:=hc;simp only[NQ];have hb:∀j,j<=D.length->g0 D ix j<=582622237229761:=fun j hj=>Nat.le_trans (SM h1 h2 he j hj) (Nat.le_trans (Nat.pow_le_pow_right (by omega) (show j<=12 by have:=h1.1;omega)) (by decide));rw[fk (fun j=>(D,((g0 D ix j:Nat):Int),ix,aC (aa ix),(j:Int))) D.length ?a1 ?a2 ?a3 (dY (by have:=h1.1;omega))]
  case a3=>rfl
  case a2=>
   dsimp only
   rw[bc (eJ (by rw[nl];omega))]
  case a1=>
   intro j hj;obtain⟨a,a1,a2,a3⟩:=En h1.m (i:=j) (by omega);obtain⟨b,b1,b2,b3⟩:=En h2.m (i:=j) (by omega);have FV:=hb j (by omega);have hl:=h1.1;have e:g0 D ix (j+1)=g0 D ix j*a+b:=by simp only[g0];rw[a2,b2]
   have hm:=Nat.mul_le_mul FV (show a<=8 by omega);dsimp only
   rw[aY (dQ (by rw[nl];omega)),dg,dg,a1,b1];simp only[ao];rw[oT (by rw[<-Int.natCast_mul];omega) (by rw[<-Int.natCast_mul];omega),<-Int.natCast_mul,eK (by omega) (by omega),eK (by omega) (by omega),e];rfl
  simp only[bV,Option.bind]
 ·cases h
theorem OV {V:List J} {ix:J} (h:Fb V ix) {i:Nat} (hi:i<ix.length):
  cM ix (i:Int)=some (ix.getD i 0)/\cM V (i:Int)=some (V.getD i [])/\cM (V.getD i []) (ix.getD i 0)=some ((V.getD i []).getD (ix.getD i 0).toNat 0):=by
 obtain⟨h1,h2,h3⟩:=h.2 i hi;refine⟨by rw[dg];exact getD_some 0 hi,by rw[dg];exact getD_some [] h1,?_⟩;rw[show ix.getD i 0=(((ix.getD i 0).toNat:Nat):Int) by omega,dg,Int.toNat_natCast];exact getD_some 0 h3
theorem akk (x:List J×J) (y:J) (h:B4 x=some y):OB aL x=some y:=by
 obtain⟨V,ix⟩:=x;simp only[B4] at h;split at h
 ·rename_i hc;rw[<-h];have hl:=hc.1;simp only[OB,aA];rw[fk (fun k=>((V,ix,aC (aa ix),(k:Int)),dq k fun i=>(V.getD i []).getD (ix.getD i 0).toNat 0)) (r:=Sum.inl (JJ V ix)) ix.length ?a1 ?a2 ?a3 (dY (by omega))]
  case a3=>rfl
  case a2=>
   dsimp only
   rw[bc (gD ix)];simp only[bQ,ao];rfl
  case a1=>
   intro k hk;obtain⟨g1,g2,g3⟩:=OV hc hk;dsimp only
   rw[aY (dQ (by rw[nl];omega)),g1,ao,g2,ao,g3,ao,bQ,ao];rw[show cX [(V.getD k []).getD (ix.getD k 0).toNat 0] 0 1=some [(V.getD k []).getD (ix.getD k 0).toNat 0] from rfl,ao]
   rw[kD (by simp only[aG,aa,List.length_singleton,fQ,dR];omega),ao,rN,ao];rw[y4 k fun i=>(V.getD i []).getD (ix.getD i 0).toNat 0,eK (by omega) (by omega)];rfl
  simp only[bV,Option.bind,xW,io,ao]
 ·cases h
theorem ako (x:fb×J) (y:List J×J) (h:B8 x=some y):OG aL x=some y:=by
 obtain⟨⟨m,R⟩,ch⟩:=x;simp only[B8] at h;split at h
 ·rename_i hc;rw[<-h];obtain⟨h1,h2,h3⟩:=hc;simp only[OG,aA];rw[fk (fun k=>((ch,aC (aa ch),(k:Int)),(m,R),(List.range k).map (fun i=>vals (R.getD i []) (ch.getD i 0)),dq k fun i=>((vals (R.getD i []) (ch.getD i 0)).length:Int))) (r:=Sum.inl (iy R ch,bD R ch)) ch.length ?a1 ?a2 ?a3 (dY (by omega))]
  case a3=>rfl
  case a2=>
   dsimp only
   rw[bc (gD ch)];simp only[bQ,ao];rfl
  case a1=>
   intro k hk;have KQ:k<R.length:=by omega
   have hR:=h3 _ (List.mem_of_getElem? (getD_some [] KQ));have hv:=Ng (R.getD k []) (ch.getD k 0);dsimp only
   rw[aY (dQ (by rw[nl];omega)),dg,getD_some (0:Int) hk,ao,dg,getD_some ([]:J) KQ,ao];rw[show xy (R.getD k [],ch.getD k 0)=some (vals (R.getD k []) (ch.getD k 0)) from if_pos (by dsimp only;omega)]
   simp only[ao,UQ,io,bQ];rw[show bo 0 1 (aa [vals (R.getD k []) (ch.getD k 0)])=some () from rfl,ao]
   rw[kD (by simp only[aG,aa,List.length_singleton,List.length_map,List.length_range,dR];omega),ao];rw[show cX [aC (aa (vals (R.getD k []) (ch.getD k 0)))] 0 1=some [aC (aa (vals (R.getD k []) (ch.getD k 0)))] from rfl,ao]
   rw[kD (by simp only[aG,aa,List.length_singleton,fQ,dR];omega),ao,rN,ao,rN,ao];rw[show[aC (aa (vals (R.getD k []) (ch.getD k 0)))]=[((vals (R.getD k []) (ch.getD k 0)).length:Int)] from rfl,y4 k fun i=>((vals (R.getD i []) (ch.getD i 0)).length:Int),eK (by omega) (by omega)]
   rw[show dF ((List.range k).map fun i=>vals (R.getD i []) (ch.getD i 0)) [vals (R.getD k []) (ch.getD k 0)]=(List.range (k+1)).map fun i=>vals (R.getD i []) (ch.getD i 0) by rw[List.range_succ,List.map_append];rfl];rfl
  simp only[bV,Option.bind,xW,io,ao]
 ·cases h
def gL {α:Type} (n:Nat) (f:Nat->α):List α:=(List.range n).map f
theorem tc {α:Type} (n:Nat) (f:Nat->α):(gL n f).length=n:=by simp[gL]
theorem CY {α:Type} {n j:Nat} (f:Nat->α) (h:j<n):(gL n f)[j]? =some (f j):=by simp[gL,List.getElem?_range h]
theorem pA {α:Type} {n:Nat} {f g:Nat->α} (h:∀j,j<n->f j=g j):gL n f=gL n g:=List.map_congr_left fun j hj=>h j (List.mem_range.1 hj)
theorem aky {α:Type} (n:Nat) (x:α):dC n x=gL n (fun _=>x):=by unfold dC gL;rw[List.map_const',List.length_range]
theorem Qp {α:Type} {n j:Nat} (f:Nat->α) (x:α):bS (gL n f) j x=gL n (fun q=>if q=j then x else f q):=by
 unfold bS;apply List.ext_getElem?;intro k;rw[List.getElem?_set];by_cases hk:k<n
 ·by_cases e:j=k
  ·subst e;rw[if_pos rfl,if_pos (by rw[tc];exact hk),CY _ hk,if_pos rfl]
  ·rw[if_neg e,CY _ hk,CY _ hk,if_neg (fun h=>e h.symm)]
 ·rw[List.getElem?_eq_none (l:=gL n fun q=>if q=j then x else f q) (by rw[tc];omega)]
  by_cases e:j=k
  ·subst e;rw[if_pos rfl,if_neg (by rw[tc];exact hk)]
  ·rw[if_neg e,List.getElem?_eq_none (by rw[tc];omega)]
theorem ZC {α:Type} (n:Nat) (f:Nat->α):dF (gL n f) [f n]=gL (n+1) f:=by unfold gL dF;rw[List.range_succ,List.map_append];rfl
theorem akx {α:Type} {n j:Nat} (f:Nat->α) (d:α) (h:j<n):(gL n f).getD j d=f j:=by rw[List.getD_eq_getElem?_getD,CY f h];rfl
theorem xV {α:Type} (n:Nat) (f g:Nat->α):bo 0 (aa (gL n f)) (aa (gL n g))=some ():=xX (by unfold aa;rw[tc,tc])
theorem rA {α:Type} {n j:Nat} (f:Nat->α) (h:j<n):eX (j:Int) (aa (gL n f))=some j:=mz (by unfold aa;rw[tc];exact h)
theorem rO {α:Type} {n j:Nat} (f:Nat->α) (h:j<n):cu (gL n f) j=some (f j):=CY f h
theorem CZ {α:Type} {n k:Nat} (f:Nat->α) (d:α):bS (gL n fun q=>if q<k then f q else d) k (f k)=gL n fun q=>if q<k+1 then f q else d:=by
 rw[Qp];refine pA fun q _=>?_;by_cases e:q=k
 ·rw[if_pos e,if_pos (by omega),e]
 ·rw[if_neg e];by_cases h:q<k
  ·rw[if_pos h,if_pos (by omega)]
  ·rw[if_neg h,if_neg (by omega)]
theorem z6 {α:Type} (n:Nat) (f:Nat->α) (d:α):(gL n fun q=>if q<n then f q else d)=gL n f:=pA fun q hq=>if_pos hq
theorem z7 {α:Type} (n:Nat) (f:Nat->α) (d:α):dC n d=gL n fun q=>if q<0 then f q else d:=by rw[aky];exact pA fun q _=>by rw[if_neg (by omega)]
theorem Ta:∀{A B:J},A.length=B.length->(∀i,i<A.length->(A.getD i 0).toNat<=(B.getD i 0).toNat)->bY A<=bY B
 |[],[],_,_=>Nat.le_refl _
 |a::A,b::B,hl,h=>by
  have h0:=h 0 (by simp);have ih:=Ta (A:=A) (B:=B) (by simpa using hl) fun i hi=>by simpa using h (i+1) (by simp;omega)
  simp only[bY];exact Nat.mul_le_mul (by simpa using h0) ih
structure fT (D:J) (m:Int) (R:List J):Prop where
 m1:1<=m
 LC:m<=12
 fy:D.length<=12
 d8:∀x∈D,1<=x/\x<=8
 g:mC D
 p1:1<=bY D
 p4:bY D<=4096
 rl:R.length=D.length
 row:∀i,i<D.length->((R.getD i []).length:Int)=D.getD i 0
 al:∀i,i<D.length->∀v∈R.getD i [],0<=v/\v<m
theorem CB {L D A:J} {m:Int} {R:List J} (h:jP ((L,D,A),(m,R))=true):fT D m R:=by
 simp only[jP,Bool.and_eq_true,decide_eq_true_eq] at h;obtain⟨h0,⟨fM,gR⟩,hR,hp⟩:=h;by_cases ha:oD L D=true/\eo D<=4096
 ·have hd:=Cj ha.1;have hl:=vB ha.1;have hI:=He (D:=D) fun x hx=>(hd x hx).1;have eR:=A8 (D:=D) fun x hx=>(hd x hx).1;refine⟨fM,gR,by omega,hd,⟨by omega,fun x hx=>by have:=hd x hx;omega⟩,eR,by omega,hR,fun i hi=>(hp i (by omega)).1,fun i hi v hv=>?_⟩;exact adL.1 (hp i (by omega)).2 v hv
 ·have e:fS L D= -1:=if_neg ha;rw[e] at h0;exact absurd h0 (by decide)
section
variable {D:J} {m:Int} {R:List J}
theorem fT.rC (H:fT D m R) {i:Nat} (hi:i<D.length):1<=D.getD i 0/\D.getD i 0<=8:=H.d8 _ (td hi)
theorem aib (R:List J) (ch:J):(bD R ch).length=ch.length:=fQ _ _
theorem XB {ch:J} {i:Nat} (h:i<ch.length):(bD R ch).getD i 0=((vals (R.getD i []) (ch.getD i 0)).length:Int):=by
 rw[List.getD_eq_getElem?_getD,bD,vc _ h];rfl
structure BkF (D:J) (R:List J) (ch:J):Prop where
 cl:ch.length=D.length
 bl:(bD R ch).length=D.length
 b:∀i,i<D.length->1<=(bD R ch).getD i 0/\(bD R ch).getD i 0<=D.getD i 0
 b8:∀x∈bD R ch,1<=x/\x<=8
 g:mC (bD R ch)
 p1:1<=bY (bD R ch)
 pD:bY (bD R ch)<=bY D
theorem fT.blk (H:fT D m R) {ch:J} (hc:mw R ch):BkF D R ch:=by
 obtain⟨h1,h2⟩:=hc;have r7:=H.rl;have hb:∀i,i<D.length->1<=(bD R ch).getD i 0/\(bD R ch).getD i 0<=D.getD i 0:=fun i hi=>by
  rw[XB (by omega)];have a1:=agN (h2 i (by omega));have a2:=Ng (R.getD i []) (ch.getD i 0);have a3:=H.row i hi;omega
 have hl:(bD R ch).length=D.length:=by rw[aib];omega
 have C7:∀x∈bD R ch,1<=x/\x<=8:=fun x hx=>by
  obtain⟨i,hi,rfl⟩:=List.mem_iff_getElem.1 hx;have e:(bD R ch)[i]=(bD R ch).getD i 0:=by rw[List.getD_eq_getElem?_getD,List.getElem?_eq_getElem hi];rfl
  have a1:=hb i (by omega);have a2:=H.rC (i:=i) (by omega);rw[e];omega
 have Ge:=H.fy;exact⟨by omega,hl,hb,C7,⟨by omega,fun x hx=>by have:=C7 x hx;omega⟩,A8 fun x hx=>(C7 x hx).1,Ta hl fun i hi=>by have:=hb i (by omega);omega⟩
theorem agM {ch:J} {i:Nat} (h:i<ch.length):(iy R ch).getD i []=vals (R.getD i []) (ch.getD i 0):=akx _ _ h
theorem fT.at (H:fT D m R) {ch:J} (hc:mw R ch) (n:Nat):Fb (iy R ch) (aK (bD R ch) n):=by
 have B:=H.blk hc;have Ge:=H.fy;have lx:(aK (bD R ch) n).length=D.length:=(fQ _ _).trans B.bl;refine⟨by omega,fun i hi=>?_⟩;have hiD:i<D.length:=by omega
 have cv:=B.cl;obtain⟨d,d1,d2,d3,d4,d5⟩:=Fx B.g (i:=i) (by rw[B.bl];exact hiD);have yb:(aK (bD R ch) n).getD i 0=((n/eP (bD R ch) (i+1)%d:Nat):Int):=by rw[AD (by rw[B.bl];exact hiD)];unfold eF;rw[d3]
 have cj:=Nat.mod_lt (n/eP (bD R ch) (i+1)) (show 0<d by omega);rw[XB (by omega)] at d2;have oQ:(iy R ch).length=ch.length:=tc _ _;rw[yb,Int.toNat_natCast,agM (by omega)];exact⟨by omega,by omega,by omega⟩
theorem fT.whole (H:fT D m R) {ch:J} (hc:mw R ch) (n:Nat):(ph R ch n).length=D.length/\∀k,k<D.length->0<=(ph R ch n).getD k 0/\(ph R ch n).getD k 0<D.getD k 0:=by
 have B:=H.blk hc;have cD:=H.at hc n;have lx:(aK (bD R ch) n).length=D.length:=(fQ _ _).trans B.bl;refine⟨(fQ _ _).trans lx,fun k hk=>?_⟩;obtain⟨h1,h2,h3⟩:=cD.2 k (by omega);have cv:=B.cl;have e:(ph R ch n).getD k 0=((iy R ch).getD k []).getD ((aK (bD R ch) n).getD k 0).toNat 0:=by
  rw[List.getD_eq_getElem?_getD,ph,JJ,vc _ (by omega)];rfl
 rw[agM (by omega)] at h3 e;obtain⟨i,i1,i2,_⟩:=Nf (R.getD k []) (ch.getD k 0) _ _ (td h3);have:=H.row k hk;have i2:(vals (R.getD k []) (ch.getD k 0)).getD ((aK (bD R ch) n).getD k 0).toNat 0=(i:Int):=i2;rw[e,i2];omega
theorem fT.sm8 (H:fT D m R):ve D 8:=⟨H.fy,fun x hx=>by have:=H.d8 x hx;omega⟩
theorem fT.ws8 (H:fT D m R) {ch:J} (hc:mw R ch) (n:Nat):ve (ph R ch n) 8:=by
 obtain⟨h1,h2⟩:=H.whole hc n;refine⟨by rw[h1];exact H.fy,fun x hx=>?_⟩;obtain⟨i,hi,rfl⟩:=List.mem_iff_getElem.1 hx;have e:(ph R ch n)[i]=(ph R ch n).getD i 0:=by rw[List.getD_eq_getElem?_getD,List.getElem?_eq_getElem hi];rfl
 have a1:=h2 i (by omega);have a2:=H.rC (i:=i) (by omega);rw[e];omega
theorem fT.SR (H:fT D m R) {ch:J} (hc:mw R ch) (n:Nat):eA D R ch n<bY D:=by
 obtain⟨h1,h2⟩:=H.whole hc n;have:=SN (D:=D) (ix:=ph R ch n) (fun k hk=>by have:=h2 k hk;omega) D.length (Nat.le_refl _);rw[EE] at this;unfold eA;omega
theorem fT.SQ (H:fT D m R) {ch:J} (hc:mw R ch) (n:Nat):BM (D,ph R ch n)=some ((eA D R ch n:Nat):Int):=if_pos ⟨H.sm8,H.ws8 hc n,(H.whole hc n).1.symm⟩
end
theorem ajo (x:T3×fb×Bk) (y:J) (h:BJ x=some y):NH aL x=some y:=by
 obtain⟨⟨L,D,A⟩,⟨m,R⟩,⟨ch,bl,bd,bA⟩⟩:=x;simp only[BJ] at h;split at h
 ·rename_i hc;rw[<-h];obtain⟨hk,cW,FW⟩:=hc;dsimp only at hk cW FW;subst FW;have H:=CB hk;have B:=H.blk cW;have Ge:=H.fy;have cv:=B.cl;have r7:=H.rl;have hp4:=H.p4;have lP:=B.p1;have Q7:=B.pD;have FY:=B.bl;simp only[NH,aA];rw[pQ (n:=aa ch) (by simp only[aa,dR];omega)];simp only[ao];rw[show bo 0 (aa ch) (aa (dC (aa ch) ([]:J)))=some () by rw[pO];exact bQ _];simp only[ao];rw[fk (fun k=>((ch,aC (aa ch),(k:Int)),(L,D,A),(m,R),(ch,bl,bD R ch,bA),gL ch.length fun q=>if q<k then vals (R.getD q []) (ch.getD q 0) else[])) (r:=Sum.inl ((L,D,A),(ch,bl,bD R ch,bA),iy R ch)) ch.length ?a1 ?a2 ?a3 (dY (by omega))]
  case a3=>rw[z7 (aa ch) (fun q=>vals (R.getD q []) (ch.getD q 0))];rfl
  case a2=>
   dsimp only
   rw[bc (gD ch)];simp only[bQ,ao];rw[z6];rfl
  case a1=>
   intro k hk;have KQ:k<R.length:=by omega
   have hR:=H.row k (by omega);have hd:=H.rC (i:=k) (by omega);dsimp only
   rw[aY (dQ (by rw[nl];omega)),dg,getD_some (0:Int) hk,ao,dg,getD_some ([]:J) KQ,ao];rw[show sM (R.getD k [],ch.getD k 0)=some (vals (R.getD k []) (ch.getD k 0)) from if_pos (by dsimp only;omega),ao,rA _ hk,ao,fU,rO _ hk,ao,io,ao]
   rw[CZ (fun q=>vals (R.getD q []) (ch.getD q 0)),xV,ao,eK (by omega) (by omega)];rfl
  simp only[bV,Option.bind];rw[pQ (n:=aa ch) (by simp only[aa,dR];omega)];simp only[ao,bQ,xW];rw[show bo 0 (aa ch) (aa (dC (aa ch) (0:Int)))=some () by rw[pO];exact bQ _];simp only[ao];obtain⟨P,hP⟩:∃P,bY (bD R ch)=P+1:=⟨bY (bD R ch) - 1,by omega⟩;rw[fk (fun n=>((L,D,A),(ch,bl,bD R ch,bA),iy R ch,dq n (fun n=>(eA D R ch n:Int)),aK (bD R ch) n)) (r:=dq (P+1) fun n=>(eA D R ch n:Int)) P ?b1 ?b2 ?b3 (dY (by omega))]
  case b3=>
   rw[show aa ch=aa (bD R ch) by unfold aa;omega,aaA B.g];rfl
  case b1=>
   intro n hn;have cD:=H.at cW n;have hw:=H.whole cW n;have lx:(aK (bD R ch) n).length=D.length:=(fQ _ _).trans FY;dsimp only
   rw[pQ (n:=aa (aK (bD R ch) n)) (by simp only[aa,dR];omega)];simp only[ao,bQ];rw[show bo 0 (aa (aK (bD R ch) n)) (aa (dC (aa (aK (bD R ch) n)) (0:Int)))=some () by rw[pO];exact bQ _];simp only[ao];rw[fk (fun j=>((aC (aa (aK (bD R ch) n)),(j:Int)),(L,D,A),(ch,bl,bD R ch,bA),iy R ch,dq n (fun n=>(eA D R ch n:Int)),aK (bD R ch) n,gL (aK (bD R ch) n).length fun q=>if q<j then((iy R ch).getD q []).getD ((aK (bD R ch) n).getD q 0).toNat 0 else 0)) (r:=Sum.inl ((L,D,A),(ch,bl,bD R ch,bA),dq n (fun n=>(eA D R ch n:Int)),ph R ch n,iy R ch,aK (bD R ch) n)) (aK (bD R ch) n).length ?c1 ?c2 ?c3 (dY (by omega))]
   case c3=>
    rw[z7 (aa (aK (bD R ch) n)) (fun q=>((iy R ch).getD q []).getD ((aK (bD R ch) n).getD q 0).toNat 0)];rfl
   case c2=>
    dsimp only
    rw[bc (gD _)];rw[z6];rfl
   case c1=>
    intro j hj;obtain⟨g1,g2,g3⟩:=OV cD hj;have hV:=(cD.2 j hj).1;dsimp only
    rw[aY (dQ (by rw[nl];omega)),mz (show j<aa (aK (bD R ch) n) from hj),ao,fU]
    rw[show cu (aK (bD R ch) n) j=some ((aK (bD R ch) n).getD j 0) from getD_some 0 hj,ao,mz (show j<aa (iy R ch) from hV),ao,fU]
    rw[show cu (iy R ch) j=some ((iy R ch).getD j []) from getD_some [] hV,ao,g3,ao,rA _ hj,ao,fU,rO _ hj,ao]
    rw[CZ (fun q=>((iy R ch).getD q []).getD ((aK (bD R ch) n).getD q 0).toNat 0),xV,ao,eK (by omega) (by omega)];rfl
   simp only[kY,ao];rw[H.SQ cW n];simp only[ao];rw[show cX [((eA D R ch n:Nat):Int)] 0 1=some [((eA D R ch n:Nat):Int)] from rfl]
   simp only[ao];rw[kD (by simp only[aG,aa,List.length_singleton,fQ,dR];omega)];simp only[ao];rw[DR B.g (by omega) (by omega),hP];simp only[ao];rw[y4 n fun n=>((eA D R ch n:Nat):Int)];rw[show decide (n+1<P+1)=true from decide_eq_true (by omega)]
   rw[bc (by rfl)];rw[show bo 0 (aG (aa (dq n fun n=>((eA D R ch n:Nat):Int))) (aa [((eA D R ch n:Nat):Int)])) (aa (dq (n+1) fun n=>((eA D R ch n:Nat):Int)))=some () from xX (by simp only[aG,aa,List.length_singleton,fQ])]
   rw[show bo 0 (aa (aK (bD R ch) n)) (aa (aK (bD R ch) (n+1)))=some () from xX ((fQ _ _).trans (fQ _ _).symm)]
   rfl
  case b2=>
   have cD:=H.at cW P;have hw:=H.whole cW P;have lx:(aK (bD R ch) P).length=D.length:=(fQ _ _).trans FY;dsimp only
   rw[pQ (n:=aa (aK (bD R ch) P)) (by simp only[aa,dR];omega)];simp only[ao,bQ];rw[show bo 0 (aa (aK (bD R ch) P)) (aa (dC (aa (aK (bD R ch) P)) (0:Int)))=some () by rw[pO];exact bQ _];simp only[ao];rw[fk (fun j=>((aC (aa (aK (bD R ch) P)),(j:Int)),(L,D,A),(ch,bl,bD R ch,bA),iy R ch,dq P (fun n=>(eA D R ch n:Int)),aK (bD R ch) P,gL (aK (bD R ch) P).length fun q=>if q<j then((iy R ch).getD q []).getD ((aK (bD R ch) P).getD q 0).toNat 0 else 0)) (r:=Sum.inl ((L,D,A),(ch,bl,bD R ch,bA),dq P (fun n=>(eA D R ch n:Int)),ph R ch P,iy R ch,aK (bD R ch) P)) (aK (bD R ch) P).length ?c1 ?c2 ?c3 (dY (by omega))]
   case c3=>
    rw[z7 (aa (aK (bD R ch) P)) (fun q=>((iy R ch).getD q []).getD ((aK (bD R ch) P).getD q 0).toNat 0)];rfl
   case c2=>
    dsimp only
    rw[bc (gD _)];rw[z6];rfl
   case c1=>
    intro j hj;obtain⟨g1,g2,g3⟩:=OV cD hj;have hV:=(cD.2 j hj).1;dsimp only
    rw[aY (dQ (by rw[nl];omega)),mz (show j<aa (aK (bD R ch) P) from hj),ao,fU]
    rw[show cu (aK (bD R ch) P) j=some ((aK (bD R ch) P).getD j 0) from getD_some 0 hj,ao,mz (show j<aa (iy R ch) from hV),ao,fU]
    rw[show cu (iy R ch) j=some ((iy R ch).getD j []) from getD_some [] hV,ao,g3,ao,rA _ hj,ao,fU,rO _ hj,ao]
    rw[CZ (fun q=>((iy R ch).getD q []).getD ((aK (bD R ch) P).getD q 0).toNat 0),xV,ao,eK (by omega) (by omega)];rfl
   simp only[kY,ao];rw[H.SQ cW P];simp only[ao];rw[show cX [((eA D R ch P:Nat):Int)] 0 1=some [((eA D R ch P:Nat):Int)] from rfl]
   simp only[ao];rw[kD (by simp only[aG,aa,List.length_singleton,fQ,dR];omega)];simp only[ao];rw[DR B.g (by omega) (by omega),hP];simp only[ao];rw[y4 P fun n=>((eA D R ch n:Nat):Int)];rw[show decide (P+1<P+1)=false from decide_eq_false (by omega)]
   rw[aY (by rfl)];rw[show dP (dq (P+1) fun n=>((eA D R ch n:Nat):Int)) (aG (aa (dq P fun n=>((eA D R ch n:Nat):Int))) (aa [((eA D R ch P:Nat):Int)]))=some (dq (P+1) fun n=>((eA D R ch n:Nat):Int)) by
    rw[show aG (aa (dq P fun n=>((eA D R ch n:Nat):Int))) (aa [((eA D R ch P:Nat):Int)])=aa (dq (P+1) fun n=>((eA D R ch n:Nat):Int)) by simp only[aG,aa,List.length_singleton,fQ]];exact io _]
   simp only[ao]
  rw[hP]
 ·cases h
def j5 (of:J):Nat->J
 |0=>[]
 |n+1=>if(n:Int)∈of then j5 of n++[(n:Int)] else j5 of n
def dc (m:Int) (of:J):J:=j5 of m.toNat
def dk (m:Int) (R:List J):List J:=R.foldl (fun K of=>K.flatMap fun l=>(dc m of).map fun x=>l++[x]) [[]]
def ot (l:J):Int:=sm l.length fun i=>l.getD i 0
def sn (m:Int) (l:J):Bool:=decide (ot l%m=0)
def cP (m:Int) (R:List J):List J:=(dk m R).filter (sn m)
def nv (R:List J):J:=R.map fun l=>(l.length:Int)
def Ff (c:fb):Prop:=(1<=c.1/\c.1<=12)/\c.2.length<=12/\(∀l∈c.2,(1<=l.length/\l.length<=8)/\∀v∈l,0<=v/\v<c.1)/\bY (nv c.2)<=4096
instance (c:fb):Decidable (Ff c):=by unfold Ff;infer_instance
def B7:fb->Option (List J):=fun c=>if Ff c then some (cP c.1 c.2) else none
def nw (L:J) (R:List J) (ch:J):Bk:=(ch,L,bD R ch,[])
def BH:T3×fb->Option (List Bk):=fun x=>if jP x=true then some ((cP x.2.1 x.2.2).map (nw x.1.1 x.2.2)) else none
def bh (m:Int) (R:List J):J:=R.map fun of=>((dc m of).length:Int)
def dO (m:Int) (R:List J) (ix:J):J:=dq R.length fun i=>(dc m (R.getD i [])).getD (ix.getD i 0).toNat 0
def JC:ak:=[(.agg,[.int .i64,.list [.list [.int .i64]]])]
def UK:ak:=[(.one,[.list [.list [.int .i64]]])]
def ao1:aM:=[[some .aI]]
def Iu:ak:=[(.agg,[.list [.int .i64],.list [.int .i64],.list [.int .i64]]),(.agg,[.int .i64,.list [.list [.int .i64]]])]
def TE:ak:=[(.one,[.list [.list [.int .i64],.list [.int .i64],.list [.int .i64],.list [.int .i64]]])]
def an4:aM:=[[some .aI,some .aI,some .aI,some .aI]]
def OE (NN:Nat):(Int×(List J))->(Option (List J)):=
 (fun((i0,l1):(Int×(List J)))=>
 (dP (([]:J)) 0).ae (fun l2=>
 bV ((bo 0 1 (aa ((l2::([]:List J))))).ae (fun _=>
 ci NN (fun(((l3,i4,i5),(i6,l7),l8):(((List J)×(Int×Int))×((Int×(List J))×(List J))))=>
 av (bG i5 i4)
 (bV ((cM l3 i5).ae (fun l9=>
 bV ((bo 0 0 (aa (([]:List J)))).ae (fun _=>
 aA l8 (
 ci NN (fun(((ed,gi,fH,f0,gB,lT),(lB,eS),f8,fj):((J×((List J)×(Int×(Int×(Int×Int)))))×((Int×(List J))×((List J)×(List J)))))=>
 av (bG lT gB)
 (bV ((eX lT (aa fj)).ae (fun qN=>
 (cu fj (aG 0 qN)).ae (fun jX=>
 aA f8 (
 aA fj (
 ci NN (fun(((e9,ja,yq,fe,Az,mJ,AA,wG),(Du,kq),kt,iH):((J×(J×(Int×((List J)×(Int×(Int×(Int×Int)))))))×((Int×(List J))×((List J)×(List J)))))=>
 av (bG yq Du)
 ((xy (e9,yq)).ae (fun lC=>
 av (bG (0:Int) (aC (aa lC)))
 ((nC ja).ae (fun np=>
 aA np (
 (cX ((yq::([]:J))) 0 1).ae (fun jG=>
 (jR (aG (aa np) (aa jG)) 8).ae (fun _=>
 (dP (dF np jG) (aG (aa np) (aa jG))).ae (fun nq=>
 aA kt (
 (bo 0 1 (aa ((nq::([]:List J))))).ae (fun _=>
 (jR (aG (aa kt) (aa ((nq::([]:List J))))) 24).ae (fun _=>
 (bo 0 (aG (aa kt) (aa ((nq::([]:List J))))) (aa (dF kt ((nq::([]:List J)))))).ae (fun _=>
 aA iH (
 some (Sum.inl ((e9,ja,cC .i64 yq 1,fe,Az,mJ,AA,wG),(Du,kq),dF kt ((nq::([]:List J))),iH)))))))))))))
 (aA kt (
 aA iH (
 some (Sum.inl ((e9,ja,cC .i64 yq 1,fe,Az,mJ,AA,wG),(Du,kq),kt,iH)))))))
 ((aA kt (
 aA iH (
 some (Sum.inl ((wG,e9,fe,Az,mJ,AA),(Du,kq),kt,iH))))).ae (fun tq=>
 some (Sum.inr tq))))
 ((ed,jX,(0:Int),gi,fH,f0,gB,lT),(lB,eS),f8,fj))))))
 (fun((RB,uS,qO,i42,Gt,Dw),(Dx,lU),ku,kL)=>
 aA ku (
 aA kL (
 some (Sum.inl ((uS,qO,i42,Gt,Dw,cC .i64 RB 1),(Dx,lU),ku,kL))))))
 ((aA f8 (
 some (Sum.inl ((f0,gi,fH),(lB,eS),f8)))).ae (fun tt=>
 some (Sum.inr tt))))
 ((l9,l3,i4,i5,aC (aa l8),(0:Int)),(i6,l7),([]:List J),l8))))
 (fun((yr,tu,i52),(i53,AM),tv)=>
 aA tv (
 some (Sum.inl ((yr,tu,i52),(i53,AM),tv))))))
 (fun((Gu,qP,i58),(Gv,wJ),nt)=>
 aA nt (
 some (Sum.inl ((qP,i58,cC .i64 Gu 1),(Gv,wJ),nt)))))
 ((aA l8 (
 some (Sum.inl ((i6,l7),l8)))).ae (fun mL=>
 some (Sum.inr mL))))
 ((l1,aC (aa l1),(0:Int)),(i0,l1),(l2::([]:List J)))))
 (fun((i63,GQ),uT)=>
 bV ((bo 0 0 (aa (([]:List J)))).ae (fun _=>
 aA uT (
 ci NN (fun(((i66,Dy),(Dz,AQ),pN,qQ):((Int×Int)×((Int×(List J))×((List J)×(List J)))))=>
 av (bG Dy i66)
 (bV ((eX Dy (aa qQ)).ae (fun GL=>
 (cu qQ (aG 0 GL)).ae (fun uU=>
 bV (aA pN (
 aA qQ (
 ci NN (fun(((wL,DA,DB,i77,nu,i79,Gw),(i81,yE),yF,n9):((J×(Int×(Int×(Int×(J×(Int×Int))))))×((Int×(List J))×((List J)×(List J)))))=>
 av (bG Gw i79)
 ((cM nu Gw).ae (fun i85=>
 aA yF (
 aA n9 (
 some (Sum.inl ((wL,cC .i64 DA i85,DB,i77,nu,i79,cC .i64 Gw 1),(i81,yE),yF,n9))))))
 ((aA yF (
 aA n9 (
 some (Sum.inl ((DA,wL,i77,DB),(i81,yE),yF,n9))))).ae (fun wM=>
 some (Sum.inr wM))))
 ((uU,(0:Int),i66,Dy,uU,aC (aa uU),(0:Int)),(Dz,AQ),pN,qQ))))
 (fun((Lf,AU,i89,i90),(RH,AV),oR,sd)=>
 (mO Lf RH).ae (fun i95=>
 av (dD i95 (0:Int))
 (aA oR (
 (bo 0 1 (aa ((AU::([]:List J))))).ae (fun _=>
 (jR (aG (aa oR) (aa ((AU::([]:List J))))) 24).ae (fun _=>
 (bo 0 (aG (aa oR) (aa ((AU::([]:List J))))) (aa (dF oR ((AU::([]:List J)))))).ae (fun _=>
 aA sd (
 some (Sum.inl ((i89,i90),(RH,AV),dF oR ((AU::([]:List J))),sd))))))))
 (aA oR (
 aA sd (
 some (Sum.inl ((i89,i90),(RH,AV),oR,sd))))))))))
 (fun((RJ,i97),(i98,Si),aaR,Ll)=>
 aA aaR (
 aA Ll (
 some (Sum.inl ((i97,cC .i64 RJ 1),(i98,Si),aaR,Ll))))))
 ((aA pN (
 some (Sum.inl pN))).ae (fun ank=>
 some (Sum.inr ank))))
 ((aC (aa uT),(0:Int)),(i63,GQ),([]:List J),uT))))
 (fun aaS=>
 (cX aaS 0 (aa aaS)).ae (fun anl=>
 some anl)))))
def NG (NN:Nat):((J×(J×J))×(Int×(List J)))->(Option (List (J×(J×(J×J))))):=
 (fun(((l0,l1,l2),i3,l4):((J×(J×J))×(Int×(List J))))=>
 (lV (aC (aa l4)) (aC (aa l4)) 24).ae (fun k5=>
 (lV (aC (aa l4)) (aC (aa l4)) 8).ae (fun k6=>
 bV ((bo 0 k5 (aa (dC k5 (([]:J))))).ae (fun _=>
 (bo 0 k6 (aa (dC k6 (0:Int)))).ae (fun _=>
 ci NN (fun(((l7,i8,i9),(ed,gi,fy),(f0,f7),e8,iZ):(((List J)×(Int×Int))×((J×(J×J))×((Int×(List J))×((List J)×J)))))=>
 av (bG i9 i8)
 (bV ((cM l7 i9).ae (fun eS=>
 bV (aA e8 (
 aA iZ (
 ci NN (fun(((n6,fj,qI,jX,Rw,Ay),(gj,fe,fJ),(mJ,iG),ig,jF):((Int×(J×(Int×((List J)×(Int×Int)))))×((J×(J×J))×((Int×(List J))×((List J)×J)))))=>
 av (bG qI mJ)
 ((vk (fj,qI)).ae (fun b31=>
 av (b31)
 ((eX n6 (aa ig)).ae (fun k32=>
 (cu ig (aG 0 k32)).ae (fun iH=>
 (eX n6 (aa ig)).ae (fun Lk=>
 (j6 (aG 0 k32) (aG 0 Lk)).ae (fun _=>
 (cu ig (aG 0 Lk)).ae (fun np=>
 (cX ((qI::([]:J))) 0 1).ae (fun jG=>
 (jR (aG (aa np) (aa jG)) 8).ae (fun _=>
 (bo 0 (aa ig) (aa (bS ig (aG 0 Lk) (dF np jG)))).ae (fun _=>
 aA jF (
 some (Sum.inl ((n6,fj,cC .i64 qI 1,jX,Rw,Ay),(gj,fe,fJ),(mJ,iG),bS ig (aG 0 Lk) (dF np jG),jF))))))))))))
 (aA ig (
 aA jF (
 some (Sum.inl ((n6,fj,cC .i64 qI 1,jX,Rw,Ay),(gj,fe,fJ),(mJ,iG),ig,jF)))))))
 ((aA ig (
 aA jF (
 some (Sum.inl ((n6,Ay,jX,Rw),(gj,fe,fJ),(mJ,iG),ig,jF))))).ae (fun nq=>
 some (Sum.inr nq))))
 ((i9,eS,(0:Int),l7,i8,i9),(ed,gi,fy),(f0,f7),e8,iZ))))
 (fun((i38,RB,uS,i41),(n7,tr,yC),(Dx,lU),ku,kL)=>
 (eX i38 (aa ku)).ae (fun DI=>
 (cu ku (aG 0 DI)).ae (fun l50=>
 (cu ku (aG 0 DI)).ae (fun tu=>
 (eX i38 (aa kL)).ae (fun R8=>
 (cu kL (aG 0 R8)).ae (fun i53=>
 aA ku (
 (bo 0 (aa kL) (aa (bS kL (aG 0 R8) (aC (aa tu))))).ae (fun _=>
 some (Sum.inl ((RB,uS,i41),(n7,tr,yC),(Dx,lU),ku,bS kL (aG 0 R8) (aC (aa tu))))))))))))))
 (fun((Lc,tv,Gu),(qP,AO,wI),(RG,nt),mL,yD)=>
 aA mL (
 aA yD (
 some (Sum.inl ((tv,Gu,cC .i64 Lc 1),(qP,AO,wI),(RG,nt),mL,yD))))))
 ((aA e8 (
 aA iZ (
 some (Sum.inl ((ed,gi,fy),(f0,f7),e8,iZ))))).ae (fun GQ=>
 some (Sum.inr GQ))))
 ((l4,aC (aa l4),(0:Int)),(l0,l1,l2),(i3,l4),dC k5 (([]:J)),dC k6 (0:Int)))))
 (fun((uT,wK,AP),(Dz,AQ),pN,qQ)=>
 (lV (aC (aa qQ)) (aC (aa qQ)) 8).ae (fun GL=>
 aA pN (
 aA qQ (
 (bo 0 0 (aa (([]:List (J×(J×(J×J))))))).ae (fun _=>
 (bo 0 GL (aa (dC GL (0:Int)))).ae (fun _=>
 ci NN (fun(((uU,wL,Sh),(DB,AR),nu,tw,AS,qR):((J×(J×J))×((Int×(List J))×((List J)×(J×((List (J×(J×(J×J))))×J))))))=>
 (lV (aC (aa tw)) (aC (aa tw)) 8).ae (fun Sa=>
 bV (aA nu (
 aA tw (
 aA AS (
 aA qR (
 (bo 0 Sa (aa (dC Sa (0:Int)))).ae (fun _=>
 aA qR (
 ci NN (fun(((Le,Gx),(Ly,wM,Lz),(i88,l89),yG,LA,AV,oR,sd):((Int×Int)×((J×(J×J))×((Int×(List J))×((List J)×(J×((List (J×(J×(J×J))))×(J×J))))))))=>
 av (bG Gx Le)
 ((eX Gx (aa oR)).ae (fun k95=>
 (cu oR (aG 0 k95)).ae (fun RJ=>
 (eX Gx (aa yG)).ae (fun Sb=>
 (cu yG (aG 0 Sb)).ae (fun l98=>
 (cu yG (aG 0 Sb)).ae (fun Si=>
 (eX RJ (aa Si)).ae (fun alZ=>
 (cu yG (aG 0 Sb)).ae (fun Ll=>
 (cu Ll alZ).ae (fun aax=>
 (eX Gx (aa sd)).ae (fun RZ=>
 (cu sd (aG 0 RZ)).ae (fun auB=>
 aA yG (
 aA LA (
 aA AV (
 aA oR (
 (bo 0 (aa sd) (aa (bS sd (aG 0 RZ) aax))).ae (fun _=>
 aA oR (
 some (Sum.inl ((Le,cC .i64 Gx 1),(Ly,wM,Lz),(i88,l89),yG,LA,AV,oR,bS sd (aG 0 RZ) aax)))))))))))))))))))
 ((aA sd (
 aA yG (
 aA LA (
 aA AV (
 aA oR (
 some (Sum.inl ((Ly,wM,Lz),(i88,l89),sd,yG,LA,AV,oR)))))))).ae (fun anm=>
 some (Sum.inr anm))))
 ((aC (aa qR),(0:Int)),(uU,wL,Sh),(DB,AR),nu,tw,AS,qR,dC Sa (0:Int)))))))))
 (fun((Sd,aaT,aaU),(Rv,aaV),DK,Lm,Ln,Lo,Lp)=>
 (cX DK 0 (aa DK)).ae (fun ann=>
 (tP ann).ae (fun alE=>
 (mO alE Rv).ae (fun alF=>
 bV (av (dD alF (0:Int))
 ((zq Sd).ae (fun aaW=>
 bV (aA Lm (
 aA Ln (
 aA Lo (
 aA Lp (
 aA DK (
 aA DK (
 aA aaW (
 (bo 0 0 (aa (([]:J)))).ae (fun _=>
 ci NN (fun(((aay,Lb),(aaX,aaY,aaZ),(aaz,Se),AK,Lq,AL,Lr,Ls,Lt,Lu):((Int×Int)×((J×(J×J))×((Int×(List J))×(J×(J×(J×((List J)×(J×((List (J×(J×(J×J))))×J))))))))))=>
 av (bG Lb aay)
 ((eX Lb (aa AK)).ae (fun al0=>
 (cu AK (aG 0 al0)).ae (fun alG=>
 (cM Se Lb).ae (fun ano=>
 (sM (ano,alG)).ae (fun anp=>
 aA AL (
 (cX ((aC (aa anp)::([]:J))) 0 1).ae (fun Lv=>
 (jR (aG (aa AL) (aa Lv)) 8).ae (fun _=>
 aA Lr (
 aA Ls (
 aA Lt (
 aA Lu (
 aA AK (
 aA AK (
 aA Lq (
 (bo 0 (aG (aa AL) (aa Lv)) (aa (dF AL Lv))).ae (fun _=>
 some (Sum.inl ((aay,cC .i64 Lb 1),(aaX,aaY,aaZ),(aaz,Se),AK,Lq,dF AL Lv,Lr,Ls,Lt,Lu))))))))))))))))))
 ((aA Lt (
 aA Lr (
 aA Ls (
 aA Lu (
 aA AK (
 aA Lq (
 aA AL (
 some (Sum.inl ((aaX,aaY,aaZ),(aaz,Se),AK,Lq,AL,Lt,Lr,Ls,Lu)))))))))).ae (fun anq=>
 some (Sum.inr anq))))
 ((aC (aa DK),(0:Int)),(Sd,aaT,aaU),(Rv,aaV),DK,aaW,([]:J),Lm,Ln,Lo,Lp))))))))))
 (fun((anr,ans,ant),(alH,anu),aa0,aa1,aa2,GM,aa3,aa4,aa5)=>
 (dP aa0 (aa aa0)).ae (fun GN=>
 (dP aa1 (aa aa1)).ae (fun GO=>
 (dP aa2 (aa aa2)).ae (fun GP=>
 aA GM (
 (bo 0 1 (aa (((GN,GO,GP,([]:J))::([]:List (J×(J×(J×J)))))))).ae (fun _=>
 (jR (aG (aa GM) (aa (((GN,GO,GP,([]:J))::([]:List (J×(J×(J×J)))))))) 96).ae (fun _=>
 aA aa3 (
 aA aa4 (
 (bo 0 (aG (aa GM) (aa (((GN,GO,GP,([]:J))::([]:List (J×(J×(J×J)))))))) (aa (dF GM (((GN,GO,GP,([]:J))::([]:List (J×(J×(J×J))))))))).ae (fun _=>
 aA aa5 (
 some (Sum.inl ((anr,ans,ant),(alH,anu),aa3,aa4,dF GM (((GN,GO,GP,([]:J))::([]:List (J×(J×(J×J)))))),aa5)))))))))))))))
 (aA Lm (
 aA Ln (
 aA Lo (
 aA Lp (
 some (Sum.inl ((Sd,aaT,aaU),(Rv,aaV),Lm,Ln,Lo,Lp))))))))
 (fun((anv,anw,anx),(alI,anz),aa6,Lw,Lx,Sf)=>
 (cX Lw 0 (aa Lw)).ae (fun anA=>
 aA Sf (
 (xn (anA,Sf)).ae (fun(ahk,aa7)=>
 av (dN ahk)
 (((dP Lx (aa Lx)).ae (fun anB=>
 some anB)).ae (fun anC=>
 some (Sum.inr anC)))
 (aA aa6 (
 aA Lw (
 aA Lx (
 (bo 0 (aa Sf) (aa aa7)).ae (fun _=>
 some (Sum.inl ((anv,anw,anx),(alI,anz),aa6,Lw,Lx,aa7)))))))))))))))))
 ((uT,wK,AP),(Dz,AQ),pN,qQ,([]:List (J×(J×(J×J)))),dC GL (0:Int)))))))))))
theorem S9 (of:J) (x:Int):∀n,x∈j5 of n↔∃i:Nat,i<n/\x=(i:Int)/\x∈of
 |0=>by simp[j5]
 |n+1=>by
  have ih:=S9 of x n;simp only[j5];constructor
  ·intro h;split at h
   ·rename_i hm;rcases List.mem_append.1 h with h|h
    ·obtain⟨i,h1,h2⟩:=ih.1 h;exact⟨i,by omega,h2⟩
    ·have:=List.mem_singleton.1 h;exact⟨n,by omega,this,by rw[this];exact hm⟩
   ·obtain⟨i,h1,h2⟩:=ih.1 h;exact⟨i,by omega,h2⟩
  ·rintro⟨i,h1,h2,h3⟩;by_cases e:i=n
   ·subst e;rw[if_pos (by rw[<-h2];exact h3),h2];simp
   ·have:=ih.2 ⟨i,by omega,h2,h3⟩;split
    ·exact List.mem_append_left _ this
    ·exact this
theorem Xj (n:Int):∀l:J,l.countP (fun v=>decide (v<n))+(if n∈l then 1 else 0)<=l.countP (fun v=>decide (v<n+1))
 |[]=>by simp
 |v::l=>by
  have ih:=Xj n l;have mono:l.countP (fun v=>decide (v<n))<=l.countP (fun v=>decide (v<n+1)):=by
   have:0<=(if n∈l then 1 else 0):=Nat.zero_le _
   omega
  simp only[List.countP_cons,List.mem_cons,decide_eq_true_eq];by_cases h1:n=v
  ·subst h1;rw[if_neg (show¬n<n by omega),if_pos (show n=n\/n∈l from .inl rfl),if_pos (show n<n+1 by omega)]
   omega
  ·by_cases h2:n∈l
   ·rw[if_pos h2] at ih;rw[if_pos (show n=v\/n∈l from .inr h2)]
    by_cases h3:v<n
    ·rw[if_pos h3,if_pos (show v<n+1 by omega)];omega
    ·rw[if_neg h3];omega
   ·rw[if_neg (show¬(n=v\/n∈l) from fun h=>h.elim h1 h2)]
    by_cases h3:v<n
    ·rw[if_pos h3,if_pos (show v<n+1 by omega)];omega
    ·rw[if_neg h3];omega
theorem S8 (of:J):∀n,(j5 of n).length<=of.countP (fun v=>decide (v<(n:Int)))
 |0=>Nat.zero_le _
 |n+1=>by
  have ih:=S8 of n;have st:=Xj (n:Int) of;simp only[j5];split
  ·rename_i h;rw[if_pos h] at st;rw[List.length_append,List.length_singleton];push_cast;omega
  ·rename_i h;rw[if_neg h] at st;push_cast;omega
theorem S7 (m:Int) (of:J):(dc m of).length<=of.length:=Nat.le_trans (S8 of m.toNat) List.countP_le_length
theorem arW {m:Int} {of:J} {x:Int} (h:x∈dc m of):x∈of:=by obtain⟨_,_,_,h⟩:=(S9 of x _).1 h;exact h
theorem arX {m:Int} {of:J} (h1:of≠[]) (h2:∀v∈of,0<=v/\v<m):0<(dc m of).length:=by
 rcases of with _|⟨v,l⟩
 ·exact absurd rfl h1
 ·have:=h2 v (by simp);exact List.length_pos_of_mem ((S9 (v::l) v _).2 ⟨v.toNat,by omega,by omega,by simp⟩)
theorem Hf:∀(A:J) (q:Int),bY (A++[q])=bY A*q.toNat
 |[],q=>by simp[bY]
 |a::A,q=>by
  have:=Hf A q;simp only[List.cons_append,bY,this,Nat.mul_assoc]
theorem aia {P:J} {q:Int} {n i:Nat} (h:i<P.length):eF (P++[q]) n i=eF P (n/q.toNat) i:=by
 unfold eF eP;rw[List.drop_append_of_le_length (by omega),Hf,Nat.mul_comm,<-Nat.div_div_eq_div_mul];rw[show(P++[q]).getD i 0=P.getD i 0 by rw[List.getD_eq_getElem?_getD,List.getElem?_append_left h,<-List.getD_eq_getElem?_getD]]
theorem ah7 (P:J) (q:Int) (n:Nat):eF (P++[q]) n P.length=((n%q.toNat:Nat):Int):=by
 unfold eF eP;rw[show(P++[q]).drop (P.length+1)=[] from List.drop_eq_nil_of_le (by simp),show bY []=1 from rfl,Nat.div_one]
 rw[show(P++[q]).getD P.length 0=q by rw[List.getD_eq_getElem?_getD,List.getElem?_append_right (Nat.le_refl _),Nat.sub_self];rfl]
theorem ZD {α:Type} (q:Nat) (f:Nat->α):∀a,gL (a*q) f=(gL a fun x=>gL q fun y=>f (x*q+y)).flatten
 |0=>by simp[gL]
 |a+1=>by
  have ih:=ZD q f a;have e:gL (a+1) (fun x=>gL q fun y=>f (x*q+y))=gL a (fun x=>gL q fun y=>f (x*q+y))++[gL q fun y=>f (a*q+y)]:=by unfold gL;rw[List.range_succ,List.map_append];rfl
  rw[e,List.flatten_append,<-ih,Nat.add_mul,Nat.one_mul];unfold gL;rw[List.range_add,List.map_append,List.map_map];simp only[List.flatten_cons,List.flatten_nil,List.append_nil];rfl
theorem KA {α β:Type} (g:α->β) (l:List α) (d:α):gL l.length (fun i=>g (l.getD i d))=l.map g:=by
 apply List.ext_getElem?;intro i;by_cases h:i<l.length
 ·rw[CY _ h,List.getElem?_map,getD_some d h];rfl
 ·rw[List.getElem?_eq_none (by rw[tc];omega),List.getElem?_eq_none (by rw[List.length_map];omega)]
theorem JG (m:Int) (R:List J) (of:J):dk m (R++[of])=(dk m R).flatMap fun l=>(dc m of).map fun x=>l++[x]:=by
 unfold dk;rw[List.foldl_append];rfl
theorem arP {m:Int} {R:List J} {of:J} {x y:Nat} (h:y<(dc m of).length):
  dO m (R++[of]) (aK (bh m (R++[of])) (x*(dc m of).length+y))=dO m R (aK (bh m R) x)++[(dc m of).getD y 0]:=by
 have r5:bh m (R++[of])=bh m R++[((dc m of).length:Int)]:=by simp[bh]
 have hl:(bh m R).length=R.length:=by simp[bh]
 have hq:(x*(dc m of).length+y)/(dc m of).length=x:=by
  rw[Nat.add_comm,Nat.add_mul_div_right _ _ (by omega),Nat.div_eq_of_lt h,Nat.zero_add]
 have hr:(x*(dc m of).length+y)%(dc m of).length=y:=by
  rw[Nat.add_comm,Nat.add_mul_mod_self_right,Nat.mod_eq_of_lt h]
 unfold dO;rw[List.length_append,List.length_singleton];rw[show dq (R.length+1) (fun i=>(dc m ((R++[of]).getD i [])).getD ((aK (bh m (R++[of])) (x*(dc m of).length+y)).getD i 0).toNat 0)=dq R.length (fun i=>(dc m ((R++[of]).getD i [])).getD ((aK (bh m (R++[of])) (x*(dc m of).length+y)).getD i 0).toNat 0)++[(dc m ((R++[of]).getD R.length [])).getD ((aK (bh m (R++[of])) (x*(dc m of).length+y)).getD R.length 0).toNat 0] from(y4 _ _).symm]
 congr 1
 ·refine ra fun i hi=>?_;rw[AD (by rw[r5,List.length_append];omega),AD (by omega),r5,aia (by omega),Int.toNat_natCast,hq];rw[show(R++[of]).getD i []=R.getD i [] by rw[List.getD_eq_getElem?_getD,List.getElem?_append_left hi,<-List.getD_eq_getElem?_getD]]
 ·rw[AD (by rw[r5,List.length_append,List.length_singleton];omega),r5];rw[show R.length=(bh m R).length from hl.symm,ah7]
  simp only[Int.toNat_natCast,hr];rw[show(R++[of]).getD (bh m R).length []=of by rw[hl,List.getD_eq_getElem?_getD,List.getElem?_append_right (Nat.le_refl _),Nat.sub_self];rfl]
theorem Kf (m:Int):∀(k:Nat) (R:List J),R.length=k->gL (bY (bh m R)) (fun n=>dO m R (aK (bh m R) n))=dk m R
 |0,R,h=>by
  rw[List.eq_nil_of_length_eq_zero h];rfl
 |k+1,R,h=>by
  obtain⟨R,of,rfl⟩:∃R' of,R=R'++[of]:=⟨R.dropLast,R.getLast (by intro e;rw[e] at h;simp at h),(List.dropLast_concat_getLast _).symm⟩;have ih:=Kf m k R (by simpa using h);have r5:bh m (R++[of])=bh m R++[((dc m of).length:Int)]:=by simp[bh]
  rw[JG,<-ih,show bY (bh m (R++[of]))=bY (bh m R)*(dc m of).length by rw[r5,Hf,Int.toNat_natCast],ZD,List.flatMap_def];congr 1;rw[show(gL (bY (bh m R)) fun n=>dO m R (aK (bh m R) n)).map (fun l=>(dc m of).map fun x=>l++[x])=gL (bY (bh m R)) (fun n=>(dc m of).map fun x=>dO m R (aK (bh m R) n)++[x]) by unfold gL;rw[List.map_map];rfl];refine pA fun x _=>?_;rw[<-KA (fun v=>dO m R (aK (bh m R) x)++[v]) (dc m of) 0];exact pA fun y hy=>arP hy
structure PdF (D:J) (m:Int) (R:List J):Prop where
 l:(bh m R).length=D.length
 get:∀i,i<D.length->(bh m R).getD i 0=((dc m (R.getD i [])).length:Int)
 b:∀i,i<D.length->1<=(dc m (R.getD i [])).length/\((dc m (R.getD i [])).length:Int)<=D.getD i 0
 g:mC (bh m R)
 p1:1<=bY (bh m R)
 pD:bY (bh m R)<=bY D
section
variable {D:J} {m:Int} {R:List J}
theorem fT.pd (H:fT D m R):PdF D m R:=by
 have r7:=H.rl;have hl:(bh m R).length=D.length:=by simp only[bh,List.length_map];exact r7
 have hg:∀i,i<D.length->(bh m R).getD i 0=((dc m (R.getD i [])).length:Int):=fun i hi=>by
  rw[List.getD_eq_getElem?_getD,bh,List.getElem?_map,getD_some [] (show i<R.length by omega)];rfl
 have hb:∀i,i<D.length->1<=(dc m (R.getD i [])).length/\((dc m (R.getD i [])).length:Int)<=D.getD i 0:=fun i hi=>by
  have h1:=H.row i hi;have h2:=H.rC hi;have h3:=S7 m (R.getD i []);have h4:=arX (m:=m) (of:=R.getD i []) (by intro e;rw[e] at h1;simp only[List.length_nil] at h1;omega) (H.al i hi);omega
 have C7:∀x∈bh m R,1<=x/\x<=8:=fun x hx=>by
  obtain⟨i,hi,rfl⟩:=List.mem_iff_getElem.1 hx;have e:(bh m R)[i]=(bh m R).getD i 0:=by rw[List.getD_eq_getElem?_getD,List.getElem?_eq_getElem hi];rfl
  have a1:=hb i (by omega);have a2:=H.rC (i:=i) (by omega);rw[e,hg i (by omega)];omega
 have Qs:=H.fy;exact⟨hl,hg,hb,⟨by omega,fun x hx=>by have:=C7 x hx;omega⟩,A8 fun x hx=>(C7 x hx).1,Ta hl fun i hi=>by rw[hg i (by omega)];have:=hb i (by omega);omega⟩
theorem alJ {P:J} (h:mC P) (n:Nat) {i:Nat} (hi:i<P.length):0<=(aK P n).getD i 0/\(aK P n).getD i 0<P.getD i 0:=by
 obtain⟨d,d1,d2,d3,d4,d5⟩:=Fx h hi;have yb:(aK P n).getD i 0=((n/eP P (i+1)%d:Nat):Int):=by rw[AD hi];unfold eF;rw[d3]
 have cj:=Nat.mod_lt (n/eP P (i+1)) (show 0<d by omega);rw[yb,d2];omega
theorem fT.ix (H:fT D m R) (n:Nat) {i:Nat} (hi:i<D.length):∃k:Nat,(aK (bh m R) n).getD i 0=(k:Int)/\k<(dc m (R.getD i [])).length:=by
 have P:=H.pd;have:=alJ P.g n (i:=i) (by have:=P.l;omega);rw[P.get i hi] at this;exact⟨((aK (bh m R) n).getD i 0).toNat,by omega,by omega⟩
theorem arO {ix:J} {i:Nat} (hi:i<R.length):(dO m R ix).getD i 0=(dc m (R.getD i [])).getD (ix.getD i 0).toNat 0:=by
 rw[List.getD_eq_getElem?_getD,dO,vc _ hi];rfl
theorem fT.pick (H:fT D m R) (n:Nat):mw R (dO m R (aK (bh m R) n)):=by
 refine⟨fQ _ _,fun i hi=>?_⟩;have r7:=H.rl;obtain⟨k,h1,h2⟩:=H.ix n (i:=i) (by omega);rw[arO hi,h1,Int.toNat_natCast];exact arW (td h2)
theorem fT.Fl (H:fT D m R) {ch:J} (hc:mw R ch):ch.length<=12/\∀v∈ch,0<=v/\v<=12:=by
 obtain⟨h1,h2⟩:=hc;have r7:=H.rl;have Qs:=H.fy;have hm:=H.LC;refine⟨by omega,fun v hv=>?_⟩;obtain⟨i,hi,rfl⟩:=List.mem_iff_getElem.1 hv;have e:ch[i]=ch.getD i 0:=by rw[List.getD_eq_getElem?_getD,List.getElem?_eq_getElem hi];rfl
 have:=H.al i (by omega) _ (h2 i (by omega));rw[e];omega
theorem fT.MZ (H:fT D m R) {ch:J} (hc:mw R ch):tP ch=some (ot ch):=if_pos (H.Fl hc)
theorem fT.atD (H:fT D m R) {ch:J} (hc:mw R ch):0<=ot ch/\ot ch<=144:=by
 obtain⟨h1,h2⟩:=H.Fl hc;have hb:∀k,k<=ch.length->0<=sm k (fun i=>ch.getD i 0)/\sm k (fun i=>ch.getD i 0)<=12*k:=by
  intro k;induction k with
  |zero=>exact fun _=>⟨Int.le_refl 0,Int.le_refl 0⟩
  |succ k ih=>
   intro hk;have ih:=ih (by omega);have:=h2 _ (td (show k<ch.length by omega));simp only[sm];omega
 have:=hb ch.length (Nat.le_refl _);unfold ot;omega
theorem fT.Tm (H:fT D m R) {ch:J} (hc:mw R ch):mO (ot ch) m=some (ot ch%m):=by
 have h1:=H.atD hc;have hm:=H.m1;have:=W4 (a:=(ot ch).toNat) (b:=m.toNat) (by omega);rw[show(((ot ch).toNat:Nat):Int)=ot ch by omega,show((m.toNat:Nat):Int)=m by omega] at this;rw[this];congr 1;rw[Int.natCast_emod,Int.toNat_of_nonneg h1.1,Int.toNat_of_nonneg (by omega)]
end
def jt (L:J) (m:Int) (R:List J) (n:Nat):List Bk:=((gL n fun n=>dO m R (aK (bh m R) n)).filter (sn m)).map (nw L R)
theorem WS {L:J} {m:Int} {R:List J} {n:Nat} (h:ot (dO m R (aK (bh m R) n))%m=0):jt L m R (n+1)=jt L m R n++[nw L R (dO m R (aK (bh m R) n))]:=by
 unfold jt;rw[<-ZC,dF,List.filter_append,List.map_append,List.filter_cons_of_pos (by unfold sn;exact decide_eq_true h)];rfl
theorem WR {L:J} {m:Int} {R:List J} {n:Nat} (h:¬ot (dO m R (aK (bh m R) n))%m=0):jt L m R (n+1)=jt L m R n:=by
 unfold jt;rw[<-ZC,dF,List.filter_append,List.map_append,List.filter_cons_of_neg (by unfold sn;simpa using h)];simp
theorem WQ (L:J) (m:Int) (R:List J) (n:Nat):(jt L m R n).length<=n:=by
 unfold jt;rw[List.length_map];exact Nat.le_trans (List.length_filter_le _ _) (Nat.le_of_eq (tc _ _))
theorem ahw (L:J) (m:Int) (R:List J):jt L m R (bY (bh m R))=(cP m R).map (nw L R):=by
 unfold jt cP;rw[Kf m R.length R rfl]
def pV (m:Int) (R:List J) (i c q:Nat):J:=if q<i then dc m (R.getD q []) else if q=i then j5 (R.getD i []) c else[]
theorem arS (m:Int) (R:List J) (i:Nat) (n:Nat):gL n (pV m R i 0)=gL n (fun q=>if q<i then dc m (R.getD q []) else[]):=pA fun q _=>by
 unfold pV;by_cases h:q<i
 ·rw[if_pos h,if_pos h]
 ·rw[if_neg h,if_neg h];by_cases e:q=i
  ·rw[if_pos e];rfl
  ·rw[if_neg e]
theorem arT (m:Int) (R:List J) (i:Nat) (n:Nat):gL n (pV m R i m.toNat)=gL n (fun q=>if q<i+1 then dc m (R.getD q []) else[]):=pA fun q _=>by
 unfold pV;by_cases h:q<i
 ·rw[if_pos h,if_pos (by omega)]
 ·rw[if_neg h];by_cases e:q=i
  ·subst e;rw[if_pos rfl,if_pos (by omega)];rfl
  ·rw[if_neg e,if_neg (by omega)]
theorem arV {m:Int} {R:List J} {i c n:Nat} (h:(c:Int)∈R.getD i []):bS (gL n (pV m R i c)) i (j5 (R.getD i []) c++[(c:Int)])=gL n (pV m R i (c+1)):=by
 rw[Qp];refine pA fun q _=>?_;by_cases e:q=i
 ·subst e;rw[if_pos rfl];unfold pV;rw[if_neg (by omega),if_pos rfl];exact(if_pos h).symm
 ·rw[if_neg e];unfold pV;by_cases h2:q<i
  ·rw[if_pos h2,if_pos h2]
  ·rw[if_neg h2,if_neg h2,if_neg e,if_neg e]
theorem arU {m:Int} {R:List J} {i c n:Nat} (h:¬(c:Int)∈R.getD i []):gL n (pV m R i c)=gL n (pV m R i (c+1)):=pA fun q _=>by
 unfold pV;by_cases h2:q<i
 ·rw[if_pos h2,if_pos h2]
 ·rw[if_neg h2,if_neg h2];by_cases e:q=i
  ·rw[if_pos e,if_pos e];exact(if_neg h).symm
  ·rw[if_neg e,if_neg e]
theorem adj (of:J) (n:Nat):(j5 of n).length<=of.length:=Nat.le_trans (S8 of n) List.countP_le_length
theorem ajn (x:T3×fb) (y:List Bk) (h:BH x=some y):NG aL x=some y:=by
 obtain⟨⟨L,D,A⟩,⟨m,R⟩⟩:=x;simp only[BH] at h;split at h
 ·rename_i hc;rw[<-h];have H:=CB hc;have P:=H.pd;have Ge:=H.fy;have r7:=H.rl;have hp4:=H.p4;have fM:=H.m1;have ala:=H.LC;have lP:=P.p1;have Q7:=P.pD;have e7:=P.l;have hLl:L.length<=12:=by
   simp only[jP,Bool.and_eq_true,decide_eq_true_eq] at hc;by_cases ha:oD L D=true/\eo D<=4096
   ·exact(vB ha.1).1
   ·have e:fS L D= -1:=if_neg ha;rw[e] at hc;exact absurd hc.1 (by decide)
  simp only[NG,aA];rw[pQ (n:=aa R) (by simp only[aa,dR];omega)];simp only[ao];rw[pQ (n:=aa R) (by simp only[aa,dR];omega)];simp only[ao];rw[show bo 0 (aa R) (aa (dC (aa R) ([]:J)))=some () by rw[pO];exact bQ _,show bo 0 (aa R) (aa (dC (aa R) (0:Int)))=some () by rw[pO];exact bQ _];simp only[ao];rw[fk (fun i=>((R,aC (aa R),(i:Int)),(L,D,A),(m,R),gL R.length (fun q=>if q<i then dc m (R.getD q []) else[]),gL R.length (fun q=>if q<i then((dc m (R.getD q [])).length:Int) else 0))) (r:=Sum.inl ((L,D,A),(m,R),gL R.length (fun q=>dc m (R.getD q [])),bh m R)) R.length ?a1 ?a2 ?a3 (dY (by omega))]
  case a3=>
   rw[z7 (aa R) (fun q=>dc m (R.getD q [])),z7 (aa R) (fun q=>((dc m (R.getD q [])).length:Int))];rfl
  case a2=>
   dsimp only
   rw[bc (gD R)];simp only[bQ,ao];rw[z6,z6,KA (fun of=>((dc m of).length:Int)) R []];rfl
  case a1=>
   intro i hi;have eW:=H.row i (by omega);have Z2:=H.rC (i:=i) (by omega);dsimp only
   rw[aY (dQ (by rw[nl];omega)),dg,getD_some ([]:J) hi];simp only[ao,bQ];rw[fk (fun c=>(((i:Int),R.getD i [],(c:Int),R,aC (aa R),(i:Int)),(L,D,A),(m,R),gL R.length (pV m R i c),gL R.length (fun q=>if q<i then((dc m (R.getD q [])).length:Int) else 0))) (r:=Sum.inl (((i:Int),(i:Int),R,aC (aa R)),(L,D,A),(m,R),gL R.length (fun q=>if q<i+1 then dc m (R.getD q []) else[]),gL R.length (fun q=>if q<i then((dc m (R.getD q [])).length:Int) else 0))) m.toNat ?b1 ?b2 ?b3 (dY (by omega))]
   case b3=>rw[arS];rfl
   case b2=>
    dsimp only
    rw[bc (eJ (by omega))]
    try simp only[bQ,ao]
    rw[arT]
   case b1=>
    intro c jz;have yj:=adj (R.getD i []) c;dsimp only
    rw[aY (dQ (by omega)),show vk (R.getD i [],(c:Int))=some (decide ((c:Int)∈R.getD i [])) from if_pos (by dsimp only;omega)]
    simp only[ao];rw[eK (by omega) (by omega),show(c:Int)+1=((c+1:Nat):Int) by push_cast;rfl];by_cases hm:(c:Int)∈R.getD i []
    ·rw[show decide ((c:Int)∈R.getD i [])=true from decide_eq_true hm,aY (by rfl),rA _ hi]
     simp only[ao,fU];rw[rO _ hi];simp only[ao,UQ];rw[show pV m R i c i=j5 (R.getD i []) c by unfold pV;rw[if_neg (by omega),if_pos rfl]];rw[show cX [(c:Int)] 0 1=some [(c:Int)] from rfl]
     simp only[ao];rw[kD (by simp only[aG,aa,List.length_singleton,dR];omega)];simp only[ao];rw[show dF (j5 (R.getD i []) c) [(c:Int)]=j5 (R.getD i []) c++[(c:Int)] from rfl,arV hm,xV]
     simp only[ao,bQ]
    ·rw[show decide ((c:Int)∈R.getD i [])=false from decide_eq_false hm,bc (by rfl),arU hm]
     try simp only[ao,bQ]
   simp only[bV,Option.bind];rw[rA _ hi];simp only[ao,fU];rw[rO _ hi];simp only[ao];rw[rA _ hi];simp only[ao,fU];rw[rO _ hi];simp only[ao,bQ];rw[if_pos (show i<i+1 by omega),show aC (aa (dc m (R.getD i [])))=((dc m (R.getD i [])).length:Int) from rfl,CZ (fun q=>((dc m (R.getD q [])).length:Int)),xV]
   simp only[ao,bQ];rw[eK (by omega) (by omega)];rfl
  simp only[bV,Option.bind];rw[pQ (n:=aa (bh m R)) (by simp only[aa,dR];omega)];simp only[ao,bQ,xW];rw[show bo 0 (aa (bh m R)) (aa (dC (aa (bh m R)) (0:Int)))=some () by rw[pO];exact bQ _];simp only[ao];obtain⟨Q,hQ⟩:∃Q,bY (bh m R)=Q+1:=⟨bY (bh m R) - 1,by omega⟩;rw[fk (fun n=>((L,D,A),(m,R),gL R.length (fun q=>dc m (R.getD q [])),bh m R,jt L m R n,aK (bh m R) n)) (r:=jt L m R (Q+1)) Q ?e1 ?e2 ?e3 (dY (by omega))]
  case e3=>rw[aaA P.g];rfl
  case e1=>
   intro n hn;have wu:=H.pick n;have akK:=H.Fl wu;have lx:(aK (bh m R) n).length=R.length:=(fQ _ _).trans (e7.trans r7.symm);have FY:=WQ L m R n;dsimp only
   rw[pQ (n:=aa (bh m R)) (by simp only[aa,dR];omega)];simp only[ao,bQ];rw[show bo 0 (aa (bh m R)) (aa (dC (aa (bh m R)) (0:Int)))=some () by rw[pO];exact bQ _];simp only[ao];rw[fk (fun j=>((aC (aa (aK (bh m R) n)),(j:Int)),(L,D,A),(m,R),gL R.length (fun q=>dc m (R.getD q [])),bh m R,jt L m R n,aK (bh m R) n,gL R.length fun q=>if q<j then(dc m (R.getD q [])).getD ((aK (bh m R) n).getD q 0).toNat 0 else 0)) (r:=Sum.inl ((L,D,A),(m,R),dO m R (aK (bh m R) n),gL R.length (fun q=>dc m (R.getD q [])),bh m R,jt L m R n,aK (bh m R) n)) R.length ?c1 ?c2 ?c3 (dY (by omega))]
   case c3=>
    rw[show aa (bh m R)=R.length from e7.trans r7.symm,z7 R.length (fun q=>(dc m (R.getD q [])).getD ((aK (bh m R) n).getD q 0).toNat 0)]
    rfl
   case c2=>
    dsimp only
    rw[bc (eJ (by rw[nl];omega))]
    try simp only[ao,bQ]
    rw[z6];rfl
   case c1=>
    intro j hj;obtain⟨k,wh,Ak⟩:=H.ix n (i:=j) (by omega);dsimp only
    rw[aY (dQ (by rw[nl];omega)),mz (show j<aa (aK (bh m R) n) by unfold aa;omega)];simp only[ao,fU];rw[show cu (aK (bh m R) n) j=some ((aK (bh m R) n).getD j 0) from getD_some 0 (by omega)]
    simp only[ao];rw[rA _ hj];simp only[ao,fU];rw[rO _ hj];simp only[ao];rw[wh,mz (show k<aa (dc m (R.getD j [])) from Ak)]
    simp only[ao];rw[show cu (dc m (R.getD j [])) k=some ((dc m (R.getD j [])).getD k 0) from getD_some 0 Ak]
    simp only[ao];rw[rA _ hj];simp only[ao,fU];rw[rO _ hj];simp only[ao,bQ];have e:=CZ (n:=R.length) (k:=j) (fun q=>(dc m (R.getD q [])).getD ((aK (bh m R) n).getD q 0).toNat 0) 0;rw[wh,Int.toNat_natCast] at e;rw[e,xV];simp only[ao];rw[eK (by omega) (by omega)];rfl
   simp only[bV,Option.bind,kY,ao];rw[H.MZ wu];simp only[ao];rw[H.Tm wu];simp only[ao];by_cases hz:ot (dO m R (aK (bh m R) n))%m=0
   ·rw[aY (rH hz),show zq L=some L from if_pos (by omega)]
    simp only[ao,bQ,xW];rw[fk (fun j=>((aC (aa (dO m R (aK (bh m R) n))),(j:Int)),(L,D,A),(m,R),dO m R (aK (bh m R) n),L,dq j (fun i=>((vals (R.getD i []) ((dO m R (aK (bh m R) n)).getD i 0)).length:Int)),gL R.length (fun q=>dc m (R.getD q [])),bh m R,jt L m R n,aK (bh m R) n)) (r:=Sum.inl ((L,D,A),(m,R),dO m R (aK (bh m R) n),L,bD R (dO m R (aK (bh m R) n)),jt L m R n,gL R.length (fun q=>dc m (R.getD q [])),bh m R,aK (bh m R) n)) (dO m R (aK (bh m R) n)).length ?d1 ?d2 ?d3 (dY (by omega))]
    case d3=>rfl
    case d2=>
     dsimp only
     rw[bc (gD _)]
     try simp only[ao,bQ]
     rfl
    case d1=>
     intro j hj;have uD:j<R.length:=by have:=wu.1;omega
     have eW:=H.row j (by omega);have Z2:=H.rC (i:=j) (by omega);have hv:=Ng (R.getD j []) ((dO m R (aK (bh m R) n)).getD j 0);dsimp only
     rw[aY (dQ (by rw[nl];omega)),mz (show j<aa (dO m R (aK (bh m R) n)) from hj)]
     simp only[ao,fU];rw[show cu (dO m R (aK (bh m R) n)) j=some ((dO m R (aK (bh m R) n)).getD j 0) from getD_some 0 hj]
     simp only[ao];rw[dg,getD_some ([]:J) uD];simp only[ao];rw[show sM (R.getD j [],(dO m R (aK (bh m R) n)).getD j 0)=some (vals (R.getD j []) ((dO m R (aK (bh m R) n)).getD j 0)) from if_pos (by dsimp only;omega)]
     simp only[ao,bQ];rw[show cX [aC (aa (vals (R.getD j []) ((dO m R (aK (bh m R) n)).getD j 0)))] 0 1=some [aC (aa (vals (R.getD j []) ((dO m R (aK (bh m R) n)).getD j 0)))] from rfl]
     simp only[ao];rw[kD (by simp only[aG,aa,List.length_singleton,fQ,dR];omega)];simp only[ao,rN];rw[show[aC (aa (vals (R.getD j []) ((dO m R (aK (bh m R) n)).getD j 0)))]=[((vals (R.getD j []) ((dO m R (aK (bh m R) n)).getD j 0)).length:Int)] from rfl,y4 j fun i=>((vals (R.getD i []) ((dO m R (aK (bh m R) n)).getD i 0)).length:Int),eK (by omega) (by omega)]
     rfl
    simp only[io,ao,bQ];rw[show bo 0 1 (aa [(dO m R (aK (bh m R) n),L,bD R (dO m R (aK (bh m R) n)),([]:J))])=some () from rfl]
    simp only[ao];rw[kD (by simp only[aG,aa,List.length_singleton,dR];omega)];simp only[ao,rN,kY,bQ];rw[show dF (jt L m R n) [(dO m R (aK (bh m R) n),L,bD R (dO m R (aK (bh m R) n)),([]:J))]=jt L m R (n+1) from(WS hz).symm,DR P.g (by omega) (by omega),hQ]
    simp only[ao];rw[show decide (n+1<Q+1)=true from decide_eq_true (by omega)]
    rw[bc (by rfl)]
    try simp only[ao,bQ]
    rw[show bo 0 (aa (aK (bh m R) n)) (aa (aK (bh m R) (n+1)))=some () from xX ((fQ _ _).trans (fQ _ _).symm)]
    rfl
   ·rw[bc (rG hz)];simp only[ao,kY,bQ];rw[DR P.g (by omega) (by omega),hQ];rw[<-WR (L:=L) hz];simp only[ao];rw[show decide (n+1<Q+1)=true from decide_eq_true (by omega)]
    rw[bc (by rfl)]
    try simp only[ao,bQ]
    rw[show bo 0 (aa (aK (bh m R) n)) (aa (aK (bh m R) (n+1)))=some () from xX ((fQ _ _).trans (fQ _ _).symm)]
    rfl
  case e2=>
   have wu:=H.pick Q;have akK:=H.Fl wu;have lx:(aK (bh m R) Q).length=R.length:=(fQ _ _).trans (e7.trans r7.symm);have FY:=WQ L m R Q;dsimp only
   rw[pQ (n:=aa (bh m R)) (by simp only[aa,dR];omega)];simp only[ao,bQ];rw[show bo 0 (aa (bh m R)) (aa (dC (aa (bh m R)) (0:Int)))=some () by rw[pO];exact bQ _];simp only[ao];rw[fk (fun j=>((aC (aa (aK (bh m R) Q)),(j:Int)),(L,D,A),(m,R),gL R.length (fun q=>dc m (R.getD q [])),bh m R,jt L m R Q,aK (bh m R) Q,gL R.length fun q=>if q<j then(dc m (R.getD q [])).getD ((aK (bh m R) Q).getD q 0).toNat 0 else 0)) (r:=Sum.inl ((L,D,A),(m,R),dO m R (aK (bh m R) Q),gL R.length (fun q=>dc m (R.getD q [])),bh m R,jt L m R Q,aK (bh m R) Q)) R.length ?c1 ?c2 ?c3 (dY (by omega))]
   case c3=>
    rw[show aa (bh m R)=R.length from e7.trans r7.symm,z7 R.length (fun q=>(dc m (R.getD q [])).getD ((aK (bh m R) Q).getD q 0).toNat 0)]
    rfl
   case c2=>
    dsimp only
    rw[bc (eJ (by rw[nl];omega))]
    try simp only[ao,bQ]
    rw[z6];rfl
   case c1=>
    intro j hj;obtain⟨k,wh,Ak⟩:=H.ix Q (i:=j) (by omega);dsimp only
    rw[aY (dQ (by rw[nl];omega)),mz (show j<aa (aK (bh m R) Q) by unfold aa;omega)];simp only[ao,fU];rw[show cu (aK (bh m R) Q) j=some ((aK (bh m R) Q).getD j 0) from getD_some 0 (by omega)]
    simp only[ao];rw[rA _ hj];simp only[ao,fU];rw[rO _ hj];simp only[ao];rw[wh,mz (show k<aa (dc m (R.getD j [])) from Ak)]
    simp only[ao];rw[show cu (dc m (R.getD j [])) k=some ((dc m (R.getD j [])).getD k 0) from getD_some 0 Ak]
    simp only[ao];rw[rA _ hj];simp only[ao,fU];rw[rO _ hj];simp only[ao,bQ];have e:=CZ (n:=R.length) (k:=j) (fun q=>(dc m (R.getD q [])).getD ((aK (bh m R) Q).getD q 0).toNat 0) 0;rw[wh,Int.toNat_natCast] at e;rw[e,xV];simp only[ao];rw[eK (by omega) (by omega)];rfl
   simp only[bV,Option.bind,kY,ao];rw[H.MZ wu];simp only[ao];rw[H.Tm wu];simp only[ao];by_cases hz:ot (dO m R (aK (bh m R) Q))%m=0
   ·rw[aY (rH hz),show zq L=some L from if_pos (by omega)]
    simp only[ao,bQ,xW];rw[fk (fun j=>((aC (aa (dO m R (aK (bh m R) Q))),(j:Int)),(L,D,A),(m,R),dO m R (aK (bh m R) Q),L,dq j (fun i=>((vals (R.getD i []) ((dO m R (aK (bh m R) Q)).getD i 0)).length:Int)),gL R.length (fun q=>dc m (R.getD q [])),bh m R,jt L m R Q,aK (bh m R) Q)) (r:=Sum.inl ((L,D,A),(m,R),dO m R (aK (bh m R) Q),L,bD R (dO m R (aK (bh m R) Q)),jt L m R Q,gL R.length (fun q=>dc m (R.getD q [])),bh m R,aK (bh m R) Q)) (dO m R (aK (bh m R) Q)).length ?d1 ?d2 ?d3 (dY (by omega))]
    case d3=>rfl
    case d2=>
     dsimp only
     rw[bc (gD _)]
     try simp only[ao,bQ]
     rfl
    case d1=>
     intro j hj;have uD:j<R.length:=by have:=wu.1;omega
     have eW:=H.row j (by omega);have Z2:=H.rC (i:=j) (by omega);have hv:=Ng (R.getD j []) ((dO m R (aK (bh m R) Q)).getD j 0);dsimp only
     rw[aY (dQ (by rw[nl];omega)),mz (show j<aa (dO m R (aK (bh m R) Q)) from hj)]
     simp only[ao,fU];rw[show cu (dO m R (aK (bh m R) Q)) j=some ((dO m R (aK (bh m R) Q)).getD j 0) from getD_some 0 hj]
     simp only[ao];rw[dg,getD_some ([]:J) uD];simp only[ao];rw[show sM (R.getD j [],(dO m R (aK (bh m R) Q)).getD j 0)=some (vals (R.getD j []) ((dO m R (aK (bh m R) Q)).getD j 0)) from if_pos (by dsimp only;omega)]
     simp only[ao,bQ];rw[show cX [aC (aa (vals (R.getD j []) ((dO m R (aK (bh m R) Q)).getD j 0)))] 0 1=some [aC (aa (vals (R.getD j []) ((dO m R (aK (bh m R) Q)).getD j 0)))] from rfl]
     simp only[ao];rw[kD (by simp only[aG,aa,List.length_singleton,fQ,dR];omega)];simp only[ao,rN];rw[show[aC (aa (vals (R.getD j []) ((dO m R (aK (bh m R) Q)).getD j 0)))]=[((vals (R.getD j []) ((dO m R (aK (bh m R) Q)).getD j 0)).length:Int)] from rfl,y4 j fun i=>((vals (R.getD i []) ((dO m R (aK (bh m R) Q)).getD i 0)).length:Int),eK (by omega) (by omega)]
     rfl
    simp only[io,ao,bQ];rw[show bo 0 1 (aa [(dO m R (aK (bh m R) Q),L,bD R (dO m R (aK (bh m R) Q)),([]:J))])=some () from rfl]
    simp only[ao];rw[kD (by simp only[aG,aa,List.length_singleton,dR];omega)];simp only[ao,rN,kY,bQ];rw[show dF (jt L m R Q) [(dO m R (aK (bh m R) Q),L,bD R (dO m R (aK (bh m R) Q)),([]:J))]=jt L m R (Q+1) from(WS hz).symm,DR P.g (by omega) (by omega),hQ]
    simp only[ao];rw[show decide (Q+1<Q+1)=false from decide_eq_false (by omega)]
    rw[aY (by rfl)]
    try simp only[ao,io]
   ·rw[bc (rG hz)];simp only[ao,kY,bQ];rw[DR P.g (by omega) (by omega),hQ];rw[<-WR (L:=L) hz];simp only[ao];rw[show decide (Q+1<Q+1)=false from decide_eq_false (by omega)]
    rw[aY (by rfl)]
    try simp only[ao,io]
  rw[<-hQ,ahw]
 ·cases h
theorem Nv {D:J} {m:Int} {R:List J} (H:fT D m R):nv R=D/\Ff (m,R):=by
 have r7:=H.rl;have e:nv R=D:=by
  apply List.ext_getElem?;intro i;by_cases hi:i<D.length
  ·rw[nv,List.getElem?_map,getD_some [] (show i<R.length by omega),getD_some 0 hi,<-H.row i hi];rfl
  ·rw[List.getElem?_eq_none (by simp only[nv,List.length_map];omega),List.getElem?_eq_none (by omega)]
 refine⟨e,⟨H.m1,H.LC⟩,by have:=H.fy;dsimp only;omega,fun l hl=>?_,by dsimp only;rw[e];exact H.p4⟩;obtain⟨i,hi,rfl⟩:=List.mem_iff_getElem.1 hl;have hi:i<R.length:=hi;show(1<=R[i].length/\R[i].length<=8)/\∀v∈R[i],0<=v/\v<m;have e2:R[i]=R.getD i []:=by rw[List.getD_eq_getElem?_getD,List.getElem?_eq_getElem hi];rfl
 have h1:=H.row i (by omega);have h2:=H.rC (i:=i) (by omega);rw[e2];exact⟨by omega,H.al i (by omega)⟩
theorem ahH {m:Int} {R:List J} (h:Ff (m,R)):fT (nv R) m R:=by
 obtain⟨⟨h1,h2⟩,h3,h4,h5⟩:=h;have hl:(nv R).length=R.length:=by simp[nv]
 have hg:∀i,i<R.length->(nv R).getD i 0=((R.getD i []).length:Int):=fun i hi=>by
  rw[List.getD_eq_getElem?_getD,nv,List.getElem?_map,getD_some [] hi];rfl
 have hm:∀i,i<R.length->R.getD i []∈R:=fun i hi=>List.mem_of_getElem? (getD_some [] hi);have hd:∀x∈nv R,1<=x/\x<=8:=fun x hx=>by
  obtain⟨l,hl,rfl⟩:=List.mem_map.1 hx;have:=(h4 l hl).1;omega
 exact⟨h1,h2,by rw[hl];exact h3,hd,⟨by dsimp only at h3;omega,fun x hx=>by have:=hd x hx;omega⟩,A8 fun x hx=>(hd x hx).1,h5,hl.symm,fun i hi=>(hg i (by omega)).symm,fun i hi=>(h4 _ (hm i (by omega))).2⟩
theorem OS {m:Int} {S:List J} {l:J} (h:l∈dk m S):∃n,l=dO m S (aK (bh m S) n):=by
 rw[<-Kf m S.length S rfl] at h;obtain⟨n,_,e⟩:=List.mem_map.1 h;exact⟨n,e.symm⟩
theorem Wv {m:Int} {S:List J} {l:J} (h:l∈dk m S):l.length=S.length:=by
 obtain⟨n,rfl⟩:=OS h;exact fQ _ _
theorem Yp {α β:Type} (K:List α) (g:α->List β) (q:Nat) (h:∀l,(g l).length=q):(K.flatMap g).length=K.length*q:=by
 induction K with
 |nil=>simp
 |cons a K ih=>rw[List.flatMap_cons,List.length_append,ih,h,List.length_cons,Nat.add_mul,Nat.one_mul,Nat.add_comm]
theorem Wu {m:Int}:∀(k:Nat) (S:List J),S.length=k->(∀l∈S,l.length<=8)->(dk m S).length<=8^k
 |0,S,h,_=>by rw[List.eq_nil_of_length_eq_zero h];exact Nat.le_refl 1
 |k+1,S,h,h8=>by
  obtain⟨S,of,rfl⟩:∃S' of,S=S'++[of]:=⟨S.dropLast,S.getLast (by intro e;rw[e] at h;simp at h),(List.dropLast_concat_getLast _).symm⟩;have ih:=Wu (m:=m) k S (by simpa using h) fun l hl=>h8 l (by simp[hl]);have h1:=h8 of (by simp);have h2:=S7 m of;rw[JG,Yp _ _ (dc m of).length (fun l=>by simp),Nat.pow_succ];exact Nat.mul_le_mul ih (by omega)
theorem HW {α:Type} {l:List α} {i:Nat} (d:α) (h:i<l.length):l.take (i+1)=l.take i++[l.getD i d]:=by
 rw[List.take_add_one,getD_some d h];rfl
theorem akt {α:Type} (p:α->Bool) {l:List α} {i:Nat} (d:α) (h:i<l.length):(l.take (i+1)).filter p=(l.take i).filter p++(if p (l.getD i d)=true then[l.getD i d] else[]):=by
 rw[HW d h,List.filter_append];by_cases hp:p (l.getD i d)=true
 ·rw[if_pos hp,List.filter_cons_of_pos hp];rfl
 ·rw[if_neg hp,List.filter_cons_of_neg hp];rfl
def u6 (m:Int) (of:J) (K:List J) (j:Nat):List J:=(K.take j).flatMap fun l=>(dc m of).map fun x=>l++[x]
theorem aqB {m:Int} {of:J} {K:List J} {j:Nat} (h:j<K.length):u6 m of K (j+1)=u6 m of K j++(j5 of m.toNat).map fun x=>K.getD j []++[x]:=by
 unfold u6;rw[HW [] h,List.flatMap_append,List.flatMap_cons,List.flatMap_nil,List.append_nil];rfl
theorem akn (x:fb) (y:List J) (h:B7 x=some y):OE aL x=some y:=by
 obtain⟨m,R⟩:=x;simp only[B7] at h;split at h
 ·rename_i hc;rw[<-h];have H:=ahH hc;have Ge:R.length<=12:=hc.2.1;have fM:=H.m1;have ala:=H.LC;have h8:∀l∈R,l.length<=8:=fun l hl=>(hc.2.2.1 l hl).1.2;have KX:dR=140737488355328:=rfl;have alo:∀i,i<=12->(8:Nat)^i<=68719476736:=fun i hi=>Nat.le_trans (Nat.pow_le_pow_right (by decide) hi) (by decide);have hK:∀i,i<=R.length->(dk m (R.take i)).length<=68719476736:=fun i hi=>Nat.le_trans (Wu i (R.take i) (by rw[List.length_take];omega) fun l hl=>h8 l (List.mem_of_mem_take hl)) (alo i (by omega));simp only[OE,aA];rw[show dP ([]:J) 0=some [] from rfl]
  simp only[ao];rw[show bo 0 1 (aa [([]:J)])=some () from rfl]
  simp only[ao];rw[fk (fun i=>((R,aC (aa R),(i:Int)),(m,R),dk m (R.take i))) (r:=Sum.inl ((m,R),dk m R)) R.length ?a1 ?a2 ?a3 (dY (by omega))]
  case a3=>rfl
  case a2=>
   dsimp only
   rw[bc (gD R)]
   try simp only[bQ,ao]
   rw[List.take_length]
  case a1=>
   intro i hi;have hKi:=hK i (by omega);have hof:=h8 _ (List.mem_of_getElem? (getD_some [] hi));have e7:=S7 m (R.getD i []);dsimp only
   rw[aY (dQ (by rw[nl];omega)),dg,getD_some ([]:J) hi];simp only[ao,bQ];rw[show bo 0 0 (aa ([]:List J))=some () from rfl]
   simp only[ao];rw[fk (fun j=>((R.getD i [],R,aC (aa R),(i:Int),aC (aa (dk m (R.take i))),(j:Int)),(m,R),u6 m (R.getD i []) (dk m (R.take i)) j,dk m (R.take i))) (r:=Sum.inl (((i:Int),R,aC (aa R)),(m,R),dk m (R.take (i+1)))) (dk m (R.take i)).length ?b1 ?b2 ?b3 (dY (by omega))]
   case b3=>rfl
   case b2=>
    dsimp only
    rw[bc (gD _)]
    try simp only[bQ,ao]
    rw[show u6 m (R.getD i []) (dk m (R.take i)) (dk m (R.take i)).length=dk m (R.take (i+1)) by
     unfold u6;rw[List.take_length,HW [] hi,JG]]
   case b1=>
    intro j hj;have hlj:((dk m (R.take i)).getD j []).length<=12:=by
     have:=Wv (List.mem_of_getElem? (getD_some [] hj));rw[this,List.length_take];omega
    have aT:(u6 m (R.getD i []) (dk m (R.take i)) j).length<=68719476736*8:=by
     unfold u6;rw[Yp _ _ (dc m (R.getD i [])).length (fun l=>by simp),List.length_take];exact Nat.mul_le_mul (by omega) (by omega)
    dsimp only
    rw[aY (dQ (by rw[nl];omega)),mz (show j<aa (dk m (R.take i)) from hj)]
    simp only[ao,fU];rw[show cu (dk m (R.take i)) j=some ((dk m (R.take i)).getD j []) from getD_some [] hj]
    simp only[ao,bQ];rw[fk (fun c=>((R.getD i [],(dk m (R.take i)).getD j [],(c:Int),R,aC (aa R),(i:Int),aC (aa (dk m (R.take i))),(j:Int)),(m,R),u6 m (R.getD i []) (dk m (R.take i)) j++(j5 (R.getD i []) c).map (fun x=>(dk m (R.take i)).getD j []++[x]),dk m (R.take i))) (r:=Sum.inl (((j:Int),R.getD i [],R,aC (aa R),(i:Int),aC (aa (dk m (R.take i)))),(m,R),u6 m (R.getD i []) (dk m (R.take i)) (j+1),dk m (R.take i))) m.toNat ?c1 ?c2 ?c3 (dY (by omega))]
    case c3=>simp[j5]
    case c2=>
     dsimp only
     rw[bc (eJ (by omega))]
     try simp only[bQ,ao]
     rw[aqB hj]
    case c1=>
     intro c jz;have yj:=adj (R.getD i []) c;dsimp only
     rw[aY (dQ (by omega)),show xy (R.getD i [],(c:Int))=some (vals (R.getD i []) (c:Int)) from if_pos (by dsimp only;omega)]
     simp only[ao,bQ];rw[eK (by omega) (by omega),show(c:Int)+1=((c+1:Nat):Int) by push_cast;rfl];by_cases hm:(c:Int)∈R.getD i []
     ·have hv:=agN hm;rw[aY (dQ (by rw[nl];omega)),show nC ((dk m (R.take i)).getD j [])=some ((dk m (R.take i)).getD j []) from if_pos (by omega)]
      simp only[ao,bQ];rw[show cX [(c:Int)] 0 1=some [(c:Int)] from rfl]
      simp only[ao];rw[kD (by simp only[aG,aa,List.length_singleton];omega)];simp only[ao];rw[show dP (dF ((dk m (R.take i)).getD j []) [(c:Int)]) (aG (aa ((dk m (R.take i)).getD j [])) (aa [(c:Int)]))=some ((dk m (R.take i)).getD j []++[(c:Int)]) from agr (by simp[dF,aG,aa])]
      simp only[ao];rw[show bo 0 1 (aa [(dk m (R.take i)).getD j []++[(c:Int)]])=some () from rfl]
      simp only[ao];rw[kD (by simp only[aG,aa,List.length_singleton,List.length_append,List.length_map];omega)];simp only[ao,rN];rw[show j5 (R.getD i []) (c+1)=j5 (R.getD i []) c++[(c:Int)] from if_pos hm,List.map_append]
      unfold dF;rw[List.append_assoc];rfl
     ·rw[at5 hm,bc (eJ (by rw[nl];simp)),show j5 (R.getD i []) (c+1)=j5 (R.getD i []) c from if_neg hm]
    simp only[bV,Option.bind,bQ,ao];rw[eK (by omega) (by omega)];rfl
   simp only[bV,Option.bind,bQ,ao];rw[eK (by omega) (by omega)];rfl
  simp only[bV,Option.bind,bQ,ao];have hKR:=hK R.length (Nat.le_refl _);rw[List.take_length] at hKR;rw[show bo 0 0 (aa ([]:List J))=some () from rfl]
  simp only[ao];rw[fk (fun k=>((aC (aa (dk m R)),(k:Int)),(m,R),((dk m R).take k).filter (sn m),dk m R)) (r:=Sum.inl (cP m R)) (dk m R).length ?d1 ?d2 ?d3 (dY (by omega))]
  case d3=>rfl
  case d2=>
   dsimp only
   rw[bc (gD _)]
   try simp only[bQ,ao]
   rw[List.take_length];rfl
  case d1=>
   intro k hk;obtain⟨n,hn⟩:=OS (List.mem_of_getElem? (getD_some [] hk));have gX:mw R ((dk m R).getD k []):=by rw[hn];exact H.pick n
   obtain⟨v1,v2⟩:=H.Fl gX;have lO:(((dk m R).take k).filter (sn m)).length<=68719476736:=Nat.le_trans (List.length_filter_le _ _) (by rw[List.length_take];omega);have hb:∀q,q<=((dk m R).getD k []).length->0<=sm q (fun i=>((dk m R).getD k []).getD i 0)/\sm q (fun i=>((dk m R).getD k []).getD i 0)<=12*q:=by
    intro q;induction q with
    |zero=>exact fun _=>⟨Int.le_refl 0,Int.le_refl 0⟩
    |succ q ih=>
     intro hq;have ih:=ih (by omega);have:=v2 _ (td (show q<((dk m R).getD k []).length by omega));simp only[sm];omega
   dsimp only
   rw[aY (dQ (by rw[nl];omega)),mz (show k<aa (dk m R) from hk)]
   simp only[ao,fU];rw[show cu (dk m R) k=some ((dk m R).getD k []) from getD_some [] hk]
   simp only[ao,bQ];rw[fk (fun q=>(((dk m R).getD k [],sm q (fun i=>((dk m R).getD k []).getD i 0),aC (aa (dk m R)),(k:Int),(dk m R).getD k [],aC (aa ((dk m R).getD k [])),(q:Int)),(m,R),((dk m R).take k).filter (sn m),dk m R)) (r:=Sum.inl ((ot ((dk m R).getD k []),(dk m R).getD k [],(k:Int),aC (aa (dk m R))),(m,R),((dk m R).take k).filter (sn m),dk m R)) ((dk m R).getD k []).length ?e1 ?e2 ?e3 (dY (by omega))]
   case e3=>rfl
   case e2=>
    dsimp only
    rw[bc (gD _)]
    try simp only[bQ,ao]
    rfl
   case e1=>
    intro q hq;have h1:=hb q (by omega);have h2:=hb (q+1) (by omega);simp only[sm] at h2;dsimp only
    rw[aY (dQ (by rw[nl];omega)),dg,getD_some (0:Int) hq];simp only[ao,bQ];rw[eK (by omega) (by omega),eK (by omega) (by omega)];rfl
   simp only[bV,Option.bind,bQ,ao];rw[H.Tm gX];simp only[ao];rw[akt (sn m) [] hk];by_cases hz:ot ((dk m R).getD k [])%m=0
   ·rw[aY (rH hz)];rw[show bo 0 1 (aa [(dk m R).getD k []])=some () from rfl]
    simp only[ao];rw[kD (by simp only[aG,aa,List.length_singleton];omega)];simp only[ao,rN,bQ];rw[eK (by omega) (by omega),show(k:Int)+1=((k+1:Nat):Int) by push_cast;rfl];rw[if_pos (show sn m ((dk m R).getD k [])=true from decide_eq_true hz)]
    rfl
   ·rw[bc (rG hz),if_neg (show¬sn m ((dk m R).getD k [])=true from fun h=>hz (of_decide_eq_true h)),List.append_nil]
    try simp only[ao,bQ]
    rw[eK (by omega) (by omega),show(k:Int)+1=((k+1:Nat):Int) by push_cast;rfl]
  simp only[bV,Option.bind,bQ,kY,ao]
 ·cases h
def nF (r:Rg) (t:T3) (R:List J) (ch:J):Bk:=(ch,t.1,bD R ch,mZ r t.2.2 (eA t.2.1 R ch) (bY (bD R ch)))
def ug (r:Rg) (t:T3) (c:fb):List Bk:=(cP c.1 c.2).map (nF r t c.2)
def B5:Rg×T3×fb×J->Option Bk:=fun x=>if jd x.1 x.2.1=true/\jP (x.2.1,x.2.2.1)=true/\mw x.2.2.1.2 x.2.2.2 then some (nF x.1 x.2.1 x.2.2.1.2 x.2.2.2) else none
def B6:Rg×T3×fb->Option (List Bk):=fun x=>if jd x.1 x.2.1=true/\jP x.2=true then some (ug x.1 x.2.1 x.2.2) else none
def xp:Rg×T3×fb->Option (List Bk×Bool):=fun x=>if CJ x then some (if vI x.1 x.2.1 x.2.2=true then(ug x.1 x.2.1 x.2.2,true) else([],false)) else none
def zp:Rg×T3×fb->Option (List Bk×Bool):=xp
def Jg:ak:=[(.agg,[.int .i64,.int .i64,.int .i64]),(.agg,[.list [.int .i64],.list [.int .i64],.list [.int .i64]]),(.agg,[.int .i64,.list [.list [.int .i64]]])]
def Un:ak:=[(.one,[.bool])]
def aoG:aM:=[]
def Ip:ak:=[(.agg,[.int .i64,.int .i64,.int .i64]),(.agg,[.list [.int .i64],.list [.int .i64],.list [.int .i64]]),(.agg,[.int .i64,.list [.list [.int .i64]]])]
def Tx:ak:=[(.one,[.bool])]
def anZ:aM:=[]
def JA:ak:=[(.agg,[.int .i64,.int .i64,.int .i64]),(.agg,[.list [.int .i64],.list [.int .i64],.list [.int .i64]]),(.agg,[.int .i64,.list [.list [.int .i64]]]),(.one,[.list [.int .i64]])]
def UI:ak:=[(.agg,[.list [.int .i64],.list [.int .i64],.list [.int .i64],.list [.int .i64]])]
def aoZ:aM:=[]
def JB:ak:=[(.agg,[.int .i64,.int .i64,.int .i64]),(.agg,[.list [.int .i64],.list [.int .i64],.list [.int .i64]]),(.agg,[.int .i64,.list [.list [.int .i64]]])]
def UJ:ak:=[(.one,[.list [.list [.int .i64],.list [.int .i64],.list [.int .i64],.list [.int .i64]]])]
def ao0:aM:=[]
def Jd:ak:=[(.agg,[.int .i64,.int .i64,.int .i64]),(.agg,[.list [.int .i64],.list [.int .i64],.list [.int .i64]]),(.agg,[.int .i64,.list [.list [.int .i64]]])]
def Uk:ak:=[(.one,[.list [.list [.int .i64],.list [.int .i64],.list [.int .i64],.list [.int .i64]]]),(.one,[.bool])]
def aoD:aM:=[]
def Il:ak:=[(.agg,[.int .i64,.int .i64,.int .i64]),(.agg,[.list [.int .i64],.list [.int .i64],.list [.int .i64]]),(.agg,[.int .i64,.list [.list [.int .i64]]])]
def Tv:ak:=[(.one,[.list [.list [.int .i64],.list [.int .i64],.list [.int .i64],.list [.int .i64]]]),(.one,[.bool])]
def anX:aM:=[]
def Oi (NN:Nat):((Int×(Int×Int))×((J×(J×J))×(Int×(List J))))->(Option Bool):=
 (fun(((i0,i1,i2),(l3,l4,l5),i6,l7):((Int×(Int×Int))×((J×(J×J))×(Int×(List J)))))=>
 (B0 ((i0,i1,i2),(l3,l4,l5),i6,l7)).ae (fun((l8,l9,ed),Cl)=>
 av (Cl)
 ((cX ed 0 (aa ed)).ae (fun fy=>
 (xw (fy,l5)).ae (fun zF=>
 some zF)))
 (some false)))
def NB (NN:Nat):((Int×(Int×Int))×((J×(J×J))×(Int×(List J))))->(Option Bool):=
 (fun(((i0,i1,i2),(l3,l4,l5),i6,l7):((Int×(Int×Int))×((J×(J×J))×(Int×(List J)))))=>
 (BG ((i0,i1,i2),l3,l4,l5)).ae (fun b8=>
 av (dN b8)
 (some false)
 ((BD ((l3,l4,l5),i6,l7)).ae (fun b9=>
 av (dN b9)
 (some false)
 ((BO (i0,i1,i2)).ae (fun ed=>
 bV (aA ed (
 ci NN (fun((fZ,(fH,f0,gB),(e8,iZ,eS),(n6,fj),fI):(Int×((Int×(Int×Int))×((J×(J×J))×((Int×(List J))×J)))))=>
 (zu iZ).ae (fun Ax=>
 av (bG fZ Ax)
 ((BL (iZ,fZ)).ae (fun e9=>
 (cX e9 0 (aa e9)).ae (fun ja=>
 (xm ((n6,fj),ja)).ae (fun gj=>
 (cX gj 0 (aa gj)).ae (fun fe=>
 (tP fe).ae (fun Az=>
 (mO Az n6).ae (fun mJ=>
 av (fq mJ (0:Int))
 ((tN ((fH,f0,gB),(e8,iZ,eS),fZ)).ae (fun iG=>
 (cX fI 0 (aa fI)).ae (fun ig=>
 (zr (iG,ig)).ae (fun OZ=>
 av (dN OZ)
 (some (Sum.inr (Sum.inr false)))
 (aA fI (
 some (Sum.inl (cC .i64 fZ 1,(fH,f0,gB),(e8,iZ,eS),(n6,fj),fI))))))))
 (aA fI (
 some (Sum.inl (cC .i64 fZ 1,(fH,f0,gB),(e8,iZ,eS),(n6,fj),fI)))))))))))
 (some (Sum.inr (Sum.inl ())))))
 ((0:Int),(i0,i1,i2),(l3,l4,l5),(i6,l7),ed)))
 (fun _=>
 some true)))))))
def OC (NN:Nat):((Int×(Int×Int))×((J×(J×J))×((Int×(List J))×J)))->(Option (J×(J×(J×J)))):=
 (fun(((i0,i1,i2),(l3,l4,l5),(i6,l7),l8):((Int×(Int×Int))×((J×(J×J))×((Int×(List J))×J))))=>
 (B8 ((i6,l7),l8)).ae (fun(l9,ed)=>
 (nC l3).ae (fun gi=>
 bV (aA l9 (
 aA ed (
 (bo 0 0 (aa (([]:J)))).ae (fun _=>
 (bo 0 0 (aa (([]:J)))).ae (fun _=>
 (bo 0 0 (aa (([]:J)))).ae (fun _=>
 (bo 0 0 (aa (([]:J)))).ae (fun _=>
 aA gi (
 aA ed (
 (bo 0 0 (aa (([]:J)))).ae (fun _=>
 ci NN (fun(((fy,f0),(gB,lT,lB),(eS,f8,fj),fI,jX,e9,ja,gj,fe,fJ,kK):((J×Int)×((Int×(Int×Int))×((J×(J×J))×(J×(J×(J×(J×(J×(J×(J×(List J))))))))))))=>
 (cX fe 0 (aa fe)).ae (fun iG=>
 (rq (iG,(4096:Int))).ae (fun wG=>
 av (bG f0 wG)
 ((cX fe 0 (aa fe)).ae (fun jF=>
 (vn (jF,f0)).ae (fun kq=>
 (cX kK 0 (aa kK)).ae (fun kt=>
 (cX kq 0 (aa kq)).ae (fun iH=>
 (B4 (kt,iH)).ae (fun lC=>
 (cX lC 0 (aa lC)).ae (fun np=>
 (xv (f8,np)).ae (fun i36=>
 (vm ((gB,lT,lB),(eS,f8,fj),i36)).ae (fun nq=>
 aA fJ (
 (cX nq 0 (aa nq)).ae (fun tq=>
 (jR (aG (aa fJ) (aa tq)) 8).ae (fun _=>
 aA kK (
 aA fe (
 aA fI (
 aA jX (
 aA e9 (
 aA ja (
 aA gj (
 aA fe (
 (bo 0 (aG (aa fJ) (aa tq)) (aa (dF fJ tq))).ae (fun _=>
 some (Sum.inl ((fy,cC .i64 f0 1),(gB,lT,lB),(eS,f8,fj),fI,jX,e9,ja,gj,fe,dF fJ tq,kK)))))))))))))))))))))))
 ((aA fI (
 aA jX (
 aA e9 (
 aA ja (
 aA gj (
 aA fe (
 aA fJ (
 some (Sum.inl (fy,fI,jX,e9,ja,gj,fe,fJ)))))))))).ae (fun yB=>
 some (Sum.inr yB))))))
 ((l8,(0:Int)),(i0,i1,i2),(l3,l4,l5),([]:J),([]:J),([]:J),([]:J),gi,ed,([]:J),l9)))))))))))
 (fun(uS,qO,n7,tr,yC,pM,lU,ku)=>
 (nC uS).ae (fun kL=>
 (dP kL (aa kL)).ae (fun tt=>
 (dP pM (aa pM)).ae (fun l50=>
 (dP lU (aa lU)).ae (fun tu=>
 (dP ku (aa ku)).ae (fun sb=>
 some (tt,l50,tu,sb))))))))))
def OD (NN:Nat):((Int×(Int×Int))×((J×(J×J))×(Int×(List J))))->(Option (List (J×(J×(J×J))))):=
 (fun(((i0,i1,i2),(l3,l4,l5),i6,l7):((Int×(Int×Int))×((J×(J×J))×(Int×(List J)))))=>
 (B7 (i6,l7)).ae (fun l8=>
 bV ((bo 0 0 (aa (([]:List (J×(J×(J×J))))))).ae (fun _=>
 ci NN (fun(((l9,jD,fZ),(fH,f0,gB),(e8,iZ,eS),(n6,fj),fI):(((List J)×(Int×Int))×((Int×(Int×Int))×((J×(J×J))×((Int×(List J))×(List (J×(J×(J×J)))))))))=>
 av (bG fZ jD)
 ((cM l9 fZ).ae (fun jX=>
 (B5 ((fH,f0,gB),(e8,iZ,eS),(n6,fj),jX)).ae (fun(e9,ja,gj,fe)=>
 (dP e9 (aa e9)).ae (fun fJ=>
 (dP ja (aa ja)).ae (fun kK=>
 (dP gj (aa gj)).ae (fun iG=>
 (dP fe (aa fe)).ae (fun ig=>
 aA fI (
 (bo 0 1 (aa (((fJ,kK,iG,ig)::([]:List (J×(J×(J×J)))))))).ae (fun _=>
 (jR (aG (aa fI) (aa (((fJ,kK,iG,ig)::([]:List (J×(J×(J×J)))))))) 96).ae (fun _=>
 (bo 0 (aG (aa fI) (aa (((fJ,kK,iG,ig)::([]:List (J×(J×(J×J)))))))) (aa (dF fI (((fJ,kK,iG,ig)::([]:List (J×(J×(J×J))))))))).ae (fun _=>
 some (Sum.inl ((l9,jD,cC .i64 fZ 1),(fH,f0,gB),(e8,iZ,eS),(n6,fj),dF fI (((fJ,kK,iG,ig)::([]:List (J×(J×(J×J)))))))))))))))))))
 ((aA fI (
 some (Sum.inl fI))).ae (fun jF=>
 some (Sum.inr jF))))
 ((l8,aC (aa l8),(0:Int)),(i0,i1,i2),(l3,l4,l5),(i6,l7),([]:List (J×(J×(J×J)))))))
 (fun kq=>
 (dP kq (aa kq)).ae (fun kt=>
 some kt))))
def Of (NN:Nat):((Int×(Int×Int))×((J×(J×J))×(Int×(List J))))->(Option ((List (J×(J×(J×J))))×Bool)):=
 (fun(((i0,i1,i2),(l3,l4,l5),i6,l7):((Int×(Int×Int))×((J×(J×J))×(Int×(List J)))))=>
 (xr ((i0,i1,i2),(l3,l4,l5),i6,l7)).ae (fun b8=>
 av (dN b8)
 (some (([]:List (J×(J×(J×J)))),false))
 ((B6 ((i0,i1,i2),(l3,l4,l5),i6,l7)).ae (fun l9=>
 (dP l9 (aa l9)).ae (fun ed=>
 some (ed,true))))))
def Nz (NN:Nat):((Int×(Int×Int))×((J×(J×J))×(Int×(List J))))->(Option ((List (J×(J×(J×J))))×Bool)):=
 (fun(((i0,i1,i2),(l3,l4,l5),i6,l7):((Int×(Int×Int))×((J×(J×J))×(Int×(List J)))))=>
 (BE ((i0,i1,i2),(l3,l4,l5),i6,l7)).ae (fun b8=>
 av (dN b8)
 (some (([]:List (J×(J×(J×J)))),false))
 ((BH ((l3,l4,l5),i6,l7)).ae (fun l9=>
 bV (aA l9 (
 aA l9 (
 ci NN (fun(((jD,fZ),(fH,f0,gB),(e8,iZ,eS),(n6,fj),fI):((Int×Int)×((Int×(Int×Int))×((J×(J×J))×((Int×(List J))×(List (J×(J×(J×J)))))))))=>
 av (bG fZ jD)
 (bV ((eX fZ (aa fI)).ae (fun GI=>
 (cu fI (aG 0 GI)).ae (fun(e9,ja,gj,fe)=>
 (cu fI (aG 0 GI)).ae (fun(fJ,kK,iG,ig)=>
 (cu fI (aG 0 GI)).ae (fun(jF,kq,kt,iH)=>
 (cu fI (aG 0 GI)).ae (fun(lC,np,jG,nq)=>
 (cu fI (aG 0 GI)).ae (fun(tq,yB,uS,qO)=>
 (BJ ((e8,iZ,eS),(n6,fj),fJ,kq,jG,qO)).ae (fun n7=>
 aA fI (
 aA fI (
 aA n7 (
 ci NN (fun(((Gt,Dw,Dx,i46,RD),(RE,RF,yr),(tu,sb,wH),(Lc,tv),n8,qP):((Int×(Int×(Int×(Int×Int))))×((Int×(Int×Int))×((J×(J×J))×((Int×(List J))×((List (J×(J×(J×J))))×J))))))=>
 av (bG RD i46)
 ((eX RD (aa qP)).ae (fun k58=>
 (cu qP (aG 0 k58)).ae (fun Gv=>
 (eX Gt (aa n8)).ae (fun k60=>
 (cu n8 (aG 0 k60)).ae (fun(nt,mL,yD,GQ)=>
 (tN ((RE,RF,yr),(tu,sb,wH),Gv)).ae (fun uT=>
 (eX Gt (aa n8)).ae (fun GK=>
 (j6 (aG 0 k60) (aG 0 GK)).ae (fun _=>
 (cu n8 (aG 0 GK)).ae (fun(AP,Sg,AQ,pN)=>
 (jR (aG (aa pN) (aa uT)) 8).ae (fun _=>
 (bo 0 (aa n8) (aa (bS n8 (aG 0 GK) (AP,Sg,AQ,dF pN uT)))).ae (fun _=>
 (bo 0 (aa n8) (aa (bS n8 (aG 0 GK) (AP,Sg,AQ,dF pN uT)))).ae (fun _=>
 aA qP (
 some (Sum.inl ((Gt,Dw,Dx,i46,cC .i64 RD 1),(RE,RF,yr),(tu,sb,wH),(Lc,tv),bS n8 (aG 0 GK) (AP,Sg,AQ,dF pN uT),qP)))))))))))))))
 ((aA n8 (
 aA n8 (
 some (Sum.inl ((Dx,Dw),(RE,RF,yr),(tu,sb,wH),(Lc,tv),n8))))).ae (fun qQ=>
 some (Sum.inr qQ))))
 ((fZ,jD,fZ,aC (aa n7),(0:Int)),(fH,f0,gB),(e8,iZ,eS),(n6,fj),fI,n7))))))))))))
 (fun((i72,i73),(i74,DA,DB),(AR,nu,tw),(Gw,qR),yE)=>
 aA yE (
 aA yE (
 some (Sum.inl ((i73,cC .i64 i72 1),(i74,DA,DB),(AR,nu,tw),(Gw,qR),yE))))))
 ((aA fI (
 some (Sum.inl fI))).ae (fun yF=>
 some (Sum.inr yF))))
 ((aC (aa l9),(0:Int)),(i0,i1,i2),(l3,l4,l5),(i6,l7),l9))))
 (fun n9=>
 (dP n9 (aa n9)).ae (fun Ly=>
 some (Ly,true)))))))
theorem aj2 (x:Rg×T3×fb) (y:Bool) (h:xr x=some y):Oi aL x=some y:=by
 obtain⟨⟨k,p,m⟩,⟨L,D,A⟩,cm,R⟩:=x;simp only[xr] at h;split at h
 ·rename_i nU;rw[<-h];simp only[Oi];rw[show B0 ((k,p,m),(L,D,A),cm,R)=some (Ft (k,p,m) (L,D,A) (cm,R)) from if_pos nU]
  unfold Ft vI;by_cases hg:jd (k,p,m) (L,D,A)=true/\jP ((L,D,A),cm,R)=true
  ·rw[if_pos hg];obtain⟨hr,_,_,⟨lP,lz⟩,hA,_,_,_,_⟩:=zi hg.1;have hlen:=Fs (D:=D) (c:=(cm,R)) hr hA (bY D) (Nat.le_refl _);simp only[ao];rw[aY (by rfl),kY];simp only[ao];rw[show xw (jh (k,p,m) D (cm,R) A (bY D),A)=some (decide (jh (k,p,m) D (cm,R) A (bY D)=A)) from if_pos ⟨by rw[hlen];exact nU.1.2.2,nU.1.2.2⟩]
   simp only[ao];congr 1;exact decide_eq_decide.2 ⟨fun e=>⟨hg.1,hg.2,e⟩,fun e=>e.2.2⟩
  ·rw[if_neg hg];simp only[ao];rw[bc (by rfl)];congr 1;exact(decide_eq_false fun e=>hg ⟨e.1,e.2.1⟩).symm
 ·cases h
theorem aji (x:Rg×T3×fb) (y:Bool) (h:BE x=some y):NB aL x=some y:=by
  obtain⟨⟨k,p,m⟩,⟨L,D,A⟩,cm,R⟩:=x;simp only[BE,xr] at h;split at h
  · rename_i nU;rw[<-h];have QF:=nU.2;obtain⟨⟨l1,l2,l3⟩,_⟩:=nU;dsimp only at l1 l2 l3;unfold vI;simp only[NB,aA];rw[show BG ((k,p,m),L,D,A)=some (jd (k,p,m) (L,D,A)) from if_pos ⟨l1,l2,l3⟩]
    simp only[ao];cases ht:jd (k,p,m) (L,D,A) with
    |false=>rw[aY (b:=dN false) rfl];simp
    |true=>
     rw[bc (b:=dN true) rfl,show BD ((L,D,A),cm,R)=some (jP ((L,D,A),cm,R)) from if_pos QF]
     simp only[ao];cases gX:jP ((L,D,A),cm,R) with
     |false=>rw[aY (b:=dN false) rfl];simp
     |true=>
      rw[bc (b:=dN true) rfl];obtain⟨hr,⟨hl,hd⟩,tp,⟨lP,lz⟩,hA,hD,gF,KZ,_⟩:=zi ht;have hw:=pi hr;have hzl:=EO hr;rw[show BO (k,p,m)=some (jq (k,p,m)) from if_pos hr]
      simp only[ao,bQ];have aah:zu D=some ((bY D:Nat):Int):=by
        rw[<-KZ];exact if_pos ⟨hl,hd⟩
      let q:Nat->Bool:=fun n=> !(uf D (cm,R) n&&decide (f9 A (n*aR (k,p,m)) (aR (k,p,m))≠jq (k,p,m)));have qF:∀n,n<bY D->(zu D).ae (fun(Ax:Int)=>
                    av (bG (n:Int) Ax)
                      ((BL (D,(n:Int))).ae (fun(e9:J)=>
                        (cX e9 0 (aa e9)).ae (fun(ja:J)=>
                          (xm ((cm,R),ja)).ae (fun(gj:J)=>
                            (cX gj 0 (aa gj)).ae (fun(fe:J)=>
                              (tP fe).ae (fun(Az:Int)=>
                                (mO Az cm).ae (fun(mJ:Int)=>
                                  av (fq mJ (0:Int))
                                    ((tN ((k,p,m),(L,D,A),(n:Int))).ae (fun(iG:J)=>
                                      (cX (jq (k,p,m)) 0 (aa (jq (k,p,m)))).ae (fun(ig:J)=>
                                        (zr (iG,ig)).ae (fun(OZ:Bool)=>
                                          av (dN OZ)
                                            (some (Sum.inr (Sum.inr false)))
                                            (some (Sum.inl (cC .i64 (n:Int) (1:Int),(k,p,m),(L,D,A),(cm,R),jq (k,p,m))))))))
                                    (some (Sum.inl (cC .i64 (n:Int) (1:Int),(k,p,m),(L,D,A),(cm,R),jq (k,p,m)))))))))))
                      (some (Sum.inr (Sum.inl ()))))=if q n=true then some (Sum.inl (((n+1:Nat):Int),(k,p,m),(L,D,A),(cm,R),jq (k,p,m))) else some (Sum.inr (Sum.inr false):((Int×(Rg×(T3×(fb×J))))⊕(Unit⊕Bool))):=by
        intro n hn;have hm:(n+1)*aR (k,p,m)<=bY D*aR (k,p,m):=Nat.mul_le_mul_right _ hn;have As:=agh ht gX n;have lx:(aK D n).length=D.length:=fQ _ _;have FW:=JR As (aK D n).length (Nat.le_refl _);have fM:=As.1;dsimp only at fM;rw[aah];simp only[ao];rw[aY (dQ (by omega)),show BL (D,(n:Int))=some (aK D n) from if_pos ⟨hD,by dsimp only;omega,by dsimp only;omega⟩]
        simp only[ao,kY];rw[show xm ((cm,R),aK D n)=some (dq D.length (iu R (aK D n))) by
          rw[show xm ((cm,R),aK D n)=_ from if_pos As]
          dsimp only
          rw[lx]]
        simp only[ao,kY];have Rh:sm D.length (fun i=>(dq D.length (iu R (aK D n))).getD i 0)=sm D.length (iu R (aK D n)):=Eo fun i hi=>by
          rw[List.getD_eq_getElem?_getD,vc _ hi];rfl
        rw[show tP (dq D.length (iu R (aK D n)))=some (sm D.length (iu R (aK D n))) by
          rw[show tP (dq D.length (iu R (aK D n)))=_ from if_pos ⟨by rw[fQ];exact hl,fun v hv=>by
            obtain⟨i,hi,rfl⟩:=List.mem_map.1 hv;exact(As.2.2 i (by dsimp only;rw[lx];exact List.mem_range.1 hi)).2.2⟩]
          rw[fQ,Rh]]
        simp only[ao];rw[lx] at FW;rw[adI FW.1 (by omega)];simp only[ao];rw[eK (by omega) (by omega)];by_cases hb:uf D (cm,R) n=true
        · have aJ:=of_decide_eq_true hb;rw[aY (show fq _ 0=true from bne_iff_ne.2 aJ),show tN ((k,p,m),(L,D,A),(n:Int))=some (f9 A (n*aR (k,p,m)) (aR (k,p,m))) by
            rw[show tN ((k,p,m),(L,D,A),(n:Int))=_ from if_pos ⟨hr,by dsimp only;omega,by dsimp only;rw[Int.toNat_natCast];omega,l3⟩]
            rfl]
          simp only[ao];rw[show zr (f9 A (n*aR (k,p,m)) (aR (k,p,m)),jq (k,p,m))=some (decide (f9 A (n*aR (k,p,m)) (aR (k,p,m))=jq (k,p,m))) from if_pos ⟨by
            have:(f9 A (n*aR (k,p,m)) (aR (k,p,m))).length<=aR (k,p,m):=by unfold f9;rw[List.length_take];omega
            dsimp only;omega,by dsimp only;omega⟩]
          simp only[ao];by_cases he:f9 A (n*aR (k,p,m)) (aR (k,p,m))=jq (k,p,m)
          · rw[decide_eq_true he,bc SL,if_pos (by simp[q,he])];rfl
          · rw[decide_eq_false he,aY (b:=dN false) rfl,if_neg (by simp[q,he,hb])]
        · have aJ:sm D.length (iu R (aK D n))%cm=0:=Classical.byContradiction fun h=>hb (decide_eq_true h);rw[aJ,bc (by rfl),if_pos (by simp[q,hb])];rfl
      rw[AZ (List.range (bY D)) (fun i=>((i:Int),(k,p,m),(L,D,A),(cm,R),jq (k,p,m))) q (.inr false) (.inl ()) ?b1 ?b2 ?b3 ?b0 (dY (by rw[List.length_range];omega))]
      case b0=>rfl
      case b1=>
        intro i a ha hq;have hi:=yI ha;rw[List.length_range] at hi;have:a=i:=by rw[List.getElem?_range hi] at ha;injection ha with ha;exact ha.symm
        subst this;dsimp only
        exact(qF a hi).trans (if_pos hq)
      case b2=>
        intro i a ha hq;have hi:=yI ha;rw[List.length_range] at hi;have:a=i:=by rw[List.getElem?_range hi] at ha;injection ha with ha;exact ha.symm
        subst this;dsimp only
        exact(qF a hi).trans (if_neg (by rw[hq];simp))
      case b3=>
        dsimp only
        rw[aah,List.length_range];simp only[ao];rw[bc (eJ (by omega))]
      have Dj:=ah0 (D:=D) (c:=(cm,R)) hr hA;by_cases hq:(List.range (bY D)).all q=true
      · rw[if_pos hq];simp only[bV,Option.bind];have:jh (k,p,m) D (cm,R) A (bY D)=A:=Dj.2 fun n hn hb=>by
          have:=List.all_eq_true.1 hq n (List.mem_range.2 hn);simp only[q,hb,Bool.true_and,Bool.not_eq_true',decide_eq_false_iff_not] at this;exact Classical.byContradiction fun h=>this h
        rw[this];simp
      · rw[if_neg hq];simp only[bV,Option.bind];have:¬jh (k,p,m) D (cm,R) A (bY D)=A:=fun e=>hq (List.all_eq_true.2 fun n hn=>by
          have h1:=Dj.1 e n (List.mem_range.1 hn);cases hb:uf D (cm,R) n with
          |false=>simp[q,hb]
          |true=>simp[q,hb,h1 hb])
        simp[this]
  · cases h
theorem arZ {B:J} (hl:B.length<=12) (hb:∀x∈B,1<=x/\x<=8) (hp:bY B<=4096):rq (B,4096)=some ((bY B:Nat):Int):=by
 have hI:=He (D:=B) fun x hx=>(hb x hx).1;have e:zG 4096 B=(bY B:Int):=by
  unfold zG;rw[JO (by decide) _ 0 1 (fun x hx=>(hb x hx).1) (by decide) (by decide),Int.one_mul,hI,Int.min_eq_left (by omega)]
 rw[<-e];exact if_pos ⟨by decide,by omega,List.all_eq_true.2 fun v hv=>by have:=hb v hv;exact decide_eq_true (by omega)⟩
theorem JP (r:Rg) (A:J) (off:Nat->Nat):∀n,(mZ r A off n).length<=n*aR r
 |0=>by simp[mZ]
 |n+1=>by
  have ih:=JP r A off n;rw[mZ,List.length_append,Nat.add_mul,Nat.one_mul];have:(f9 A (off n*aR r) (aR r)).length<=aR r:=by unfold f9;rw[List.length_take];omega
  omega
theorem ZG {r:Rg} {L D A:J} (ht:jd r (L,D,A)=true) {o:Nat} (ho:o<bY D):vm (r,(L,D,A),(o:Int))=some (f9 A (o*aR r) (aR r)):=by
 obtain⟨hr,_,_,⟨lP,lz⟩,hA,_,_,_,_⟩:=zi ht;have hw:=pi hr;have hm:(o+1)*aR r<=bY D*aR r:=Nat.mul_le_mul_right _ ho;have gR:bY D*aR r<=4096*6:=Nat.mul_le_mul lz hw.2.2;have:=show vm (r,(L,D,A),(o:Int))=_ from if_pos ⟨hr,by dsimp only;omega,by dsimp only;rw[Int.toNat_natCast];omega,by dsimp only;omega⟩
 rw[this];simp only[Int.toNat_natCast]
theorem anH {D:J} {m:Int} {R:List J} (H:fT D m R) {ch:J} (cW:mw R ch):B8 ((m,R),ch)=some (iy R ch,bD R ch):=by
 have r7:=H.rl;have hl:=H.fy;have cv:=cW.1;refine if_pos ⟨by dsimp only;omega,by dsimp only;omega,fun l hl=>?_⟩;have:=(Nv H).2.2.2.1 l hl;exact this.1.2
theorem akl (x:Rg×T3×fb×J) (y:Bk) (h:B5 x=some y):OC aL x=some y:=by
 obtain⟨⟨k,p,w⟩,⟨L,D,A⟩,⟨m,R⟩,ch⟩:=x;simp only[B5] at h;split at h
 ·rename_i hc;obtain⟨ht,hk,cW⟩:=hc
  try dsimp only at ht hk cW
  rw[<-h];have H:=CB hk;have B:=H.blk cW;obtain⟨hr,⟨hl,hd⟩,tp,⟨lP,lz⟩,hA,hD,gF,KZ,_⟩:=zi ht;have hw:=pi hr;have FY:=B.bl;have cv:=B.cl;have Q7:=B.pD;have ZU:=B.p1;have hLl:L.length<=12:=by
   simp only[jP,Bool.and_eq_true,decide_eq_true_eq] at hk;by_cases ha:oD L D=true/\eo D<=4096
   ·exact(vB ha.1).1
   ·have e:fS L D= -1:=if_neg ha;rw[e] at hk;exact absurd hk.1 (by decide)
  have ZM:rq (bD R ch,4096)=some ((bY (bD R ch):Nat):Int):=arZ (by omega) B.b8 (by omega);simp only[OC,aA];rw[anH H cW];simp only[ao];rw[show nC L=some L from if_pos (by omega)]
  simp only[ao,bQ];rw[show bo 0 0 (aa ([]:J))=some () from rfl]
  simp only[ao];rw[fk (fun n=>((ch,(n:Int)),(k,p,w),(L,D,A),([]:J),([]:J),([]:J),([]:J),L,bD R ch,mZ (k,p,w) A (eA D R ch) n,iy R ch)) (r:=Sum.inl (ch,([]:J),([]:J),([]:J),([]:J),L,bD R ch,mZ (k,p,w) A (eA D R ch) (bY (bD R ch)))) (bY (bD R ch)) ?a1 ?a2 ?a3 (dY (by omega))]
  case a3=>rfl
  case a2=>
   dsimp only
   simp only[kY,ao];rw[ZM];simp only[ao];rw[bc (eJ (by omega))]
   try simp only[bQ,ao]
  case a1=>
   intro n hn;have x4:=JP (k,p,w) A (eA D R ch) n;have gR:n*aR (k,p,w)<=4096*6:=Nat.mul_le_mul (by omega) hw.2.2;have iF:(f9 A (eA D R ch n*aR (k,p,w)) (aR (k,p,w))).length<=aR (k,p,w):=by unfold f9;rw[List.length_take];omega
   dsimp only
   simp only[kY,ao];rw[ZM];simp only[ao];rw[aY (dQ (by omega)),show vn (bD R ch,(n:Int))=some (aK (bD R ch) n) from if_pos ⟨B.g,by dsimp only;omega,by dsimp only;omega⟩]
   simp only[ao,kY];rw[show B4 (iy R ch,aK (bD R ch) n)=some (ph R ch n) from if_pos (H.at cW n)]
   simp only[ao,kY];rw[show xv (D,ph R ch n)=some ((eA D R ch n:Nat):Int) from H.SQ cW n]
   simp only[ao];rw[ZG ht (H.SR cW n)];simp only[ao,bQ,kY];rw[kD (by simp only[aG,aa,dR];omega)];simp only[ao];rw[show bo 0 (aG (aa (mZ (k,p,w) A (eA D R ch) n)) (aa (f9 A (eA D R ch n*aR (k,p,w)) (aR (k,p,w))))) (aa (dF (mZ (k,p,w) A (eA D R ch) n) (f9 A (eA D R ch n*aR (k,p,w)) (aR (k,p,w)))))=some () from xX (by simp[aG,aa,dF])]
   simp only[ao,bQ];rw[eK (by omega) (by omega)];rfl
  simp only[bV,Option.bind];rw[show nC ch=some ch from if_pos (by omega)]
  simp only[ao,io];rfl
 ·cases h
theorem Pj {m:Int} {D:J} {R:List J} (H:fT D m R) {ch:J} (h:ch∈cP m R):mw R ch:=by
 obtain⟨n,e⟩:=OS (List.mem_filter.1 h).1;rw[e];exact H.pick n
theorem Pk {m:Int} {D:J} {R:List J} (H:fT D m R):(cP m R).length<=4096:=by
 have h1:(cP m R).length<=(dk m R).length:=List.length_filter_le _ _;have h2:=H.pd.pD;have h3:=H.p4;rw[<-Kf m R.length R rfl,tc] at h1;omega
theorem anN {α β:Type} (g:α->β) {l:List α} {i:Nat} (d:α) (h:i<l.length):(l.take (i+1)).map g=(l.take i).map g++[g (l.getD i d)]:=by rw[HW d h,List.map_append];rfl
theorem akm (x:Rg×T3×fb) (y:List Bk) (h:B6 x=some y):OD aL x=some y:=by
 obtain⟨⟨k,p,w⟩,⟨L,D,A⟩,⟨m,R⟩⟩:=x;simp only[B6] at h;split at h
 ·rename_i hc;obtain⟨ht,hk⟩:=hc;rw[<-h];have H:=CB hk;have QX:=Pk H;simp only[OD,aA];rw[show B7 (m,R)=some (cP m R) from if_pos (Nv H).2]
  simp only[ao];rw[show bo 0 0 (aa ([]:List (J×J×J×J)))=some () from rfl]
  simp only[ao];rw[fk (fun i=>((cP m R,aC (aa (cP m R)),(i:Int)),(k,p,w),(L,D,A),(m,R),((cP m R).take i).map (nF (k,p,w) (L,D,A) R))) (r:=Sum.inl (ug (k,p,w) (L,D,A) (m,R))) (cP m R).length ?a1 ?a2 ?a3 (dY (by omega))]
  case a3=>rfl
  case a2=>
   dsimp only
   rw[bc (gD _)];simp only[bQ,ao];rw[List.take_length];rfl
  case a1=>
   intro i hi;have cW:=Pj H (List.mem_of_getElem? (getD_some [] hi));dsimp only
   rw[aY (dQ (by rw[nl];omega)),dg,getD_some ([]:J) hi];simp only[ao];rw[show B5 ((k,p,w),(L,D,A),(m,R),(cP m R).getD i [])=some (nF (k,p,w) (L,D,A) R ((cP m R).getD i [])) from if_pos ⟨ht,hk,cW⟩]
   unfold nF;simp only[ao,io,bQ];rw[show bo 0 1 (aa [((cP m R).getD i [],L,bD R ((cP m R).getD i []),mZ (k,p,w) A (eA D R ((cP m R).getD i [])) (bY (bD R ((cP m R).getD i []))))])=some () from rfl]
   simp only[ao];rw[kD (by simp only[aG,aa,List.length_singleton,List.length_map,List.length_take,dR];omega)];simp only[ao,rN];rw[eK (by omega) (by omega),anN _ [] hi];rfl
  simp only[bV,Option.bind,io,ao]
 ·cases h
theorem ajZ (x:Rg×T3×fb) (y:List Bk×Bool) (h:xp x=some y):Of aL x=some y:=by
 obtain⟨⟨k,p,w⟩,⟨L,D,A⟩,⟨m,R⟩⟩:=x;simp only[xp] at h;split at h
 ·rename_i hc;rw[<-h];simp only[Of];rw[show xr ((k,p,w),(L,D,A),m,R)=some (vI (k,p,w) (L,D,A) (m,R)) from if_pos hc]
  simp only[ao];cases hb:vI (k,p,w) (L,D,A) (m,R) with
  |false=>rw[aY (b:=dN false) rfl,if_neg (by simp)]
  |true=>
   have hg:=of_decide_eq_true hb;rw[bc (b:=dN true) rfl,if_pos rfl,show B6 ((k,p,w),(L,D,A),m,R)=some (ug (k,p,w) (L,D,A) (m,R)) from if_pos ⟨hg.1,hg.2.1⟩]
   simp only[ao,io]
 ·cases h
def sW (r:Rg) (L D A:J) (m:Int) (R:List J) (i j q:Nat):Bk:=
 if q<i then nF r (L,D,A) R ((cP m R).getD q []) else if q=i then((cP m R).getD i [],L,bD R ((cP m R).getD i []),mZ r A (eA D R ((cP m R).getD i [])) j) else nw L R ((cP m R).getD q [])
theorem ahu {r:Rg} {L D A:J} {m:Int} {R:List J} {i j n:Nat}:
  bS (gL n (sW r L D A m R i j)) i ((cP m R).getD i [],L,bD R ((cP m R).getD i []),mZ r A (eA D R ((cP m R).getD i [])) (j+1))=gL n (sW r L D A m R i (j+1)):=by
 rw[Qp];refine pA fun q _=>?_;by_cases e:q=i
 ·subst e;unfold sW;rw[if_pos rfl,if_neg (by omega),if_pos rfl]
 ·unfold sW;rw[if_neg e];by_cases h:q<i
  ·rw[if_pos h,if_pos h]
  ·rw[if_neg h,if_neg h,if_neg e,if_neg e]
theorem ahs {r:Rg} {L D A:J} {m:Int} {R:List J} {i n:Nat}:
  gL n (fun q=>if q<i then nF r (L,D,A) R ((cP m R).getD q []) else nw L R ((cP m R).getD q []))=gL n (sW r L D A m R i 0):=pA fun q _=>by
 unfold sW;by_cases h:q<i
 ·rw[if_pos h,if_pos h]
 ·rw[if_neg h,if_neg h];by_cases e:q=i
  ·subst e;rw[if_pos rfl];rfl
  ·rw[if_neg e]
theorem aht {r:Rg} {L D A:J} {m:Int} {R:List J} {i n:Nat}:
  gL n (sW r L D A m R i (bY (bD R ((cP m R).getD i []))))=gL n (fun q=>if q<i+1 then nF r (L,D,A) R ((cP m R).getD q []) else nw L R ((cP m R).getD q [])):=pA fun q _=>by
 unfold sW;by_cases h:q<i
 ·rw[if_pos h,if_pos (by omega)]
 ·rw[if_neg h];by_cases e:q=i
  ·subst e;rw[if_pos rfl,if_pos (by omega)];rfl
  ·rw[if_neg e,if_neg (by omega)]
theorem WO (r:Rg) (L D A:J) (m:Int) (R:List J) (i j:Nat):sW r L D A m R i j i=((cP m R).getD i [],L,bD R ((cP m R).getD i []),mZ r A (eA D R ((cP m R).getD i [])) j):=by
 unfold sW;rw[if_neg (by omega),if_pos rfl]
theorem ajg (x:Rg×T3×fb) (y:List Bk×Bool) (h:zp x=some y):Nz aL x=some y:=by
 obtain⟨⟨k,p,w⟩,⟨L,D,A⟩,⟨m,R⟩⟩:=x;simp only[zp,xp] at h;split at h
 ·rename_i hc;rw[<-h];simp only[Nz,aA];rw[show BE ((k,p,w),(L,D,A),m,R)=some (vI (k,p,w) (L,D,A) (m,R)) from if_pos hc]
  simp only[ao];cases hb:vI (k,p,w) (L,D,A) (m,R) with
  |false=>rw[aY (b:=dN false) rfl,if_neg (by simp)]
  |true=>
   have hg:=of_decide_eq_true hb;have ht:=hg.1;have hk:=hg.2.1;have H:=CB hk;have QX:=Pk H;obtain⟨hr,⟨hl,hd⟩,tp,⟨lP,lz⟩,hA,hD,gF,KZ,_⟩:=zi ht;have hw:=pi hr;rw[bc (b:=dN true) rfl,if_pos rfl,show BH ((L,D,A),m,R)=some ((cP m R).map (nw L R)) from if_pos hk]
   simp only[ao,bQ];rw[fk (fun i=>((aC (aa ((cP m R).map (nw L R))),(i:Int)),(k,p,w),(L,D,A),(m,R),gL (cP m R).length (fun q=>if q<i then nF (k,p,w) (L,D,A) R ((cP m R).getD q []) else nw L R ((cP m R).getD q [])))) (r:=Sum.inl (ug (k,p,w) (L,D,A) (m,R))) (cP m R).length ?a1 ?a2 ?a3 (dY (by omega))]
   case a3=>
    rw[show(cP m R).map (nw L R)=gL (cP m R).length (fun q=>if q<0 then nF (k,p,w) (L,D,A) R ((cP m R).getD q []) else nw L R ((cP m R).getD q [])) by
     rw[<-KA (nw L R) (cP m R) []];exact pA fun q _=>by rw[if_neg (by omega)]]
    rfl
   case a2=>
    dsimp only
    rw[bc (eJ (by rw[nl,List.length_map];omega))]
    try simp only[bQ,ao]
    rw[show gL (cP m R).length (fun q=>if q<(cP m R).length then nF (k,p,w) (L,D,A) R ((cP m R).getD q []) else nw L R ((cP m R).getD q []))=ug (k,p,w) (L,D,A) (m,R) by
     unfold ug;rw[<-KA (nF (k,p,w) (L,D,A) R) (cP m R) []];exact pA fun q hq=>by rw[if_pos hq]]
   case a1=>
    intro i hi;have cW:=Pj H (List.mem_of_getElem? (getD_some [] hi));have B:=H.blk cW;have Q7:=B.pD;dsimp only
    rw[aY (dQ (by rw[nl,List.length_map];omega)),ahs,rA _ hi];simp only[ao,fU];rw[rO _ hi,WO];simp only[ao];rw[show BJ ((L,D,A),(m,R),(cP m R).getD i [],L,bD R ((cP m R).getD i []),mZ (k,p,w) A (eA D R ((cP m R).getD i [])) 0)=some (dq (bY (bD R ((cP m R).getD i []))) fun n=>(eA D R ((cP m R).getD i []) n:Int)) from if_pos ⟨hk,cW,rfl⟩]
    simp only[ao,bQ];rw[fk (fun j=>(((i:Int),aC (aa ((cP m R).map (nw L R))),(i:Int),aC (aa (dq (bY (bD R ((cP m R).getD i []))) fun n=>(eA D R ((cP m R).getD i []) n:Int))),(j:Int)),(k,p,w),(L,D,A),(m,R),gL (cP m R).length (sW (k,p,w) L D A m R i j),dq (bY (bD R ((cP m R).getD i []))) fun n=>(eA D R ((cP m R).getD i []) n:Int))) (r:=Sum.inl (((i:Int),aC (aa ((cP m R).map (nw L R)))),(k,p,w),(L,D,A),(m,R),gL (cP m R).length (fun q=>if q<i+1 then nF (k,p,w) (L,D,A) R ((cP m R).getD q []) else nw L R ((cP m R).getD q [])))) (bY (bD R ((cP m R).getD i []))) ?b1 ?b2 ?b3 (dY (by omega))]
    case b3=>rfl
    case b2=>
     dsimp only
     rw[bc (eJ (by rw[nl,fQ];omega))]
     try simp only[bQ,ao]
     rw[aht]
    case b1=>
     intro j hj;have x4:=JP (k,p,w) A (eA D R ((cP m R).getD i [])) j;have gR:j*aR (k,p,w)<=4096*6:=Nat.mul_le_mul (by omega) hw.2.2;have iF:(f9 A (eA D R ((cP m R).getD i []) j*aR (k,p,w)) (aR (k,p,w))).length<=aR (k,p,w):=by unfold f9;rw[List.length_take];omega
     dsimp only
     rw[aY (dQ (by rw[nl,fQ];omega)),Pn _ hj];simp only[ao,fU];rw[KB _ hj];simp only[ao];rw[rA _ hi];simp only[ao,fU];rw[rO _ hi,WO];simp only[ao];rw[show tN ((k,p,w),(L,D,A),((eA D R ((cP m R).getD i []) j:Nat):Int))=some (f9 A (eA D R ((cP m R).getD i []) j*aR (k,p,w)) (aR (k,p,w))) from ZG ht (H.SR cW j)]
     simp only[ao,UQ];rw[kD (by simp only[aG,aa,dR];omega)];simp only[ao];rw[show dF (mZ (k,p,w) A (eA D R ((cP m R).getD i [])) j) (f9 A (eA D R ((cP m R).getD i []) j*aR (k,p,w)) (aR (k,p,w)))=mZ (k,p,w) A (eA D R ((cP m R).getD i [])) (j+1) from rfl,ahu,xV]
     simp only[ao,bQ];rw[eK (by omega) (by omega)];rfl
    simp only[bV,Option.bind,bQ,ao];rw[eK (by omega) (by omega)];rfl
   simp only[bV,Option.bind,io,ao]
 ·cases h
def kR (x:J×J×J×J):Nat:=match x with|(a0,a1,a2,a3)=>dS a0+dS a1+dS a2+dS a3
def BP:(J×J×J×J)×(J×J×J×J)->Option Bool:=fun((x,y):(J×J×J×J)×(J×J×J×J))=>if kR x<=1048576 then some (decide (x=y)) else none
def ou (l:List (J×J×J×J)):Nat:=l.length+(l.map kR).sum
def tQ:(List (J×J×J×J))×(List (J×J×J×J))->Option Bool:=fun((x,y):(List (J×J×J×J))×(List (J×J×J×J)))=>if ou x<=1048576 then some (decide (x=y)) else none
def m5 (x:J×J×J×J):Nat:=match x with|(a0,a1,a2,a3)=>bi a0+bi a1+bi a2+bi a3
def kO (x:J×J×J×J) (k:Int):J×J×J×J:=match x with|(a0,a1,a2,a3)=>(dM a0 (k),dM a1 (k+(bi a0:Nat)),dM a2 (k+(bi a0:Nat)+(bi a1:Nat)),dM a3 (k+(bi a0:Nat)+(bi a1:Nat)+(bi a2:Nat)))
def rB (l:List (J×J×J×J)):Nat:=iQ m5 l
def jm (l:List (J×J×J×J)) (k:Int):List (J×J×J×J):=gS m5 kO l k
def BR:(List (J×J×J×J))×Int->Option (Int×(List (J×J×J×J))):=fun((x,k):(List (J×J×J×J))×Int)=>if 0<=k/\k+4*(ou x:Nat)<=1099511627776 then some (k+(rB x:Nat),jm x k) else none
def vl:(List (J×J×J×J))×Int->Option Int:=fun((x,k):(List (J×J×J×J))×Int)=>if 0<=k/\k+4*(ou x:Nat)<=1099511627776 then some (if x=jm x k then k+(rB x:Nat) else -1) else none
def IM:ak:=[(.agg,[.list [.int .i64],.list [.int .i64],.list [.int .i64],.list [.int .i64]]),(.agg,[.list [.int .i64],.list [.int .i64],.list [.int .i64],.list [.int .i64]])]
def TX:ak:=[(.one,[.bool])]
def aom:aM:=[]
def IP:ak:=[(.one,[.list [.list [.int .i64],.list [.int .i64],.list [.int .i64],.list [.int .i64]]]),(.one,[.list [.list [.int .i64],.list [.int .i64],.list [.int .i64],.list [.int .i64]]])]
def TY:ak:=[(.one,[.bool])]
def aon:aM:=[]
def IZ:ak:=[(.one,[.list [.list [.int .i64],.list [.int .i64],.list [.int .i64],.list [.int .i64]]]),(.one,[.int .i64])]
def T6:ak:=[(.one,[.int .i64]),(.one,[.list [.list [.int .i64],.list [.int .i64],.list [.int .i64],.list [.int .i64]]])]
def LK:aM:=[[some .live]]
def IX:ak:=[(.one,[.list [.list [.int .i64],.list [.int .i64],.list [.int .i64],.list [.int .i64]]]),(.one,[.int .i64])]
def T4:ak:=[(.one,[.int .i64])]
def aos:aM:=[]
def NY (NN:Nat):((J×(J×(J×J)))×(J×(J×(J×J))))->(Option Bool):=
 (fun(((l0,l1,l2,l3),l4,l5,l6,l7):((J×(J×(J×J)))×(J×(J×(J×J)))))=>
 (rm (l0,l4)).ae (fun b8=>
 av (dN b8)
 (some false)
 ((tR ((l1,l2,l3),l5,l6,l7)).ae (fun b9=>
 av (dN b9)
 (some false)
 (some true)))))
def Wb (NN:Nat):((List (J×(J×(J×J))))×(List (J×(J×(J×J)))))->(Option Bool):=
 (fun((l0,l1):((List (J×(J×(J×J))))×(List (J×(J×(J×J))))))=>
 av (fq (aC (aa l0)) (aC (aa l1)))
 (some false)
 (bV (ci NN (fun((l2,l3,i4):((List (J×(J×(J×J))))×((List (J×(J×(J×J))))×Int)))=>
 av (bG i4 (aC (aa l2)))
 ((cM l2 i4).ae (fun(l5,l6,l7,l8)=>
 (cM l3 i4).ae (fun(l9,ed,gi,fy)=>
 (BP ((l5,l6,l7,l8),l9,ed,gi,fy)).ae (fun zF=>
 av (dN zF)
 (some (Sum.inr (Sum.inr false)))
 (some (Sum.inl (l2,l3,cC .i64 i4 1)))))))
 (some (Sum.inr (Sum.inl ()))))
 (l0,l1,(0:Int)))
 (fun _=>
 some true)))
def N3 (NN:Nat):((List (J×(J×(J×J))))×Int)->(Option (Int×(List (J×(J×(J×J)))))):=
 (fun((l0,i1):((List (J×(J×(J×J))))×Int))=>
 bV (aA l0 (
 ci NN (fun(((i2,i3),l4):((Int×Int)×(List (J×(J×(J×J))))))=>
 av (bG i3 (aC (aa l4)))
 ((eX i3 (aa l4)).ae (fun k5=>
 (cu l4 (aG 0 k5)).ae (fun(l6,l7,l8,l9)=>
 (cu l4 (aG 0 k5)).ae (fun(ed,gi,fy,iY)=>
 (lc (ed,i2)).ae (fun(gB,e8)=>
 (cu l4 (aG 0 k5)).ae (fun(iZ,eS,f8,fj)=>
 (eX i3 (aa l4)).ae (fun qN=>
 (cu (bS l4 (aG 0 k5) (e8,eS,f8,fj)) (aG 0 qN)).ae (fun(jX,e9,ja,gj)=>
 (cu (bS l4 (aG 0 k5) (e8,eS,f8,fj)) (aG 0 qN)).ae (fun(fe,fJ,kK,iG)=>
 (lc (fJ,gB)).ae (fun(wG,jF)=>
 (cu (bS l4 (aG 0 k5) (e8,eS,f8,fj)) (aG 0 qN)).ae (fun(kq,kt,iH,lC)=>
 (eX i3 (aa l4)).ae (fun yz=>
 (cu (bS (bS l4 (aG 0 k5) (e8,eS,f8,fj)) (aG 0 qN) (kq,jF,iH,lC)) (aG 0 yz)).ae (fun(jG,nq,tq,yB)=>
 (cu (bS (bS l4 (aG 0 k5) (e8,eS,f8,fj)) (aG 0 qN) (kq,jF,iH,lC)) (aG 0 yz)).ae (fun(uS,qO,n7,tr)=>
 (lc (n7,wG)).ae (fun(Dw,pM)=>
 (cu (bS (bS l4 (aG 0 k5) (e8,eS,f8,fj)) (aG 0 qN) (kq,jF,iH,lC)) (aG 0 yz)).ae (fun(lU,ku,kL,tt)=>
 (eX i3 (aa l4)).ae (fun GJ=>
 (cu (bS (bS (bS l4 (aG 0 k5) (e8,eS,f8,fj)) (aG 0 qN) (kq,jF,iH,lC)) (aG 0 yz) (lU,ku,pM,tt)) (aG 0 GJ)).ae (fun(tu,sb,wH,AM)=>
 (cu (bS (bS (bS l4 (aG 0 k5) (e8,eS,f8,fj)) (aG 0 qN) (kq,jF,iH,lC)) (aG 0 yz) (lU,ku,pM,tt)) (aG 0 GJ)).ae (fun(tv,n8,qP,AO)=>
 (lc (AO,Dw)).ae (fun(Gv,wJ)=>
 (cu (bS (bS (bS l4 (aG 0 k5) (e8,eS,f8,fj)) (aG 0 qN) (kq,jF,iH,lC)) (aG 0 yz) (lU,ku,pM,tt)) (aG 0 GJ)).ae (fun(nt,mL,yD,GQ)=>
 (bo 0 (aa l4) (aa (bS (bS (bS (bS l4 (aG 0 k5) (e8,eS,f8,fj)) (aG 0 qN) (kq,jF,iH,lC)) (aG 0 yz) (lU,ku,pM,tt)) (aG 0 GJ) (nt,mL,yD,wJ)))).ae (fun _=>
 some (Sum.inl ((Gv,cC .i64 i3 1),bS (bS (bS (bS l4 (aG 0 k5) (e8,eS,f8,fj)) (aG 0 qN) (kq,jF,iH,lC)) (aG 0 yz) (lU,ku,pM,tt)) (aG 0 GJ) (nt,mL,yD,wJ)))))))))))))))))))))))))
 (some (Sum.inr (Sum.inl (i2,l4)))))
 ((i1,(0:Int)),l0)))
 (fun(Ld,wK)=>
 (j6 (aa wK) (aa l0)).ae (fun _=>
 some (Ld,wK))))
def N1 (NN:Nat):((List (J×(J×(J×J))))×Int)->(Option Int):=
 (fun((l0,i1):((List (J×(J×(J×J))))×Int))=>
 bV (ci NN (fun((l2,i3,i4):((List (J×(J×(J×J))))×(Int×Int)))=>
 av (bG i4 (aC (aa l2)))
 ((cM l2 i4).ae (fun(l5,l6,l7,l8)=>
 (rn (l5,i3)).ae (fun i9=>
 av (bG i9 (0:Int))
 (some (Sum.inr (Sum.inr ((-1:Int)))))
 ((cM l2 i4).ae (fun(ed,gi,fy,iY)=>
 (rn (gi,i9)).ae (fun gB=>
 av (bG gB (0:Int))
 (some (Sum.inr (Sum.inr ((-1:Int)))))
 ((cM l2 i4).ae (fun(e8,iZ,eS,f8)=>
 (rn (eS,gB)).ae (fun Dt=>
 av (bG Dt (0:Int))
 (some (Sum.inr (Sum.inr ((-1:Int)))))
 ((cM l2 i4).ae (fun(fI,jX,e9,ja)=>
 (rn (ja,Dt)).ae (fun yq=>
 av (bG yq (0:Int))
 (some (Sum.inr (Sum.inr ((-1:Int)))))
 (some (Sum.inl (l2,yq,cC .i64 i4 1)))))))))))))))
 (some (Sum.inr (Sum.inl i3))))
 (l0,i1,(0:Int)))
 (fun Rx=>
 some Rx))
theorem ajD (x:(J×J×J×J)×(J×J×J×J)) (y:Bool) (h:BP x=some y):NY aL x=some y:=by
 obtain⟨⟨a0,a1,a2,a3⟩,b0,b1,b2,b3⟩:=x;simp only[BP] at h;split at h
 ·rename_i hl;rw[<-h];simp only[kR] at hl;simp only[NY,rm,tR,if_pos (show dS a0<=1048576 by omega),if_pos (show kS (a1,a2,a3)<=1048576 from(by show dS a1+dS a2+dS a3<=1048576;omega)),bj]
  by_cases e0:a0=b0<;>by_cases e1:a1=b1<;>by_cases e2:a2=b2<;>by_cases e3:a3=b3<;>simp[LU,dN,av, *]
 ·cases h
theorem atG {l:List (J×J×J×J)} (h:ou l<=1048576):l.length<=1048576/\∀e∈l,kR e<=1048576:=by
 unfold ou at h;refine⟨by omega,fun e he=>?_⟩;have:=Sj (List.mem_map_of_mem (f:=kR) he);omega
theorem ajE (x:(List (J×J×J×J))×(List (J×J×J×J))) (y:Bool) (h:tQ x=some y):Wb aL x=some y:=by
 obtain⟨a,b⟩:=x;simp only[tQ] at h;split at h
 ·rename_i hl;rw[<-h];obtain⟨hl,hm⟩:=atG hl;exact PP BP a b (fun e he b=>show(if kR e<=1048576 then some (decide (e=b)) else none)=_ from if_pos (hm e he)) (by omega)
 ·cases h
theorem ais (x:List (J×J×J×J)) (h:ou x<=1048576):tQ (x,x)=some true:=by
 have:=show tQ (x,x)=if ou x<=1048576 then some (decide (x=x)) else none from rfl
 rw[this,if_pos h,decide_eq_true rfl]
theorem Pc (x:J×J×J×J):m5 x<=4*(1+kR x):=by
 obtain⟨a0,a1,a2,a3⟩:=x;have h0:=kB a0;have h1:=kB a1;have h2:=kB a2;have h3:=kB a3;simp only[m5,kR];omega
theorem atf (x:J×J×J×J) (k:Int):kR (kO x k)=kR x:=by
 obtain⟨a0,a1,a2,a3⟩:=x;simp only[kO,kR,ath]
theorem Xg (x:J×J×J×J) (k:Int):m5 (kO x k)=m5 x:=by
 obtain⟨a0,a1,a2,a3⟩:=x;simp only[kO,m5,Xh]
theorem anT (x:J×J×J×J) (k:Int):kO (kO x k) k=kO x k:=by
 obtain⟨a0,a1,a2,a3⟩:=x;simp only[kO,Xh,anV]
theorem HS (l:List (J×J×J×J)):ou l=l.length+(l.map kR).sum:=by
 rfl
theorem ahy (l:List (J×J×J×J)):rB l<=4*ou l:=by
 rw[HS];exact Fo m5 kR Pc l
theorem atg (l:List (J×J×J×J)) (k:Int):ou (jm l k)=ou l:=by
 rw[HS,HS,jm,A3,HO m5 kO kR atf]
theorem ahS (l:List (J×J×J×J)) (k:Int):rB (jm l k)=rB l:=HO m5 kO m5 Xg l k
theorem anU (l:List (J×J×J×J)) (k:Int):jm (jm l k) k=jm l k:=SF m5 kO Xg anT l k
theorem Sq (l:List (J×J×J×J)) (k:Int):(jm l k).length=l.length:=A3 _ _ _ _
theorem ajL (x:(List (J×J×J×J))×Int) (y:Int×(List (J×J×J×J))) (h:BR x=some y):N3 aL x=some y:=by
 obtain⟨l,k⟩:=x;simp only[BR] at h;split at h
 ·rename_i hc;obtain⟨hk,hb⟩:=hc;rw[HS] at hb;rw[<-h];simp only[N3,bQ,bj,aA];rw[SA l m5 kR kO k (r:=Sum.inl (k+(rB l:Nat),jm l k)) Pc hk hb ?_ ?_]
  ·rw[mK];simp only
   rw[w4 (show aa (jm l k)=aa l from Sq l k),bj]
  ·rintro i ⟨a0,a1,a2,a3⟩ ys k' he hy hi h0 hM;have F7:cu ys i=some (a0,a1,a2,a3):=hi;simp only
   rw[aY (kv hi),nA hi (by omega)];simp only[Fk hi,bj,fU,F7,AY,bQ];have WY:=kB a0;have Pb:=kB a1;have WZ:=kB a2;have ahz:=kB a3;simp only[kR] at hM;have E0:lc (a0,k')=some (k'+(bi a0:Nat),dM a0 (k')):=if_pos ⟨by omega,by omega⟩;have E1:lc (a1,k'+(bi a0:Nat))=some (k'+(bi a0:Nat)+(bi a1:Nat),dM a1 (k'+(bi a0:Nat))):=if_pos ⟨by omega,by omega⟩;have E2:lc (a2,k'+(bi a0:Nat)+(bi a1:Nat))=some (k'+(bi a0:Nat)+(bi a1:Nat)+(bi a2:Nat),dM a2 (k'+(bi a0:Nat)+(bi a1:Nat))):=if_pos ⟨by omega,by omega⟩;have E3:lc (a3,k'+(bi a0:Nat)+(bi a1:Nat)+(bi a2:Nat))=some (k'+(bi a0:Nat)+(bi a1:Nat)+(bi a2:Nat)+(bi a3:Nat),dM a3 (k'+(bi a0:Nat)+(bi a1:Nat)+(bi a2:Nat))):=if_pos ⟨by omega,by omega⟩;simp only[E0,E1,E2,E3,bj,KC hi,U8,AY,bQ];refine congrArg some (congrArg Sum.inl (Prod.ext (Prod.ext ?_ rfl) rfl));simp only[m5];omega
  ·simp only
   rw[bc (eJ (by have:=Sq l k;have h2:=nl (jm l k);unfold jm at this h2;omega))];rfl
 ·cases h
theorem ajJ (x:(List (J×J×J×J))×Int) (y:Int) (h:vl x=some y):N1 aL x=some y:=by
 obtain⟨l,k⟩:=x;simp only[vl] at h;split at h
 ·rename_i hc;obtain⟨hk,hb⟩:=hc;rw[HS] at hb;rw[<-h];simp only[N1];rw[Z4 l m5 kR kO k Pc hk hb ?_ ?_]
  ·unfold jm rB;by_cases hq:l=gS m5 kO l k
   ·rw[if_pos hq,if_pos hq,mK]
   ·rw[if_neg hq,if_neg hq,GH]
  ·rintro i ⟨a0,a1,a2,a3⟩ k' he h0 hM;simp only
   have WY:=kB a0;have Pb:=kB a1;have WZ:=kB a2;have ahz:=kB a3;simp only[kR] at hM;rw[aY (kv he),nA he (by omega)];have E0:rn (a0,k')=some (if a0=dM a0 (k') then k'+(bi a0:Nat) else -1):=if_pos ⟨by omega,by omega⟩
   have E1:rn (a1,k'+(bi a0:Nat))=some (if a1=dM a1 (k'+(bi a0:Nat)) then k'+(bi a0:Nat)+(bi a1:Nat) else -1):=if_pos ⟨by omega,by omega⟩
   have E2:rn (a2,k'+(bi a0:Nat)+(bi a1:Nat))=some (if a2=dM a2 (k'+(bi a0:Nat)+(bi a1:Nat)) then k'+(bi a0:Nat)+(bi a1:Nat)+(bi a2:Nat) else -1):=if_pos ⟨by omega,by omega⟩
   have E3:rn (a3,k'+(bi a0:Nat)+(bi a1:Nat)+(bi a2:Nat))=some (if a3=dM a3 (k'+(bi a0:Nat)+(bi a1:Nat)+(bi a2:Nat)) then k'+(bi a0:Nat)+(bi a1:Nat)+(bi a2:Nat)+(bi a3:Nat) else -1):=if_pos ⟨by omega,by omega⟩
   simp only[dg,he,bj];rw[KI (by omega) E0];by_cases q0:a0=dM a0 (k')
   case neg=>rw[if_neg q0,if_neg (fun h=>q0 (show a0=dM a0 (k')/\a1=dM a1 (k'+(bi a0:Nat))/\a2=dM a2 (k'+(bi a0:Nat)+(bi a1:Nat))/\a3=dM a3 (k'+(bi a0:Nat)+(bi a1:Nat)+(bi a2:Nat)) from by simpa only[kO,Prod.mk.injEq] using h).1)]
   rw[if_pos q0];rw[KI (by omega) E1];by_cases q1:a1=dM a1 (k'+(bi a0:Nat))
   case neg=>rw[if_neg q1,if_neg (fun h=>q1 (show a0=dM a0 (k')/\a1=dM a1 (k'+(bi a0:Nat))/\a2=dM a2 (k'+(bi a0:Nat)+(bi a1:Nat))/\a3=dM a3 (k'+(bi a0:Nat)+(bi a1:Nat)+(bi a2:Nat)) from by simpa only[kO,Prod.mk.injEq] using h).2.1)]
   rw[if_pos q1];rw[KI (by omega) E2];by_cases q2:a2=dM a2 (k'+(bi a0:Nat)+(bi a1:Nat))
   case neg=>rw[if_neg q2,if_neg (fun h=>q2 (show a0=dM a0 (k')/\a1=dM a1 (k'+(bi a0:Nat))/\a2=dM a2 (k'+(bi a0:Nat)+(bi a1:Nat))/\a3=dM a3 (k'+(bi a0:Nat)+(bi a1:Nat)+(bi a2:Nat)) from by simpa only[kO,Prod.mk.injEq] using h).2.2.1)]
   rw[if_pos q2];rw[KI (by omega) E3];by_cases q3:a3=dM a3 (k'+(bi a0:Nat)+(bi a1:Nat)+(bi a2:Nat))
   case neg=>rw[if_neg q3,if_neg (fun h=>q3 (show a0=dM a0 (k')/\a1=dM a1 (k'+(bi a0:Nat))/\a2=dM a2 (k'+(bi a0:Nat)+(bi a1:Nat))/\a3=dM a3 (k'+(bi a0:Nat)+(bi a1:Nat)+(bi a2:Nat)) from by simpa only[kO,Prod.mk.injEq] using h).2.2.2)]
   rw[if_pos q3];rw[if_pos (show(a0,a1,a2,a3)=kO (a0,a1,a2,a3) k' from by simp only[kO,Prod.mk.injEq];exact⟨q0,q1,q2,q3⟩)]
   refine congrArg some (congrArg Sum.inl (Prod.ext rfl (Prod.ext ?_ rfl)));simp only[m5];omega
  ·intro k';simp only
   rw[bc (gD l)]
 ·cases h
theorem akO (x:List (J×J×J×J)) (k:Int) (h:0<=k/\k+4*(ou x:Nat)<=1099511627776):vl (jm x k,k)=some (k+(rB x:Nat)):=by
 have:=show vl (jm x k,k)=if 0<=k/\k+4*(ou (jm x k):Nat)<=1099511627776 then some (if jm x k=jm (jm x k) k then k+(rB (jm x k):Nat) else -1) else none from rfl
 rw[this,atg,if_pos h,anU,ahS,if_pos rfl]
end Go.Am
