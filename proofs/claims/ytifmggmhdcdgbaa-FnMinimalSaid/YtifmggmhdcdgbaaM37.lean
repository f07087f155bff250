/- M57, M54, M55, M58, M59, M60, M56, M61, M37: parts of the proof. No condition. -/
import Derived.Test.YtifmggmhdcdgbaaM44
set_option linter.unusedVariables false
set_option linter.unusedSimpArgs false
section
namespace Go.Am
theorem Kq {P Q:Nat->Bool}:∀n,(∀i,i<n->P i=true->Q i=true)->(List.range n).countP Q<=(List.range n).countP P->∀i,i<n->Q i=true->P i=true
 |0,_,_,i,hi,_=>absurd hi (Nat.not_lt_zero i)
 |n+1,h,hc,i,hi,hq=>by
  rw[B6,B6] at hc
  have gE:=Kr n fun i hi=>h i (by omega)
  cases hP:P n with
  |false=>
   rw[hP] at hc
   cases hQ:Q n with
   |true=>rw[hQ] at hc;simp at hc;omega
   |false=>
    rw[hQ] at hc
    simp at hc
    by_cases eo:i=n
    ·subst eo;rw[hQ] at hq;cases hq
    ·exact Kq n (fun i hi=>h i (by omega)) hc i (by omega) hq
  |true=>
   rw[hP,h n (by omega) hP] at hc
   simp at hc
   by_cases eo:i=n
   ·subst eo;exact hP
   ·exact Kq n (fun i hi=>h i (by omega)) hc i (by omega) hq
theorem UF {p:Int} {x:Nat->Int}:∀n,(∀b,b<n->x b%p=0)\/∃j,j<n/\SN p x j
 |0=>.inl fun b hb=>absurd hb (Nat.not_lt_zero b)
 |n+1=>by
  rcases UF (p:=p) (x:=x) n with h|⟨j,hj,hl⟩
  ·by_cases hn:x n%p=0
   ·refine .inl fun b hb=>?_
    by_cases Lx:b=n
    ·subst Lx;exact hn
    ·exact h b (by omega)
   ·exact .inr ⟨n,by omega,h,hn⟩
  ·exact .inr ⟨j,by omega,hl⟩
theorem aak {p:Int} {r c:Nat} {M N:aL} (cN:dv p=true) (hM:bZ p r c M) (hN:bZ p (r+1) c N) (h1:∀a,a<r->∀b,b<c->N a b=M a b)
  (hk:(dG p (r+1) N c).2.1.length<=(dG p r M c).2.1.length):Sp p r c M (N r):=by
 have hp:cY p:=jS cN
 have mJ:=hp.1
 have U9:∀x,Sp p r c M x->Sp p (r+1) c N x:=fun x hx=>ru (N:=M) (fun i hi=>oR (jh (M:=N) (i:=i) (by omega)) fun b hb=>by rw[h1 i hi b hb]) hx
 have eO:∀j,j<c->sf (dG p r M c).2.1 j=true->sf (dG p (r+1) N c).2.1 j=true:=fun j hj h=>by
  obtain⟨x,hx,hl⟩:=(DJ cN hM hj).2 (si.1 h)
  exact si.2 ((DJ cN hN hj).1 ⟨x,U9 x hx,hl⟩)
 have du:=Kq c eO (by rw[B7 cN hM c (Nat.le_refl c),B7 cN hN c (Nat.le_refl c)];exact hk)
 have RZ:=DM cN hM c (Nat.le_refl c)
 have IZ:=oH hp hM c
 have qI:=fun x=>Ij cN hM x c (Nat.le_refl c)
 generalize hs:dG p r M c=s at RZ IZ qI du
 have adI:∀x,Sp p s.2.1.length c s.1 x->Sp p r c M x:=fun x hx=>(qI x).1 (ru (N:=s.1) (fun i hi=>jh (by have:=IZ.l;omega)) hx)
 have hZN:∀i,i<s.2.1.length->Sp p (r+1) c N (s.1 i):=fun i hi=>U9 _ ((qI _).1 (jh (by have:=IZ.l;omega)))
 let y:Nat->Int:=fun t=>N r (pv s.2.1 t)
 let d:Nat->Int:=fun b=>N r b+(-1)*sm s.2.1.length (fun t=>y t*s.1 t b)
 have hd:Sp p (r+1) c N d:=by
  refine E1 (-1) (jh (by omega)) ?_
  refine ru (N:=s.1) (r':=s.2.1.length) hZN ⟨y,fun b _=>rfl⟩
 have LI:∀i,i<s.2.1.length->d (pv s.2.1 i)=0:=by
  intro i hi
  show N r (pv s.2.1 i)+(-1)*sm s.2.1.length (fun t=>y t*s.1 t (pv s.2.1 i))=0
  rw[oM (a:=i) s.2.1.length hi (fun t ht aw=>by rw[RZ.bD i hi t (by have:=IZ.l;omega) aw];simp),RZ.one i hi]
  show N r (pv s.2.1 i)+(-1)*(N r (pv s.2.1 i)*1)=0
  omega
 rcases UF (p:=p) (x:=d) c with h|⟨j,hj,hl⟩
 ·refine adI _ ⟨y,fun b hb=>?_⟩
  have:=h b hb
  show N r b%p=_
  have e:N r b=d b+sm s.2.1.length (fun t=>y t*s.1 t b):=by
   show N r b=N r b+(-1)*sm s.2.1.length (fun t=>y t*s.1 t b)+sm s.2.1.length (fun t=>y t*s.1 t b)
   omega
  rw[e,Int.add_emod,this,Int.zero_add,Int.emod_emod]
 ·exfalso
  have h2:=du j hj (si.2 ((DJ cN hN hj).1 ⟨d,hd,hl⟩))
  obtain⟨i,hi,he⟩:=si.1 h2
  have:=hl.2
  rw[<-he,LI i hi] at this
  exact this (by simp)
theorem E2 {p:Int} {r r' c:Nat} {M:aL} {x:Nat->Int} (h:Sp p r c M x) (hr:r<=r'):Sp p r' c M x:=ru (N:=M) (fun i hi=>jh (by omega)) h
theorem E3 {p:Int} {r c:Nat} {M N:aL} {x:Nat->Int} (h:Sp p r c M x) (e:∀i,i<r->∀b,b<c->N i b%p=M i b%p):Sp p r c N x:=
 ru (N:=M) (fun i hi=>oR (jh (M:=N) hi) fun b hb=>(e i hi b hb).symm) h
theorem SX {p:Int} {r c c':Nat} {M A:aL} {x:Nat->Int} (h:Sp p r c M x):Sp p r c' (fun i j=>sm c (fun t=>M i t*A t j)%p) (fun j=>sm c (fun t=>x t*A t j)%p):=by
 obtain⟨y,hy⟩:=h
 refine⟨y,fun b _=>?_⟩
 dsimp only
 rw[Int.emod_emod]
 have e1:sm c (fun t=>x t*A t b)%p=sm c (fun t=>sm r (fun i=>y i*M i t)*A t b)%p:=j3 fun t ht=>by rw[Int.mul_emod,hy t ht,<-Int.mul_emod]
 have e2:sm r (fun i=>y i*(sm c (fun t=>M i t*A t b)%p))%p=sm r (fun i=>y i*sm c (fun t=>M i t*A t b))%p:=j3 fun i _=>by rw[Int.mul_emod,Int.emod_emod,<-Int.mul_emod]
 rw[e1,e2]
 congr 1
 rw[dP (g:=fun t=>sm r (fun i=>y i*M i t*A t b)) fun t _=>(yD (A t b) _ r).symm,yE]
 exact dP fun i _=>by rw[<-q9];exact dP fun t _=>Int.mul_assoc _ _ _
theorem SW {p:Int} {r c:Nat} {M:aL} {x z:Nat->Int} (h:Sp p r c M x) (hz:∀i,i<r->sm c (fun b=>M i b*z b)%p=0):sm c (fun b=>x b*z b)%p=0:=by
 obtain⟨y,hy⟩:=SX (c':=1) (A:=fun t _=>z t) h
 have:=hy 0 (by omega)
 dsimp only at this
 rw[Int.emod_emod] at this
 rw[this,show(0:Int)=sm r (fun _=>0)%p by rw[nL r fun _ _=>rfl];simp]
 exact j3 fun i hi=>by rw[hz i hi];simp
def vH:Wd->Wd->Prop
 |a::u,b::v=>a<b\/(a=b/\vH u v)
 |_,_=>False
def nK (u v:Wd):Prop:=u.length<v.length\/(u.length=v.length/\vH u v)
def q8 (u v:Wd):Prop:=u=v\/nK u v
theorem XC:∀{u v w:Wd},vH u v->vH v w->vH u w
 |[],_,_,h,_=>h.elim
 |_::_,[],_,h,_=>h.elim
 |_::_,_::_,[],_,h=>h.elim
 |a::u,b::v,c::w,h1,h2=>by
  rcases h1 with h1|⟨rfl,h1⟩
  ·rcases h2 with h2|⟨rfl,h2⟩
   ·exact .inl (by omega)
   ·exact .inl h1
  ·rcases h2 with h2|⟨rfl,h2⟩
   ·exact .inl h2
   ·exact .inr ⟨rfl,XC h1 h2⟩
theorem ake {u v w:Wd} (h1:nK u v) (h2:nK v w):nK u w:=by
 rcases h1 with h1|⟨h1,iB⟩<;>rcases h2 with h2|⟨h2,uW⟩
 ·exact .inl (by omega)
 ·exact .inl (by omega)
 ·exact .inl (by omega)
 ·exact .inr ⟨by omega,XC iB uW⟩
theorem Rv {u v w:Wd} (h1:q8 u v) (h2:nK v w):nK u w:=by
 rcases h1 with rfl|h1
 ·exact h2
 ·exact ake h1 h2
theorem aka {u v w:Wd} (h1:q8 u v) (h2:q8 v w):q8 u w:=by
 rcases h2 with rfl|h2
 ·exact h1
 ·exact .inr (Rv h1 h2)
theorem XA:∀{u v:Wd} (x y:Wd),u.length=v.length->vH u v->vH (u++x) (v++y)
 |[],_,_,_,_,h=>h.elim
 |_::_,[],_,_,_,h=>h.elim
 |a::u,b::v,x,y,hl,h=>by
  rcases h with h|⟨rfl,h⟩
  ·exact .inl h
  ·exact .inr ⟨rfl,XA x y (by simpa using hl) h⟩
theorem XB:∀(u:Wd) {x y:Int},x<y->vH (u++[x]) (u++[y])
 |[],_,_,h=>.inl h
 |a::u,_,_,h=>.inr ⟨rfl,XB u h⟩
theorem Y8 {u v:Wd} (x y:Int) (h:nK u v):nK (u++[x]) (v++[y]):=by
 rcases h with h|⟨h,h'⟩
 ·exact .inl (by simp;exact h)
 ·exact .inr ⟨by simp[h],XA _ _ h h'⟩
theorem akd (u:Wd) {x y:Int} (h:x<y):nK (u++[x]) (u++[y]):=.inr ⟨by simp,XB u h⟩
theorem akc (u:Wd) (x:Int):nK u (u++[x]):=.inl (by simp)
theorem aj9 {u v:Wd} (x:Int) (h:q8 u v):q8 (u++[x]) (v++[x]):=by
 rcases h with rfl|h
 ·exact .inl rfl
 ·exact .inr (Y8 x x h)
theorem afJ (t:Nat) (w:Wd):(jT t w).Pairwise nK:=by
 unfold jT
 rw[List.pairwise_map]
 exact List.Pairwise.imp (fun h=>akd w (by omega)) List.pairwise_lt_range
section
variable {p:Int} {n:Nat} {s b:List Int} {ms:List bJ}
def RM (p:Int) (n:Nat) (ms:List bJ) (s:List Int) (l:List Wd):aL:=fun i j=>aQ (bA p n ms s (l.getD i [])) j
def sM (p:Int) (n:Nat) (ms:List bJ) (s:List Int) (l:List Wd) (v:Wd):Prop:=∃J,J<=l.length/\(∀u∈l.take J,q8 u v)/\Sp p J n (RM p n ms s l) (aQ (bA p n ms s v))
structure rr (p:Int) (n:Nat) (ms:List bJ) (s:List Int) (S:List Wd×List Int) (q:List Wd):Prop where
 bi:BI p n ms.length S q
 rows:∀i,i<S.1.length->∀j,j<n->aS n S.2 i j=RM p n ms s S.1 i j
 rk:pS p n S.1.length S.2=S.1.length
 Zw:(S.1++q).Pairwise nK
 Pu:∀w∈q,(w=[]/\S.1=[]/\q=[[]])\/∃u∈S.1,∃x:Nat,x<ms.length/\w=u++[(x:Int)]
 root:[]∈q\/sM p n ms s S.1 []
 Nv:∀u∈S.1,∀x:Nat,x<ms.length->u++[(x:Int)]∈q\/sM p n ms s S.1 (u++[(x:Int)])
theorem SS {l:List Wd} {w:Wd} {i:Nat} (h:i<l.length):RM p n ms s (l++[w]) i=RM p n ms s l i:=by
 unfold RM
 funext j
 rw[List.getD_eq_getElem?_getD,List.getElem?_append_left h,<-List.getD_eq_getElem?_getD]
theorem SR {l:List Wd} {w:Wd}:RM p n ms s (l++[w]) l.length=aQ (bA p n ms s w):=by
 unfold RM
 funext j
 rw[List.getD_eq_getElem?_getD,List.getElem?_append_right (Nat.le_refl _),Nat.sub_self]
 rfl
theorem sM.more {l:List Wd} {w v:Wd} (h:sM p n ms s l v):sM p n ms s (l++[w]) v:=by
 obtain⟨J,h1,h2,h3⟩:=h
 refine⟨J,by rw[List.length_append];omega,fun u hu=>h2 u (by rwa[List.take_append_of_le_length h1] at hu),E3 h3 fun i hi b _=>by rw[SS (by omega)]⟩
theorem X0 {n i j:Nat} {l l':List Int} {k:Nat} (hl:l.length=k*n) (hi:i<k) (hj:j<n):aS n (l++l') i j=aS n l i j:=by
 unfold aS
 have:=M5 hi hj
 rw[List.getD_eq_getElem?_getD,List.getElem?_append_left (by omega),<-List.getD_eq_getElem?_getD]
theorem X3 {n j:Nat} {l l':List Int} {k:Nat} (hl:l.length=k*n):aS n (l++l') k j=aQ l' j:=by
 unfold aS aQ
 rw[List.getD_eq_getElem?_getD,List.getElem?_append_right (by omega),<-List.getD_eq_getElem?_getD,show k*n+j - l.length=j by omega]
theorem Ip {k:Nat} {D:List Int}:pS p n k D=(dG p k (aS n D) n).2.1.length:=by
 unfold pS pN
 simp only[Int.toNat_natCast]
theorem rr.no (H:kf p n s ms b) {S:List Wd×List Int} {w:Wd} {q:List Wd} (h:rr p n ms s S (w::q)) (ha:¬sV p n ms s S w=true):rr p n ms s S q:=by
 obtain⟨m1,m2,m3,m4,m5⟩:=HV H h.bi
 have hk:pS p n (S.1.length+1) (S.2++bA p n ms s w)<=S.1.length:=by
  have:¬pS p n (S.1.length+1) (S.2++bA p n ms s w)=S.1.length+1:=fun e=>ha (decide_eq_true e)
  omega
 have Lq:Sp p S.1.length n (aS n S.2) (aQ (bA p n ms s w)):=by
  have:=aak (N:=aS n (S.2++bA p n ms s w)) H.pr (jC h.bi.dl h.bi.dp) (jC m3 m4) (fun a ha b hb=>X0 h.bi.dl ha hb) (by rw[<-Ip,<-Ip,h.rk];exact hk)
  exact oR this fun b _=>by rw[X3 h.bi.dl]
 have vh:=h.Zw
 rw[List.pairwise_append] at vh
 have hD:sM p n ms s S.1 w:=⟨S.1.length,Nat.le_refl _,fun u hu=>.inr (vh.2.2 u (List.mem_of_mem_take hu) w (by simp)),E3 Lq fun i hi j hj=>by rw[h.rows i hi j hj]⟩
 refine⟨h.bi.no,h.rows,h.rk,?_,fun v hv=>?_,?_,fun u hu x hx=>?_⟩
 ·rw[List.pairwise_append]
  exact⟨vh.1,(List.pairwise_cons.1 vh.2.1).2,fun a ha b hb=>vh.2.2 a ha b (by simp[hb])⟩
 ·rcases h.Pu v (by simp[hv]) with⟨_,_,e⟩|hp
  ·injection e with _ e
   subst e
   cases hv
  ·exact .inr hp
 ·rcases h.root with h1|h1
  ·cases h1 with
   |head=>exact .inr hD
   |tail _ h1=>exact .inl h1
  ·exact .inr h1
 ·rcases h.Nv u hu x hx with h1|h1
  ·generalize u++[(x:Int)]=v at h1
   cases h1 with
   |head=>exact .inr hD
   |tail _ h1=>exact .inl h1
  ·exact .inr h1
theorem rr.BH (H:kf p n s ms b) {S:List Wd×List Int} {w:Wd} {q:List Wd} (h:rr p n ms s S (w::q)) (ha:sV p n ms s S w=true):
  rr p n ms s (S.1++[w],S.2++bA p n ms s w) (q++jT ms.length w):=by
 obtain⟨m1,m2,m3,m4,m5⟩:=HV H h.bi
 have vh:=h.Zw
 rw[List.pairwise_append] at vh
 obtain⟨s1,s2,s3⟩:=vh
 obtain⟨s4,s5⟩:=List.pairwise_cons.1 s2
 have GN:∀u∈S.1,nK u w:=fun u hu=>s3 u hu w (by simp)
 have hD:sM p n ms s (S.1++[w]) w:=by
  refine⟨S.1.length+1,by simp,fun u hu=>?_,oR (jh (i:=S.1.length) (by omega)) fun b _=>by rw[SR]⟩
  rcases List.mem_append.1 (List.mem_of_mem_take hu) with h1|h1
  ·exact .inr (GN u h1)
  ·rw[List.mem_singleton] at h1;exact .inl h1
 have L3:∀v∈jT ms.length w,∃x:Nat,x<ms.length/\v=w++[(x:Int)]:=fun v hv=>by
  obtain⟨x,hx,rfl⟩:=List.mem_map.1 hv
  exact⟨x,List.mem_range.1 hx,rfl⟩
 have afI:∀x:Nat,x<ms.length->w++[(x:Int)]∈jT ms.length w:=fun x hx=>List.mem_map.2 ⟨x,List.mem_range.2 hx,rfl⟩
 refine⟨(BI.BH H h.bi ha).1,?_,?_,?_,?_,?_,?_⟩
 ·intro i hi j hj
  dsimp only at hi⊢
  rw[List.length_append,List.length_singleton] at hi
  by_cases LS:i<S.1.length
  ·rw[X0 h.bi.dl LS hj,SS LS];exact h.rows i LS j hj
  ·have:i=S.1.length:=by omega
   subst this
   rw[X3 h.bi.dl,SR]
 ·dsimp only
  rw[List.length_append,List.length_singleton]
  exact of_decide_eq_true ha
 ·show((S.1++[w])++(q++jT ms.length w)).Pairwise nK
  rw[List.pairwise_append,List.pairwise_append,List.pairwise_append]
  refine⟨⟨s1,by simp,fun a qy c hb=>?_⟩,⟨s5,afJ _ _,fun a ha b hb=>?_⟩,fun a ha b hb=>?_⟩
  ·rw[List.mem_singleton] at hb;rw[hb];exact GN a qy
  ·obtain⟨x,_,rfl⟩:=L3 b hb
   rcases h.Pu a (by simp[ha]) with⟨_,_,e⟩|⟨u,hu,y,_,rfl⟩
   ·injection e with _ e;subst e;cases ha
   ·exact Y8 _ _ (GN u hu)
  ·have gE:q8 a w:=by
    rcases List.mem_append.1 ha with h1|h1
    ·exact .inr (GN a h1)
    ·rw[List.mem_singleton] at h1;exact .inl h1
   rcases List.mem_append.1 hb with h1|h1
   ·exact Rv gE (s4 b h1)
   ·obtain⟨x,_,rfl⟩:=L3 b h1
    exact Rv gE (akc w x)
 ·intro v hv
  right
  rcases List.mem_append.1 hv with h1|h1
  ·rcases h.Pu v (by simp[h1]) with⟨_,_,e⟩|⟨u,hu,x,hx,rfl⟩
   ·injection e with _ e;subst e;cases h1
   ·exact⟨u,List.mem_append_left _ hu,x,hx,rfl⟩
  ·obtain⟨x,hx,rfl⟩:=L3 v h1
   exact⟨w,by simp,x,hx,rfl⟩
 ·rcases h.root with h1|h1
  ·cases h1 with
   |head=>exact .inr hD
   |tail _ h1=>exact .inl (List.mem_append_left _ h1)
  ·exact .inr h1.more
 ·intro u hu x hx
  rcases List.mem_append.1 hu with h1|h1
  ·rcases h.Nv u h1 x hx with h2|h2
   ·generalize u++[(x:Int)]=v at h2
    cases h2 with
    |head=>exact .inr hD
    |tail _ h2=>exact .inl (List.mem_append_left _ h2)
   ·exact .inr h2.more
  ·rw[List.mem_singleton] at h1
   subst h1
   exact .inl (List.mem_append_right _ (afI x hx))
theorem Sx (H:kf p n s ms b):∀(m:Nat) (S:List Wd×List Int) (q:List Wd),rr p n ms s S q->(n - S.1.length)*ms.length+q.length<=m->rr p n ms s (nO p n ms s m S q) []
 |m,S,[],h,_=>by rw[ZZ];exact h
 |0,S,w::q,h,hm=>absurd hm (by simp only[List.length_cons];omega)
 |m+1,S,w::q,h,hm=>by
  simp only[List.length_cons] at hm
  by_cases ha:sV p n ms s S w=true
  ·rw[Sz ha]
   obtain⟨hB,ib⟩:=BI.BH H h.bi ha
   refine Sx H m _ _ (h.BH H ha) ?_
   dsimp only
   rw[List.length_append,List.length_append,List.length_singleton,Nw]
   exact XO (q:=q.length) ib hm
  ·rw[Sy ha]
   exact Sx H m _ _ (h.no H ha) (by omega)
theorem ai7 (H:kf p n s ms b):rr p n ms s (cZ (p,(n:Int),s,ms,b)) []:=by
 have e:cZ (p,(n:Int),s,ms,b)=nO p n ms s 128 ([],[]) [[]]:=by unfold cZ;simp only[Int.toNat_natCast]
 rw[e]
 have hn:=H.hn
 have h4:=H.l4
 have:n*ms.length<=24*4:=Nat.mul_le_mul hn h4
 refine Sx H 128 _ _ ⟨⟨by simp,fun x hx=>absurd hx (by simp),Nat.zero_le _,fun w hw=>?_,fun w hw=>absurd hw (by simp)⟩,fun i hi=>absurd hi (Nat.not_lt_zero i),?_,by simp,fun w hw=>?_,.inl (by simp),fun u hu=>absurd hu (by simp)⟩ (by simp only[List.length_nil,List.length_singleton,Nat.sub_zero];omega)
 ·rw[List.mem_singleton] at hw;subst hw;exact⟨fun c hc=>absurd hc (by simp),Nat.zero_le _⟩
 ·rw[Ip]
  have:=(oH (r:=0) (c:=n) (M:=aS n []) H.p (fun a ha=>absurd ha (Nat.not_lt_zero a)) n).l
  simp only[List.length_nil]
  omega
 ·rw[List.mem_singleton] at hw;subst hw;exact .inl ⟨rfl,rfl,rfl⟩
theorem vT (w:Wd) (x:Int):bA p n ms s (w++[x])=lD p n ms (bA p n ms s w) x:=by unfold bA;rw[List.foldl_append];rfl
theorem wh (v:List Int) (x:Int) {j:Nat} (hj:j<n):aQ (lD p n ms v x) j=sm n (fun t=>aQ v t*stM n ms x.toNat t j)%p:=by rw[I2,acA _ hj]
theorem T1 (H:kf p n s ms b) {S:List Wd×List Int} (h:rr p n ms s S []):∀(k:Nat) (v:Wd),v.length=k->fe ms.length v->sM p n ms s S.1 v
 |0,v,hv,_=>by
  obtain rfl:v=[]:=List.eq_nil_of_length_eq_zero hv
  rcases h.root with h1|h1
  ·cases h1
  ·exact h1
 |k+1,v,hv,hw=>by
  obtain⟨u,x,rfl⟩:∃u x,v=u++[x]:=⟨v.dropLast,v.getLast (by intro e;rw[e] at hv;cases hv),(List.dropLast_concat_getLast _).symm⟩
  rw[List.length_append,List.length_singleton] at hv
  obtain⟨J,hJ,gE,Lq⟩:=T1 H h k u (by omega) (fun c hc=>hw c (List.mem_append_left _ hc))
  have hx:=hw x (by simp)
  obtain⟨x,rfl⟩:=fz hx.1
  have cu:∀i,i<=J->∃J',J'<=S.1.length/\(∀u'∈S.1.take J',q8 u' (u++[(x:Int)]))/\∀i',i'<i->Sp p J' n (RM p n ms s S.1) (fun j=>sm n (fun t=>RM p n ms s S.1 i' t*stM n ms x t j)%p):=by
   intro i
   induction i with
   |zero=>exact fun _=>⟨0,Nat.zero_le _,by simp,fun i' hi'=>absurd hi' (Nat.not_lt_zero i')⟩
   |succ i ih=>
    intro hi
    obtain⟨J1,a1,a2,a3⟩:=ih (by omega)
    have bL:i<S.1.length:=by omega
    have jq:=List.getElem_mem bL
    have hgd:S.1.getD i []=S.1[i]:=by rw[List.getD_eq_getElem?_getD,List.getElem?_eq_getElem bL];rfl
    obtain⟨J2,b1,b2,b3⟩:sM p n ms s S.1 (S.1[i]++[(x:Int)]):=by
     rcases h.Nv _ jq x (by omega) with h1|h1
     ·cases h1
     ·exact h1
    have adj:q8 (S.1[i]++[(x:Int)]) (u++[(x:Int)]):=aj9 _ (gE _ (by
     rw[List.mem_take_iff_getElem]
     exact⟨i,by omega,rfl⟩))
    have b4:Sp p J2 n (RM p n ms s S.1) (fun j=>sm n (fun t=>RM p n ms s S.1 i t*stM n ms x t j)%p):=oR b3 fun j hj=>by
     rw[vT,wh _ _ hj]
     unfold RM
     rw[hgd]
     rfl
    have rU:∀J',(J'=J1\/J'=J2)->J1<=J'->J2<=J'->∃J',J'<=S.1.length/\(∀u'∈S.1.take J',q8 u' (u++[(x:Int)]))/\∀i',i'<i+1->Sp p J' n (RM p n ms s S.1) (fun j=>sm n (fun t=>RM p n ms s S.1 i' t*stM n ms x t j)%p):=by
     intro J' ho h1 h2
     refine⟨J',by omega,?_,fun i' hi'=>?_⟩
     ·rcases ho with rfl|rfl
      ·exact a2
      ·exact fun u' jq=>aka (b2 u' jq) adj
     ·by_cases he:i'=i
      ·subst he;exact E2 b4 h2
      ·exact E2 (a3 i' (by omega)) h1
    rcases Nat.le_total J1 J2 with h1|h1
    ·exact rU J2 (.inr rfl) h1 (Nat.le_refl _)
    ·exact rU J1 (.inl rfl) (Nat.le_refl _) h1
  obtain⟨J',c1,c2,c3⟩:=cu J (Nat.le_refl J)
  refine⟨J',c1,c2,?_⟩
  have:=ru c3 (SX (c':=n) (A:=stM n ms x) Lq)
  exact oR this fun j hj=>by rw[vT,wh _ _ hj];rfl
end
end Go.Am
end
section
namespace Go.Am
end Go.Am
end
section
namespace Go.Am
def qS (x:bz):bz:=mf (gn (mf (gn x)))
def Jt:bz->Option bz:=fun x=>if p9 x<=1048576 then some (if fD x=true then qS x else(0,0,[],[],[])) else none
def rl:bz->Option bz:=Jt
def Fg:av:=[(.agg,[.int .i64,.int .i64,.list [.int .i64],.list [.int .i64,.int .i64,.list [.int .i64]],.list [.int .i64]])]
def P1:av:=[(.agg,[.int .i64,.int .i64,.list [.int .i64],.list [.int .i64,.int .i64,.list [.int .i64]],.list [.int .i64]])]
def agL:bo:=[]
def EE (NN:Nat):(Int×(Int×((List Int)×((List (Int×(Int×(List Int))))×(List Int)))))->(Option (Int×(Int×((List Int)×((List (Int×(Int×(List Int))))×(List Int)))))):=
 (fun((i0,i1,l2,l3,l4):(Int×(Int×((List Int)×((List (Int×(Int×(List Int))))×(List Int))))))=>
 (jf (i0,i1,l2,l3,l4)).ab (fun b5=>
 aY (me b5)
 (some ((0:Int),(0:Int),([]:List Int),([]:List (Int×(Int×(List Int)))),([]:List Int)))
 ((sP (i0,i1,l2,l3,l4)).ab (fun(i6,i7,l8,l9,jU)=>
 (cv l8 0 (aa l8)).ab (fun lp=>
 (cv l9 0 (aa l9)).ab (fun ij=>
 (cv jU 0 (aa jU)).ab (fun eA=>
 (sQ (i6,i7,lp,ij,eA)).ab (fun(iF,jr,iU,dw,fG)=>
 (cv iU 0 (aa iU)).ab (fun f8=>
 (cv dw 0 (aa dw)).ab (fun e8=>
 (cv fG 0 (aa fG)).ab (fun fH=>
 (sP (iF,jr,f8,e8,fH)).ab (fun(jt,fk,fm,dz,cP)=>
 (cv fm 0 (aa fm)).ab (fun nB=>
 (cv dz 0 (aa dz)).ab (fun jw=>
 (cv cP 0 (aa cP)).ab (fun fO=>
 (sQ (jt,fk,nB,jw,fO)).ab (fun(lb,ju,eJ,fo,lr)=>
 (dc eJ (aa eJ)).ab (fun sn=>
 (dc fo (aa fo)).ab (fun ky=>
 (dc lr (aa lr)).ab (fun gJ=>
 some (lb,ju,sn,ky,gJ))))))))))))))))))))
theorem Bd {p:Int} {n:Nat} {s b:List Int} {ms:List bJ} (H:cM p n s ms b):cM p n b (ms.map gf) s:=by
 refine⟨H.pr,H.hn,H.bl,H.bp,H.al,H.ap,by rw[List.length_map];exact H.l1,by rw[List.length_map];exact H.l4,fun x hx=>?_⟩
 obtain⟨m,hm,rfl⟩:=List.mem_map.1 hx
 obtain⟨M,rfl,hM⟩:=H.hm m hm
 exact⟨sL M,Si M,fun i hi j hj=>hM j hj i hi⟩
theorem Lk {p:Int} {n:Nat} {s b:List Int} {ms:List bJ} (H:cM p n s ms b):∃(k:Nat) (s' b':List Int) (cV:List bJ),gn (p,(n:Int),s,ms,b)=(p,(k:Int),s',cV,b')/\cM p k s' cV b':=by
 have hp:=H.p
 have mJ:=hp.1
 have hn:=H.hn
 have B:=vU H.b
 have ib:=B.kn
 have hA:bZ p (cZ (p,(n:Int),s,ms,b)).1.length n (aS n (cZ (p,(n:Int),s,ms,b)).2):=jC B.dl B.dp
 refine⟨(cZ (p,(n:Int),s,ms,b)).1.length,_,_,_,rfl,⟨H.pr,by omega,?_,?_,by rw[fW,Nat.mul_one],?_,by rw[List.length_map];exact H.l1,by rw[List.length_map];exact H.l4,fun x hx=>?_⟩⟩
 ·simp[db,d8]
 ·intro x hx
  unfold db d8 at hx
  rcases List.mem_or_eq_of_mem_set hx with h|h
  ·have:=(List.mem_replicate.1 h).2
   subst this
   exact⟨Int.le_refl _,by omega⟩
  ·subst h;exact⟨by decide,by omega⟩
 ·exact hH.2 (Ds hp _ _ _ _ _)
 ·obtain⟨m,hm,rfl⟩:=List.mem_map.1 hx
  refine⟨_,rfl,fun i hi q hq=>?_⟩
  unfold j4 pN
  simp only[Int.toNat_natCast]
  have hW:bZ p n ((cZ (p,(n:Int),s,ms,b)).1.length+(cZ (p,(n:Int),s,ms,b)).1.length) (aS ((cZ (p,(n:Int),s,ms,b)).1.length+(cZ (p,(n:Int),s,ms,b)).1.length) (ao n ((cZ (p,(n:Int),s,ms,b)).1.length+(cZ (p,(n:Int),s,ms,b)).1.length) (jE (cZ (p,(n:Int),s,ms,b)).1.length (aS n (cZ (p,(n:Int),s,ms,b)).2) (aS n (ao (cZ (p,(n:Int),s,ms,b)).1.length n (e9 p n (aS n (cZ (p,(n:Int),s,ms,b)).2) (aS n m.2.2))))))):=by
   refine jC (fW _ _ _) (hH.2 (SA hA (jC (fW _ _ _) (hH.2 (Ds hp _ _ _ _ _)))))
  exact(oH hp hW _).m q (by omega) _ (by omega)
theorem agC {x:bz} (h:fD x=true):∃(p:Int) (n:Nat) (s b:List Int) (ms:List bJ),qS x=(p,(n:Int),s,ms,b)/\cM p n s ms b/\fD (gn x)=true/\fD (mf (gn x))=true/\fD (gn (mf (gn x)))=true:=by
 obtain⟨p,n,s,ms,b,rfl,H⟩:=wT h
 obtain⟨k,s1,b1,tV,e1,H1⟩:=Lk H
 have e2:mf (p,(k:Int),s1,tV,b1)=(p,(k:Int),b1,tV.map gf,s1):=rfl
 have H2:=Bd H1
 obtain⟨l,s3,b3,AO,e3,H3⟩:=Lk H2
 have H4:=Bd H3
 refine⟨p,l,b3,s3,AO.map gf,?_,H4,?_,?_,?_⟩
 ·unfold qS;rw[e1,e2,e3];rfl
 ·rw[e1];exact sZ H1
 ·rw[e1,e2];exact sZ H2
 ·rw[e1,e2,e3];exact sZ H3
theorem ab0 (x:bz) (z:bz) (h:rl x=some z):EE aN x=some z:=by
 simp only[rl,Jt] at h
 split at h
 ·rename_i hs
  rw[<-h]
  by_cases ho:fD x=true
  ·obtain⟨p,n,s,b,ms,e,H,o1,o2,o3⟩:=agC ho
   rw[if_pos ho]
   have m1:sP x=some (gn x):=if_pos ho
   have m2:sQ (gn x)=some (mf (gn x)):=if_pos o1
   have m3:sP (mf (gn x))=some (gn (mf (gn x))):=if_pos o2
   have m4:sQ (gn (mf (gn x)))=some (qS x):=if_pos o3
   generalize qS x=y4 at m4
   generalize gn (mf (gn x))=y3 at m3 m4
   generalize mf (gn x)=y2 at m2 m3
   generalize gn x=y1 at m1 m2
   obtain⟨x1,x2,x3,x4,x5⟩:=x
   obtain⟨a1,a2,a3,a4,a5⟩:=y1
   obtain⟨c1,c2,c3,c4,c5⟩:=y2
   obtain⟨d1,d2,d3,d4,d5⟩:=y3
   obtain⟨g1,g2,g3,g4,g5⟩:=y4
   simp only[EE]
   rw[show jf (x1,x2,x3,x4,x5)=some true by simp only[jf];rw[if_pos hs,ho]]
   simp only[cG]
   rw[show me true=false from rfl,zp,m1]
   simp only[cG,iv]
   rw[m2]
   simp only[cG,iv]
   rw[m3]
   simp only[cG,iv]
   rw[m4]
   simp only[cG,kG]
  ·rw[if_neg ho]
   obtain⟨x1,x2,x3,x4,x5⟩:=x
   simp only[EE]
   rw[show jf (x1,x2,x3,x4,x5)=some false by simp only[jf];rw[if_pos hs,Bool.eq_false_iff.2 ho]]
   simp only[cG]
   rfl
 ·cases h
end Go.Am
end
section
namespace Go.Am
theorem M7 {p:Int} {k c:Nat} {R:aL} (cN:dv p=true) (hR:bZ p k c R) (tD:(dG p k R c).2.1.length=k) {j:Nat} (hj:j<k) {y:Nat->Int}
  (h:∀b,b<c->R j b%p=sm j (fun i=>y i*R i b)%p):False:=by
 obtain⟨k,rfl⟩:∃k',k=k'+1:=⟨k - 1,by omega⟩
 let M:aL:=fun i=>if i<j then R i else R (i+1)
 have hM:bZ p k c M:=by
  intro i hi b hb
  show f0 p ((if i<j then R i else R (i+1)) b)
  split
  ·exact hR i (by omega) b hb
  ·exact hR (i+1) (by omega) b hb
 have bL:∀i,i<j->M i=R i:=fun i hi=>if_pos hi
 have xB:∀i,j<=i->M i=R (i+1):=fun i hi=>if_neg (by omega)
 have fZ:∀i,i<k+1->Sp p k c M (R i):=by
  intro i hi
  rcases Nat.lt_trichotomy i j with h1|h1|h1
  ·rw[<-bL i h1];exact jh (by omega)
  ·subst h1
   exact E2 (E3 (M:=R) (r:=i) ⟨y,h⟩ fun a ha b _=>by rw[bL a ha]) (by omega)
  ·have:=xB (i - 1) (by omega)
   rw[show i - 1+1=i by omega] at this
   rw[<-this];exact jh (by omega)
 have h1:=Yr cN hR hM fun x hx=>ru fZ hx
 have h2:=(oH (jS cN) hM c).l
 omega
theorem aeW {p a:Int} (cN:dv p=true) (h:a%p≠0):∃b,(a*b)%p=1:=by
 have hp:=jS cN
 have eo:f0 p (a%p):=⟨Int.emod_nonneg _ (by omega),Int.emod_lt_of_pos _ (by omega)⟩
 have h1:=Ni cN eo h
 rw[Int.mul_emod,Int.emod_emod,<-Int.mul_emod] at h1
 exact⟨_,h1⟩
theorem aeO {p:Int} {k c:Nat} {R:aL} (cN:dv p=true) (hR:bZ p k c R) (tD:(dG p k R c).2.1.length=k) {y:Nat->Int}
  (h:∀b,b<c->sm k (fun i=>y i*R i b)%p=0):∀i,i<k->y i%p=0:=by
 have cu:∀d,d<=k->∀i,k - d<=i->i<k->y i%p=0:=by
  intro d
  induction d with
  |zero=>intro _ i h1 h2;omega
  |succ d ih=>
   intro hd i h1 h2
   by_cases hi:k - d<=i
   ·exact ih (by omega) i hi h2
   ·have Vv:i=k - (d+1):=by omega
    refine Classical.byContradiction fun aw=>?_
    obtain⟨v,hv⟩:=aeW cN aw
    refine M7 cN hR tD (j:=i) h2 (y:=fun t=> -(v*y t)) fun b hb=>?_
    have hs:sm k (fun t=>y t*R t b)%p=(sm i (fun t=>y t*R t b)+y i*R i b)%p:=by
     have e:sm k (fun t=>y t*R t b)=sm (i+1+(k - (i+1))) (fun t=>y t*R t b):=by rw[show i+1+(k - (i+1))=k by omega]
     rw[e,ue,Int.add_emod]
     have:sm (k - (i+1)) (fun t=>y (i+1+t)*R (i+1+t) b)%p=0:=by
      rw[show(0:Int)=sm (k - (i+1)) (fun _=>0)%p by rw[nL _ fun _ _=>rfl];simp]
      refine j3 fun t ht=>?_
      rw[Int.mul_emod,ih (by omega) (i+1+t) (by omega) (by omega)]
      simp
     rw[this,Int.add_zero,Int.emod_emod]
     rfl
    have h0:=h b hb
    rw[hs] at h0
    have e2:sm i (fun t=> -(v*y t)*R t b)= -v*sm i (fun t=>y t*R t b):=by
     rw[<-q9]
     exact dP fun t _=>by grind
    rw[e2]
    have e3:R i b= -v*sm i (fun t=>y t*R t b)+(v*(sm i (fun t=>y t*R t b)+y i*R i b)+(R i b - (y i*v)*R i b)):=by grind
    have e4:(v*(sm i (fun t=>y t*R t b)+y i*R i b))%p=0:=by rw[Int.mul_emod,h0];simp
    have e5:(R i b - (y i*v)*R i b)%p=0:=by
     rw[Int.sub_emod,Int.mul_emod (y i*v),hv,Int.one_mul,Int.emod_emod]
     simp
    rw[e3,Int.add_emod,Int.add_emod (v*_),e4,e5]
    simp
 exact fun i hi=>cu k (Nat.le_refl k) i (by omega) hi
theorem AW {r c:Nat} (M:aL) {i j:Nat} (hi:i<r) (hj:j<c):aS c (ao r c M) i j=M i j:=by
 unfold aS
 rw[List.getD_eq_getElem?_getD,zC M hi hj]
 rfl
theorem aki {p:Int} {k t n:Nat} {R T:aL} (cN:dv p=true) (hR:bZ p k n R) (hT:bZ p t n T) (tD:(dG p k R n).2.1.length=k) (hS:∀i,i<t->Sp p k n R (T i)) {i:Nat} (hi:i<t):
  ∀j,j<n->sm k (fun q=>j4 p n k t R T i q*R q j)%p=T i j%p:=by
 have hp:cY p:=jS cN
 have mJ:=hp.1
 let W:aL:=aS (k+t) (ao n (k+t) (jE k R T))
 have hW:bZ p n (k+t) W:=jC (fW _ _ _) (hH.2 (SA hR hT))
 have Lr:∀a,a<n->∀q,q<k->W a q=R q a:=fun a ha q hq=>by
  show aS (k+t) (ao n (k+t) (jE k R T)) a q=_
  rw[AW _ ha (by omega)]
  exact if_pos hq
 have hWT:∀a,a<n->W a (k+i)=T i a:=fun a ha=>by
  show aS (k+t) (ao n (k+t) (jE k R T)) a (k+i)=_
  rw[AW _ ha (by omega)]
  unfold jE
  rw[if_neg (by omega),Nat.add_sub_cancel_left]
 have hX:∀q,j4 p n k t R T i q=(dG p n W (k+t)).1 q (k+i):=fun q=>by
  unfold j4 pN
  simp only[Int.toNat_natCast]
  rfl
 have RZ:=DM cN hW (k+t) (Nat.le_refl _)
 have IZ:=oH hp hW (k+t)
 have qI:=fun x=>Ij cN hW x (k+t) (Nat.le_refl _)
 generalize dG p n W (k+t)=s at RZ IZ qI hX
 have ajf:∀z:Nat->Int,(∀a,a<n->sm (k+t) (fun b=>W a b*z b)%p=0)->∀a,a<n->sm (k+t) (fun b=>s.1 a b*z b)%p=0:=fun z hz a ha=>SW ((qI _).1 (jh ha)) hz
 have aje:∀z:Nat->Int,(∀a,a<n->sm (k+t) (fun b=>s.1 a b*z b)%p=0)->∀a,a<n->sm (k+t) (fun b=>W a b*z b)%p=0:=fun z hz a ha=>SW ((qI _).2 (jh ha)) hz
 have piv:∀j,j<=k->j<=s.2.1.length/\∀q,q<j->pv s.2.1 q=q:=by
  intro j
  induction j with
  |zero=>exact fun _=>⟨Nat.zero_le _,fun q hq=>absurd hq (Nat.not_lt_zero q)⟩
  |succ j ih=>
   intro hj
   obtain⟨h1,h2⟩:=ih (by omega)
   have hb:j<s.2.1.length/\pv s.2.1 j=j:=by
    refine Classical.byContradiction fun cf=>?_
    have ac5:∀a,j<=a->a<n->s.1 a j=0:=by
     intro a ha han
     by_cases th:a<s.2.1.length
     ·have h3:=Yp RZ a th
      have h4:pv s.2.1 a≠j:=fun e=>by
       have:a=j:=by omega
       subst this
       exact cf ⟨th,e⟩
      exact RZ.low a th j (by omega)
     ·exact RZ.zero a (by omega) han j (by omega)
    have hz:=aje (fun b=>if b<j then s.1 b j else if b=j then -1 else 0) fun a ha=>by
     have e:sm (k+t) (fun b=>s.1 a b*(if b<j then s.1 b j else if b=j then -1 else 0))=sm j (fun b=>s.1 a b*s.1 b j) - s.1 a j:=by
      rw[show k+t=j+1+(k+t - (j+1)) by omega,ue,nL (k+t - (j+1)) (fun b _=>by rw[if_neg (by omega),if_neg (by omega)];simp)]
      simp only[sm]
      rw[if_neg (by omega),if_pos trivial,dP (g:=fun b=>s.1 a b*s.1 b j) fun b hb=>by rw[if_pos hb]]
      omega
     rw[e]
     by_cases Vf:a<j
     ·have hpa:=h2 a Vf
      rw[oM (a:=a) j Vf fun b hb aw=>by
       have:=RZ.bD b (by omega) a ha (fun e=>aw e.symm)
       rw[h2 b hb] at this
       rw[this];simp]
      have:=RZ.one a (by omega)
      rw[hpa] at this
      rw[this,Int.one_mul,Int.sub_self];simp
     ·rw[ac5 a (by omega) ha,nL j fun b hb=>by
       have:=RZ.bD b (by omega) a ha (by omega)
       rw[h2 b hb] at this
       rw[this];simp]
      simp
    refine M7 cN hR tD (j:=j) (by omega) (y:=fun b=>s.1 b j) fun a ha=>?_
    have:=hz a ha
    have e:sm (k+t) (fun b=>W a b*(if b<j then s.1 b j else if b=j then -1 else 0))=sm j (fun b=>s.1 b j*R b a) - R j a:=by
     rw[show k+t=j+1+(k+t - (j+1)) by omega,ue,nL (k+t - (j+1)) (fun b _=>by rw[if_neg (by omega),if_neg (by omega)];simp)]
     simp only[sm]
     rw[if_neg (by omega),if_pos trivial,dP (g:=fun b=>s.1 b j*R b a) fun b hb=>by rw[if_pos hb,Lr a ha b (by omega),Int.mul_comm],Lr a ha j (by omega)]
     omega
    rw[e] at this
    have e2:=Int.emod_emod_of_dvd (sm j (fun b=>s.1 b j*R b a) - R j a) (Int.dvd_refl p)
    have:=Int.dvd_of_emod_eq_zero this
    exact(Int.emod_emod_of_dvd _ (Int.dvd_refl p)).symm.trans (by rw[Int.emod_emod];exact(Int.emod_eq_emod_iff_emod_sub_eq_zero.2 (Int.emod_eq_zero_of_dvd this)).symm)
   refine⟨hb.1,fun q hq=>?_⟩
   by_cases hqj:q=j
   ·subst hqj;exact hb.2
   ·exact h2 q (by omega)
 obtain⟨xE,tB⟩:=piv k (Nat.le_refl k)
 obtain⟨y,hy⟩:=hS i hi
 have hz:=ajf (fun b=>if b<k then y b else if b=k+i then -1 else 0) fun a ha=>by
  have e:sm (k+t) (fun b=>W a b*(if b<k then y b else if b=k+i then -1 else 0))=sm k (fun b=>y b*R b a) - T i a:=by
   rw[ue,dP (n:=k) (g:=fun b=>y b*R b a) fun b hb=>by rw[if_pos hb,Lr a ha b hb,Int.mul_comm],oM (a:=i) t hi fun b _ aw=>by rw[if_neg (by omega),if_neg (by omega)];simp]
   rw[if_neg (by omega),if_pos rfl,hWT a ha]
   omega
  rw[e]
  exact Int.emod_eq_emod_iff_emod_sub_eq_zero.1 (hy a ha).symm
 have G7:∀q,q<k->j4 p n k t R T i q%p=y q%p:=by
  intro q hq
  have eG:q<n:=by have:=IZ.l;omega
  have:=hz q eG
  have e:sm (k+t) (fun b=>s.1 q b*(if b<k then y b else if b=k+i then -1 else 0))=y q - s.1 q (k+i):=by
   rw[ue,oM (a:=q) k hq (fun b hb aw=>by
    have:=RZ.bD b (by omega) q eG (fun e=>aw e.symm)
    rw[tB b hb] at this
    rw[this];simp),oM (a:=i) t hi fun b _ aw=>by rw[if_neg (by omega),if_neg (by omega)];simp]
   have h1:=RZ.one q (by omega)
   rw[tB q hq] at h1
   rw[if_pos hq,if_neg (by omega),if_pos rfl,h1]
   omega
  rw[e] at this
  rw[hX]
  exact(Int.emod_eq_emod_iff_emod_sub_eq_zero.2 this).symm
 intro j hj
 rw[hy j hj]
 exact j3 fun q hq=>by rw[Int.mul_emod,G7 q hq,<-Int.mul_emod]
end Go.Am
end
section
namespace Go.Am
section
variable {p:Int} {n:Nat} {s b:List Int} {ms:List bJ}
theorem Yx (H:kf p n s ms b) (w:Wd) {j:Nat} (hj:j<n):0<=aQ (bA p n ms s w) j/\aQ (bA p n ms s w) j<p:=by
 obtain⟨h1,h2⟩:=pM (n:=n) (ms:=ms) H.p w s H.al H.ap
 have:=h2 _ (List.getElem_mem (show j<(bA p n ms s w).length by omega))
 unfold aQ
 rw[List.getD_eq_getElem?_getD,List.getElem?_eq_getElem (show j<(bA p n ms s w).length by omega)]
 exact this
theorem abg {x p:Int} (h:0<=x/\x<p):x%p=x:=Int.emod_eq_of_lt h.1 h.2
theorem akt (hM:∀x∈ms,∃M:aL,x=((n:Int),(n:Int),ao n n M)/\bZ p n n M) {c i j:Nat} (hc:c<ms.length) (hi:i<n) (hj:j<n):stM n (ms.map gf) c i j=stM n ms c j i:=by
 obtain⟨M,hm,_⟩:=hM ms[c] (List.getElem_mem hc)
 unfold stM
 rw[List.getD_eq_getElem?_getD,List.getD_eq_getElem?_getD,List.getElem?_map,List.getElem?_eq_getElem hc]
 simp only[Option.map_some,Option.getD_some]
 rw[hm,Si]
 dsimp only
 rw[AW _ hi hj,AW _ hj hi]
 rfl
theorem Ji (H:cM p n s ms b):∀(v u:Wd),fe ms.length v->dH ((p,(n:Int),s,ms,b),u++v)=sm n (fun i=>aQ (bA p n ms s u) i*aQ (bA p n (ms.map gf) b v.reverse) i)%p
 |[],u,_=>by
  rw[List.append_nil]
  unfold dH
  simp only[Int.toNat_natCast]
  rw[rH,(pM (n:=n) (ms:=ms) H.p u s H.al H.ap).1]
  rfl
 |c::v,u,hv=>by
  have hc:=hv c (by simp)
  obtain⟨c,rfl⟩:=fz hc.1
  have ih:=Ji H v (u++[(c:Int)]) (fun x hx=>hv x (by simp[hx]))
  rw[List.append_assoc] at ih
  rw[show u++(c:Int)::v=u++([(c:Int)]++v) from rfl,ih,List.reverse_cons]
  rw[vT,vT]
  have e1:sm n (fun i=>aQ (lD p n ms (bA p n ms s u) (c:Int)) i*aQ (bA p n (ms.map gf) b v.reverse) i)%p=sm n (fun i=>sm n (fun t=>aQ (bA p n ms s u) t*stM n ms c t i)*aQ (bA p n (ms.map gf) b v.reverse) i)%p:=
   j3 fun i hi=>by rw[wh _ _ hi,Int.toNat_natCast,Int.mul_emod,Int.emod_emod,<-Int.mul_emod]
  have e2:sm n (fun i=>aQ (bA p n ms s u) i*aQ (lD p n (ms.map gf) (bA p n (ms.map gf) b v.reverse) (c:Int)) i)%p=sm n (fun t=>aQ (bA p n ms s u) t*sm n (fun i=>aQ (bA p n (ms.map gf) b v.reverse) i*stM n ms c t i))%p:=
   j3 fun t ht=>by
    rw[wh _ _ ht,Int.toNat_natCast,dP (g:=fun i=>aQ (bA p n (ms.map gf) b v.reverse) i*stM n ms c t i) fun i hi=>by rw[akt H.hm (by omega) hi ht],Int.mul_emod,Int.emod_emod,<-Int.mul_emod]
  rw[e1,e2]
  congr 1
  rw[dP (g:=fun i=>sm n (fun t=>aQ (bA p n ms s u) t*stM n ms c t i*aQ (bA p n (ms.map gf) b v.reverse) i)) fun i _=>(yD _ _ n).symm,yE]
  exact dP fun t _=>by rw[<-q9];exact dP fun i _=>by rw[Int.mul_assoc,Int.mul_comm (stM n ms c t i)]
theorem Z3 (H:cM p n s ms b) {w:Wd} (hw:fe ms.length w):dH ((p,(n:Int),b,ms.map gf,s),w)=dH ((p,(n:Int),s,ms,b),w.reverse):=by
 have h:=Ji H w.reverse [] (fun c hc=>hw c (List.mem_reverse.1 hc))
 rw[List.nil_append,List.reverse_reverse] at h
 rw[h]
 unfold dH
 simp only[Int.toNat_natCast]
 have R:=Bd H
 rw[rH,(pM (n:=n) (ms:=ms.map gf) H.p w b R.al R.ap).1]
 congr 1
 exact dP fun i _=>Int.mul_comm _ _
structure Ey (p:Int) (n:Nat) (ms:List bJ) (s b:List Int) (k:Nat) (R:aL) (s':List Int) (cV:List bJ) (b':List Int):Prop where
 WE:bZ p k n R
 rk:(dG p k R n).2.1.length=k
 s0:∀j,j<n->sm k (fun q=>aQ s' q*R q j)%p=aQ s j%p
 st:∀c,c<ms.length->∀i,i<k->∀j,j<n->sm k (fun q=>stM k cV c i q*R q j)%p=sm n (fun t=>R i t*stM n ms c t j)%p
 fin:∀q,q<k->aQ b' q=sm n (fun t=>R q t*aQ b t)%p
 words:∀i,i<k->∃u,fe ms.length u/\∀j,j<n->R i j=aQ (bA p n ms s u) j
theorem CC (H:cM p n s ms b):∃(k:Nat) (s' b':List Int) (cV:List bJ) (R:aL),gn (p,(n:Int),s,ms,b)=(p,(k:Int),s',cV,b')/\cM p k s' cV b'/\cV.length=ms.length/\k=(cZ (p,(n:Int),s,ms,b)).1.length/\Ey p n ms s b k R s' cV b':=by
 have hp:=H.p
 have mJ:=hp.1
 have hn:=H.hn
 obtain⟨k0,s0,b0,ms0,e0,H0⟩:=Lk H
 have B:=vU H.b
 have I:=ai7 H.b
 have ib:=B.kn
 have eX:gn (p,(n:Int),s,ms,b)=(p,((cZ (p,(n:Int),s,ms,b)).1.length:Int),db (d8 (cZ (p,(n:Int),s,ms,b)).1.length 0) 0 1,ms.map (ph p n (cZ (p,(n:Int),s,ms,b)).1.length (cZ (p,(n:Int),s,ms,b)).2),ao (cZ (p,(n:Int),s,ms,b)).1.length 1 (e9 p n (aS n (cZ (p,(n:Int),s,ms,b)).2) (aS 1 b))):=by
  unfold gn
  simp only[Int.toNat_natCast]
 generalize (cZ (p,(n:Int),s,ms,b))=S at B I ib eX
 have hk:k0=S.1.length:=by rw[eX] at e0;injection e0 with _ e0;injection e0 with e0 _;omega
 subst hk
 rw[eX] at e0
 injection e0 with _ e0
 injection e0 with _ e0
 injection e0 with es e0
 injection e0 with em eb
 subst es em eb
 have hR:bZ p S.1.length n (aS n S.2):=jC B.dl B.dp
 have tD:(dG p S.1.length (aS n S.2) n).2.1.length=S.1.length:=by rw[<-Ip];exact I.rk
 have fZ:∀i,i<S.1.length->∀j,j<n->aS n S.2 i j=aQ (bA p n ms s (S.1.getD i [])) j:=fun i hi j hj=>I.rows i hi j hj
 have qL:∀i,i<S.1.length->fe ms.length (S.1.getD i []):=fun i hi=>by
  rw[List.getD_eq_getElem?_getD,List.getElem?_eq_getElem hi]
  exact(B.wo _ (List.getElem_mem hi)).1
 have Vp:∀w,fe ms.length w->Sp p S.1.length n (aS n S.2) (aQ (bA p n ms s w)):=fun w hw=>by
  obtain⟨J,h1,_,h3⟩:=T1 H.b I w.length w rfl hw
  exact E3 (E2 h3 h1) fun i hi j hj=>by rw[I.rows i hi j hj]
 refine⟨S.1.length,_,_,_,aS n S.2,eX,H0,by rw[List.length_map],rfl,hR,tD,?_,?_,?_,fun i hi=>⟨_,qL i hi,fun j hj=>fZ i hi j hj⟩⟩
 ·intro j hj
  by_cases hk:0<S.1.length
  ·
   have ada:∀j,j<n->aS n S.2 0 j=aQ s j:=by
    rcases I.root with h|⟨J,h1,h2,h3⟩
    ·cases h
    ·by_cases hJ:J=0
     ·subst hJ
      exfalso
      have hz:∀(l:Nat) (w:Wd),w.length=l->fe ms.length w->∀j,j<n->aQ (bA p n ms s w) j%p=0:=by
       intro l
       induction l with
       |zero=>
        intro w hw _ j hj
        obtain rfl:w=[]:=List.eq_nil_of_length_eq_zero hw
        obtain⟨y,hy⟩:=h3
        have:=hy j hj
        rw[this]
        show(0:Int)%p=0
        simp
       |succ l ih=>
        intro w hw eF j hj
        obtain⟨u,x,rfl⟩:∃u x,w=u++[x]:=⟨w.dropLast,w.getLast (by intro e;rw[e] at hw;cases hw),(List.dropLast_concat_getLast _).symm⟩
        rw[List.length_append,List.length_singleton] at hw
        rw[vT,wh _ _ hj,Int.emod_emod,show(0:Int)=sm n (fun _=>0)%p by rw[nL n fun _ _=>rfl];simp]
        exact j3 fun t ht=>by rw[Int.mul_emod,ih u (by omega) (fun c hc=>eF c (List.mem_append_left _ hc)) t ht];simp
      refine M7 H.pr hR tD hk (y:=fun _=>0) fun b hb=>?_
      rw[fZ 0 hk b hb,hz _ _ rfl (qL 0 hk) b hb]
      show(0:Int)=0%p
      simp
     ·have hm:S.1.getD 0 []∈S.1.take J:=by
       rw[List.getD_eq_getElem?_getD,List.getElem?_eq_getElem hk,List.mem_take_iff_getElem]
       exact⟨0,by omega,rfl⟩
      have e:S.1.getD 0 []=[]:=by
       rcases h2 _ hm with h|h|⟨_,h⟩
       ·exact h
       ·simp at h
       ·generalize S.1.getD 0 []=u at h
        cases u with
        |nil=>rfl
        |cons a u=>exact h.elim
      intro j hj
      rw[fZ 0 hk j hj,e]
      rfl
   rw[oM (a:=0) S.1.length hk fun q hq aw=>by
    have:aQ (db (d8 S.1.length (0:Int)) 0 1) q=0:=by
     unfold aQ db d8
     rw[List.getD_eq_getElem?_getD,List.getElem?_set_ne (fun e=>aw e.symm),List.getElem?_replicate]
     split<;>rfl
    rw[this];simp]
   have:aQ (db (d8 S.1.length (0:Int)) 0 1) 0=1:=by
    unfold aQ db d8
    rw[List.getD_eq_getElem?_getD,List.getElem?_set_self (by simp;omega)]
    rfl
   rw[this,Int.one_mul,ada j hj]
  ·have rQ:S.1.length=0:=by omega
   obtain⟨y,hy⟩:=Vp [] (fun c hc=>absurd hc (by simp))
   have:=hy j hj
   rw[rQ] at this⊢
   exact this.symm
 ·intro c hc i hi j hj
  obtain⟨M,hm,hM⟩:=H.hm ms[c] (List.getElem_mem hc)
  have hT:bZ p S.1.length n (aS n (ao S.1.length n (e9 p n (aS n S.2) (aS n (ao n n M))))):=jC (fW _ _ _) (hH.2 (Ds hp _ _ _ _ _))
  have Vd:∀i,i<S.1.length->∀j,j<n->aS n (ao S.1.length n (e9 p n (aS n S.2) (aS n (ao n n M)))) i j=sm n (fun t=>aS n S.2 i t*stM n ms c t j)%p:=by
   intro i hi j hj
   rw[AW _ hi hj]
   show jJ p (fun t=>aS n S.2 i t) (fun t=>aS n (ao n n M) t j) n=_
   rw[Cc]
   congr 1
   refine dP fun t _=>?_
   unfold stM
   rw[List.getD_eq_getElem?_getD,List.getElem?_eq_getElem hc]
   simp only[Option.getD_some]
   rw[hm]
  have G7:=aki H.pr hR hT tD (fun i hi=>by
   refine oR (Vp (S.1.getD i []++[(c:Int)]) fun x hx=>?_) fun j hj=>?_
   ·rcases List.mem_append.1 hx with h|h
    ·exact qL i hi x h
    ·rw[List.mem_singleton] at h;subst h;exact⟨by omega,by omega⟩
   ·rw[Vd i hi j hj,vT,wh _ _ hj,Int.toNat_natCast]
    congr 2
    exact dP fun t ht=>by rw[fZ i hi t ht]) hi j hj
  rw[Vd i hi j hj,Int.emod_emod] at G7
  rw[<-G7]
  congr 1
  refine dP fun q hq=>?_
  congr 1
  unfold stM
  rw[List.getD_eq_getElem?_getD,List.getElem?_map,List.getElem?_eq_getElem hc]
  simp only[Option.map_some,Option.getD_some]
  unfold ph
  dsimp only
  rw[AW _ hi hq,hm]
 ·intro q hq
  show(ao S.1.length 1 _).getD q 0=_
  have:=zC (r:=S.1.length) (c:=1) (e9 p n (aS n S.2) (aS 1 b)) hq (show 0<1 by omega)
  rw[Nat.mul_one,Nat.add_zero] at this
  rw[List.getD_eq_getElem?_getD,this]
  show jJ p (fun t=>aS n S.2 q t) (fun t=>aS 1 b t 0) n=_
  rw[Cc]
  congr 1
  exact dP fun t _=>by unfold aS aQ;rw[Nat.mul_one,Nat.add_zero]
theorem Ll {k:Nat} {R:aL} {s' b':List Int} {cV:List bJ} (F:Ey p n ms s b k R s' cV b'):∀(l:Nat) (w:Wd),w.length=l->fe ms.length w->∀j,j<n->sm k (fun q=>aQ (bA p k cV s' w) q*R q j)%p=aQ (bA p n ms s w) j%p
 |0,w,hw,_,j,hj=>by
  obtain rfl:w=[]:=List.eq_nil_of_length_eq_zero hw
  exact F.s0 j hj
 |l+1,w,hw,eF,j,hj=>by
  obtain⟨u,x,rfl⟩:∃u x,w=u++[x]:=⟨w.dropLast,w.getLast (by intro e;rw[e] at hw;cases hw),(List.dropLast_concat_getLast _).symm⟩
  rw[List.length_append,List.length_singleton] at hw
  have hx:=eF x (by simp)
  obtain⟨x,rfl⟩:=fz hx.1
  have ih:=Ll F l u (by omega) (fun c hc=>eF c (List.mem_append_left _ hc))
  rw[vT,vT,wh _ _ hj,Int.toNat_natCast,Int.emod_emod]
  have e1:sm k (fun q=>aQ (lD p k cV (bA p k cV s' u) (x:Int)) q*R q j)%p=sm k (fun q=>sm k (fun i=>aQ (bA p k cV s' u) i*stM k cV x i q)*R q j)%p:=
   j3 fun q hq=>by rw[wh _ _ hq,Int.toNat_natCast,Int.mul_emod,Int.emod_emod,<-Int.mul_emod]
  rw[e1,dP (g:=fun q=>sm k (fun i=>aQ (bA p k cV s' u) i*stM k cV x i q*R q j)) fun q _=>(yD _ _ k).symm,yE]
  have e2:sm k (fun i=>sm k (fun q=>aQ (bA p k cV s' u) i*stM k cV x i q*R q j))%p=sm k (fun i=>aQ (bA p k cV s' u) i*sm n (fun t=>R i t*stM n ms x t j))%p:=by
   refine j3 fun i hi=>?_
   rw[dP (g:=fun q=>aQ (bA p k cV s' u) i*(stM k cV x i q*R q j)) fun q _=>Int.mul_assoc _ _ _,q9,Int.mul_emod,F.st x (by omega) i hi j hj,<-Int.mul_emod]
  rw[e2,dP (g:=fun i=>sm n (fun t=>aQ (bA p k cV s' u) i*(R i t*stM n ms x t j))) fun i _=>(q9 _ _ n).symm,yE]
  refine j3 fun t ht=>?_
  rw[dP (g:=fun i=>aQ (bA p k cV s' u) i*R i t*stM n ms x t j) fun i _=>(Int.mul_assoc _ _ _).symm,yD,Int.mul_emod,ih t ht,<-Int.mul_emod]
theorem GG {k:Nat} {R:aL} {s' b':List Int} {cV:List bJ} (H:cM p n s ms b) (H':cM p k s' cV b') (F:Ey p n ms s b k R s' cV b') {w:Wd} (hw:fe ms.length w):
  dH ((p,(k:Int),s',cV,b'),w)=dH ((p,(n:Int),s,ms,b),w):=by
 unfold dH
 simp only[Int.toNat_natCast]
 rw[rH,rH,(pM (n:=n) (ms:=ms) H.p w s H.al H.ap).1,(pM (n:=k) (ms:=cV) H.p w s' H'.al H'.ap).1]
 have e1:sm k (fun q=>aQ (bA p k cV s' w) q*aQ b' q)%p=sm k (fun q=>aQ (bA p k cV s' w) q*sm n (fun t=>R q t*aQ b t))%p:=
  j3 fun q hq=>by rw[F.fin q hq,Int.mul_emod,Int.emod_emod,<-Int.mul_emod]
 rw[e1,dP (g:=fun q=>sm n (fun t=>aQ (bA p k cV s' w) q*(R q t*aQ b t))) fun q _=>(q9 _ _ n).symm,yE]
 refine j3 fun t ht=>?_
 rw[dP (g:=fun q=>aQ (bA p k cV s' w) q*R q t*aQ b t) fun q _=>(Int.mul_assoc _ _ _).symm,yD,Int.mul_emod,Ll F w.length w rfl hw t ht,<-Int.mul_emod]
theorem acC {k:Nat} {R:aL} {s' b':List Int} {cV:List bJ} (H:cM p n s ms b) (H':cM p k s' cV b') (F:Ey p n ms s b k R s' cV b') {i:Nat} (hi:i<k):
  ∃u,fe ms.length u/\∀q,q<k->aQ (bA p k cV s' u) q=if q=i then 1 else 0:=by
 obtain⟨u,hu,hR⟩:=F.words i hi
 refine⟨u,hu,fun q hq=>?_⟩
 have mJ:=H.p.1
 have h:=aeO H.pr F.WE F.rk (y:=fun q=>aQ (bA p k cV s' u) q+(-1)*(if q=i then 1 else 0)) (fun j hj=>by
  have e:sm k (fun q=>(aQ (bA p k cV s' u) q+(-1)*(if q=i then 1 else 0))*R q j)=sm k (fun q=>aQ (bA p k cV s' u) q*R q j)+(-1)*R i j:=by
   have e1:sm k (fun q=>(if q=i then 1 else 0)*R q j)=R i j:=by
    rw[oM (a:=i) k hi fun q _ aw=>by rw[if_neg aw];simp,if_pos rfl,Int.one_mul]
   rw[<-e1,<-q9,<-IH]
   exact dP fun q _=>by rw[Int.add_mul,Int.mul_assoc]
  rw[e,Int.add_emod,Ll F u.length u rfl hu j hj,<-Int.add_emod,hR j hj]
  have:aQ (bA p n ms s u) j+ -1*aQ (bA p n ms s u) j=0:=by omega
  rw[this];simp) q hq
 have eo:=Yx H'.b u hq
 have h2:aQ (bA p k cV s' u) q%p=(if q=i then 1 else 0)%p:=by
  apply Int.emod_eq_emod_iff_emod_sub_eq_zero.2
  rw[<-h]
  congr 1
  omega
 rw[abg eo] at h2
 rw[h2]
 split
 ·exact Int.emod_eq_of_lt (by decide) (by omega)
 ·simp
theorem HT {m:Nat} {s2 b2:List Int} {ms2:List bJ} (H:cM p n s ms b) (H2:cM p m s2 ms2 b2) (hl:ms2.length=ms.length) (hW:∀w,fe ms.length w->dH ((p,(m:Int),s2,ms2,b2),w)=dH ((p,(n:Int),s,ms,b),w)):
  (qS (p,(n:Int),s,ms,b)).2.1<=(m:Int):=by
 obtain⟨k1,s1,b1,tV,R1,e1,H1,l1,_,F1⟩:=CC H
 have Hc:=Bd H1
 obtain⟨k3,s3,b3,AO,R3,e3,H3,l3,_,F3⟩:=CC Hc
 have em:qS (p,(n:Int),s,ms,b)=mf (p,(k3:Int),s3,AO,b3):=by
  unfold qS
  rw[e1,show mf (p,(k1:Int),s1,tV,b1)=(p,(k1:Int),b1,tV.map gf,s1) from rfl,e3]
 rw[em]
 show(k3:Int)<=(m:Int)
 have vi:∀i,∃u:Wd,i<k1->fe ms.length u/\∀q,q<k1->aQ (bA p k1 tV s1 u) q=if q=i then 1 else 0:=fun i=>by
  by_cases hi:i<k1
  ·obtain⟨u,h1,h2⟩:=acC H H1 F1 hi
   exact⟨u,fun _=>⟨h1,h2⟩⟩
  ·exact⟨[],fun h=>absurd h hi⟩
 obtain⟨U,hU⟩:=Classical.axiomOfChoice vi
 have hQ:bZ p m k1 (fun t i=>aQ (bA p m ms2 s2 (U i)) t):=fun t ht i hi=>Yx H2.b (U i) ht
 have tG:∀i,i<k3->Sp p m k1 (fun t i=>aQ (bA p m ms2 s2 (U i)) t) (R3 i):=by
  intro i hi
  obtain⟨v,hv,hR⟩:=F3.words i hi
  rw[List.length_map,l1] at hv
  refine⟨fun t=>aQ (bA p m (ms2.map gf) b2 v) t,fun q hq=>?_⟩
  obtain⟨u1,u2⟩:=hU q hq
  have Mq:fe ms.length v.reverse:=fun c hc=>hv c (List.mem_reverse.1 hc)
  have VV:fe ms.length (U q++v.reverse):=fun c hc=>by
   rcases List.mem_append.1 hc with h|h
   ·exact u1 c h
   ·exact Mq c h
  have a1:=Ji H1 v.reverse (U q) (by rw[l1];exact Mq)
  have a2:=Ji H2 v.reverse (U q) (by rw[hl];exact Mq)
  rw[List.reverse_reverse] at a1 a2
  rw[GG H H1 F1 VV,oM (a:=q) k1 hq fun t ht aw=>by rw[u2 t ht,if_neg aw];simp,u2 q hq,if_pos rfl,Int.one_mul] at a1
  rw[hW _ VV] at a2
  rw[hR q hq,<-a1,a2]
  congr 1
  exact dP fun t _=>Int.mul_comm _ _
 have h1:=Yr H.pr F3.WE hQ fun x hx=>ru tG hx
 rw[F3.rk] at h1
 have h2:=(oH H.p hQ k1).l
 omega
theorem HS (H:cM p n s ms b):∃(k:Nat) (s' b':List Int) (cV:List bJ),qS (p,(n:Int),s,ms,b)=(p,(k:Int),s',cV,b')/\cM p k s' cV b'/\cV.length=ms.length/\k<=n/\∀w,fe ms.length w->dH ((p,(k:Int),s',cV,b'),w)=dH ((p,(n:Int),s,ms,b),w):=by
 obtain⟨k1,s1,b1,tV,R1,e1,H1,l1,q1,F1⟩:=CC H
 have Hc:=Bd H1
 obtain⟨k3,s3,b3,AO,R3,e3,H3,l3,q3,F3⟩:=CC Hc
 have h1:=(vU H.b).kn
 have h2:=(vU Hc.b).kn
 rw[<-q1] at h1
 rw[<-q3] at h2
 rw[List.length_map] at l3
 refine⟨k3,b3,s3,AO.map gf,?_,Bd H3,by rw[List.length_map];omega,by omega,fun w hw=>?_⟩
 ·unfold qS
  rw[e1,show mf (p,(k1:Int),s1,tV,b1)=(p,(k1:Int),b1,tV.map gf,s1) from rfl,e3]
  rfl
 ·have VZ:fe ms.length w.reverse:=fun c hc=>hw c (List.mem_reverse.1 hc)
  rw[Z3 H3 (by rw[l3,l1];exact hw),GG Hc H3 F3 (by rw[List.length_map,l1];exact VZ),Z3 H1 (by rw[l1];exact VZ),List.reverse_reverse,GG H H1 F1 hw]
end
end Go.Am
end
section
namespace Go.Am
def wD:bz->Option (List (List Int)):=fun x=>if p9 x<=1048576 then some (if fD x=true then(cZ x).1 else[]) else none
def Fh:av:=[(.agg,[.int .i64,.int .i64,.list [.int .i64],.list [.int .i64,.int .i64,.list [.int .i64]],.list [.int .i64]])]
def P2:av:=[(.one,[.list [.list [.int .i64]]])]
def agM:bo:=[[some .aA]]
def Jz (NN:Nat):(Int×(Int×((List Int)×((List (Int×(Int×(List Int))))×(List Int)))))->(Option (List (List Int))):=
 (fun((i0,i1,l2,l3,l4):(Int×(Int×((List Int)×((List (Int×(Int×(List Int))))×(List Int))))))=>
 (jf (i0,i1,l2,l3,l4)).ab (fun b5=>
 aY (me b5)
 (some (([]:List (List Int))))
 ((rn (i0,i1,l2,l3,l4)).ab (fun(l6,i7,i8,l9)=>
 some l6))))
theorem ab1 (x:bz) (z:List (List Int)) (h:wD x=some z):Jz aN x=some z:=by
 unfold wD at h
 split at h
 ·rename_i hs
  rw[<-h]
  obtain⟨x0,x1,x2,x3,x4⟩:=x
  simp only[Jz]
  rw[show jf (x0,x1,x2,x3,x4)=some (fD (x0,x1,x2,x3,x4)) from if_pos hs]
  simp only[az]
  by_cases ha:fD (x0,x1,x2,x3,x4)=true
  ·rw[ha,bG (by rfl),if_pos rfl,show rn (x0,x1,x2,x3,x4)=_ from if_pos (JW ha)]
   rfl
  ·rw[Bool.eq_false_iff.2 ha,bH (by rfl),if_neg (by simp)]
 ·cases h
end Go.Am
end
section
namespace Go.Am
def rF (x y:bz):bz:=wl x y (x.1 - 1)
def Gf (x y:bz):Wd×Bool:=match(cZ (rF x y)).1.find? (fun w=>decide (dH (rF x y,w)≠0)) with
 |some w=>(w,true)
 |none=>([],false)
def Js:bz×bz->Option (List Int×Bool):=fun(x:bz×bz)=>if p9 x.1<=1048576/\p9 x.2<=1048576 then some (if oS x.1 x.2=true then Gf x.1 x.2 else([],false)) else none
def wA:bz×bz->Option (List Int×Bool):=Js
def E8:av:=[(.agg,[.int .i64,.int .i64,.list [.int .i64],.list [.int .i64,.int .i64,.list [.int .i64]],.list [.int .i64]]),(.agg,[.int .i64,.int .i64,.list [.int .i64],.list [.int .i64,.int .i64,.list [.int .i64]],.list [.int .i64]])]
def PU:av:=[(.one,[.list [.int .i64]]),(.one,[.bool])]
def agH:bo:=[]
def BM (NN:Nat):((Int×(Int×((List Int)×((List (Int×(Int×(List Int))))×(List Int)))))×(Int×(Int×((List Int)×((List (Int×(Int×(List Int))))×(List Int))))))->(Option ((List Int)×Bool)):=
 (fun(((i0,i1,l2,l3,l4),i5,i6,l7,l8,l9):((Int×(Int×((List Int)×((List (Int×(Int×(List Int))))×(List Int)))))×(Int×(Int×((List Int)×((List (Int×(Int×(List Int))))×(List Int)))))))=>
 (qg ((i0,i1,l2,l3,l4),i5,i6,l7,l8,l9)).ab (fun oV=>
 aY (me oV)
 (some (([]:List Int),false))
 ((sN ((i0,i1,l2,l3,l4),i5,i6,l7,l8,l9)).ab (fun(da,c7,eA,cI,ca)=>
 cT ((af 0 (aa eA) (aa eA)).ab (fun _=>
 (af 0 (aa cI) (aa cI)).ab (fun _=>
 (af 0 (aa ca) (aa ca)).ab (fun _=>
 bQ NN (fun((dA,(gw,eP,f8,e8,fH),(jt,fk),fm,dz,cP):(Int×((Int×(Int×((List Int)×((List (Int×(Int×(List Int))))×(List Int)))))×((Int×Int)×((List Int)×((List (Int×(Int×(List Int))))×(List Int)))))))=>
 aY (cr dA fk)
 ((jH dA (aa cP)).ab (fun k27=>
 (gA cP (bF 0 k27)).ab (fun iR=>
 (kB (wk .i64 gw iR) gw).ab (fun tL=>
 (jH dA (aa cP)).ab (fun Nq=>
 (gA cP (bF 0 Nq)).ab (fun ju=>
 (af 0 (aa fm) (aa fm)).ab (fun _=>
 (af 0 (aa dz) (aa dz)).ab (fun _=>
 (af 0 (aa cP) (aa (db cP (bF 0 Nq) tL))).ab (fun _=>
 some (Sum.inl (bS .i64 dA 1,(gw,eP,f8,e8,fH),(jt,fk),fm,dz,db cP (bF 0 Nq) tL)))))))))))
 (((af 0 (aa fm) (aa fm)).ab (fun _=>
 (af 0 (aa dz) (aa dz)).ab (fun _=>
 (af 0 (aa cP) (aa cP)).ab (fun _=>
 some (Sum.inl ((jt,fk),fm,dz,cP)))))).ab (fun eJ=>
 some (Sum.inr eJ))))
 (i1,(i0,i1,l2,l3,l4),(da,c7),eA,cI,ca)))))
 (fun((pu,gH),sn,ky,gJ)=>
 (dc sn (aa sn)).ab (fun gK=>
 (dc ky (aa ky)).ab (fun iV=>
 (dc gJ (aa gJ)).ab (fun fy=>
 (rn (pu,gH,gK,iV,fy)).ab (fun(lv,iS,kv,pD)=>
 cT (bQ NN (fun(((yb,lT,gZ),lU,tM,iW,jX,iY):(((List (List Int))×(Int×Int))×(Int×(Int×((List Int)×((List (Int×(Int×(List Int))))×(List Int)))))))=>
 aY (cr gZ lT)
 ((ji yb gZ).ab (fun lx=>
 (sO ((lU,tM,iW,jX,iY),lx)).ab (fun pz=>
 aY (lA pz (0:Int))
 ((ix lx).ab (fun gL=>
 (((dc gL (aa gL)).ab (fun mO=>
 some (mO,true))).ab (fun((vA,b58):((List Int)×Bool))=>
 some (Sum.inr (vA,b58)))).ab (fun jA=>
 some (Sum.inr jA))))
 (some (Sum.inl ((yb,lT,bS .i64 gZ 1),lU,tM,iW,jX,iY))))))
 (some (Sum.inr (Sum.inl ()))))
 ((lv,bj (aa lv),(0:Int)),pu,gH,gK,iV,fy))
 (fun _=>
 some (([]:List Int),false)))))))))))
theorem agw {X Y α:Type} {f:X->Option (X⊕Y)} (es:List α) (mk:Nat->X) (p:α->Bool) (u9:α->Y) (wU:Y)
  (h1:∀i a,es[i]? =some a->p a=false->f (mk i)=some (.inl (mk (i+1)))) (h2:∀i a,es[i]? =some a->p a=true->f (mk i)=some (.inr (u9 a))) (h3:f (mk es.length)=some (.inr wU))
  {x0:X} (h0:x0=mk 0) {N:Nat} (hN:es.length<N):bQ N f x0=some (match es.find? p with|some a=>u9 a|none=>wU):=by
 subst h0
 have cu:∀(k i:Nat),i+k=es.length->∀N,k<N->bQ N f (mk i)=some (match(es.drop i).find? p with|some a=>u9 a|none=>wU):=by
  intro k
  induction k with
  |zero=>
   intro i hi N hN
   obtain⟨N,rfl⟩:∃m,N=m+1:=⟨N - 1,by omega⟩
   have:i=es.length:=by omega
   subst this
   rw[List.drop_length]
   show(match f (mk es.length) with|some (.inl x)=>bQ N f x|some (.inr y)=>some y|none=>none)=_
   rw[h3]
   rfl
  |succ k ih=>
   intro i hi N hN
   obtain⟨N,rfl⟩:∃m,N=m+1:=⟨N - 1,by omega⟩
   have bL:i<es.length:=by omega
   have hg:=List.getElem?_eq_getElem bL
   rw[drop_cons hg]
   show(match f (mk i) with|some (.inl x)=>bQ N f x|some (.inr y)=>some y|none=>none)=_
   cases hp:p es[i] with
   |true=>
    rw[h2 i _ hg hp,List.find?_cons_of_pos hp]
   |false=>
    rw[h1 i _ hg hp,List.find?_cons_of_neg (by rw[hp];simp)]
    exact ih (i+1) (by omega) N (by omega)
 have:=cu es.length 0 (by omega) N hN
 rwa[List.drop_zero] at this
section
variable {p:Int} {n m:Nat} {a b a2 b2:List Int} {ms ms2:List bJ}
theorem Ge:rF (p,(n:Int),a,ms,b) (p,(m:Int),a2,ms2,b2)=(p,((n+m:Nat):Int),a++a2,d9 n m ms ms2 ms.length,b++b2.map fun v=>v*(p - 1)%p):=by
 unfold rF wl
 simp only[Int.toNat_natCast]
theorem akK (H:cM p n a ms b) (H2:cM p m a2 ms2 b2) (hl:ms.length=ms2.length) {c:List Int} (hc:c.length=m) (u0:dR p c):kf p (n+m) (a++a2) (d9 n m ms ms2 ms.length) (b++c):=by
 have hp:=H.p
 have hn:=H.hn
 have hm:=H2.hn
 refine⟨H.pr,by omega,by rw[List.length_append,H.al,H2.al],?_,by rw[List.length_append,H.bl,hc],?_,by rw[oN];exact H.l1,by rw[oN];exact H.l4,?_⟩
 ·intro x hx
  rcases List.mem_append.1 hx with h|h
  ·exact H.ap x h
  ·exact H2.ap x h
 ·intro x hx
  rcases List.mem_append.1 hx with h|h
  ·exact H.bp x h
  ·exact u0 x h
 ·intro x hx
  obtain⟨c,hc,rfl⟩:=List.mem_map.1 hx
  have hc:=List.mem_range.1 hc
  refine⟨_,rfl,?_⟩
  have h1:=(Br H hc).2
  have h2:=(Br H2 (k:=c) (by omega)).2
  intro i hi j hj
  unfold nM
  split
  ·rename_i h;exact h1 i h.1 j h.2
  ·split
   ·rename_i h;exact h2 _ (by omega) _ (by omega)
   ·exact⟨Int.le_refl _,by have:=hp.1;omega⟩
theorem ah0 (hp:cY p) (l:List Int):dR p (l.map fun v=>v*(p - 1)%p):=by
 intro x hx
 obtain⟨v,_,rfl⟩:=List.mem_map.1 hx
 exact⟨Int.emod_nonneg _ (by have:=hp.1;omega),Int.emod_lt_of_pos _ (by have:=hp.1;omega)⟩
theorem Kx (H:cM p n a ms b) (H2:cM p m a2 ms2 b2) (hl:ms.length=ms2.length):kf p (n+m) (a++a2) (d9 n m ms ms2 ms.length) (b++b2.map fun v=>v*(p - 1)%p):=
 akK H H2 hl (by rw[List.length_map,H2.bl]) (ah0 H.p b2)
theorem aif {l:List Int} (h:dR p l):(l.map fun v=>v*1%p)=l:=by
 have:∀v∈l,(fun v:Int=>v*1%p) v=id v:=fun v hv=>by
  have:=h v hv
  simp only[id,Int.mul_one]
  exact Int.emod_eq_of_lt this.1 this.2
 rw[List.map_congr_left this,List.map_id]
theorem ah2 {v:Int} (h:0<=v/\v<p):(p - v)%p=v*(p - 1)%p:=by
 have e:v*(p - 1)=(p - v)+p*(v - 1):=by grind
 rw[e,Int.add_mul_emod_self_left]
theorem ajY {α:Type} (l r:List α) (v x:α) (k:Nat) (hk:k=l.length):db (l++v::r) k x=l++x::r:=by
 subst hk
 unfold db
 rw[List.set_append_right _ _ (Nat.le_refl _),Nat.sub_self]
 rfl
theorem acT {α:Type} (l r:List α) (v:α) (k:Nat) (hk:k=l.length):gA (l++v::r) k=some v:=by
 subst hk
 unfold gA
 rw[List.getElem?_append_right (Nat.le_refl _),Nat.sub_self]
 rfl
theorem T2 (H:cM p n a ms b) (H2:cM p m a2 ms2 b2) (hl:ms.length=ms2.length):∀w∈(cZ (rF (p,(n:Int),a,ms,b) (p,(m:Int),a2,ms2,b2))).1,fe ms.length w/\w.length<=24:=by
 have hn:=H.hn
 have hm:=H2.hn
 rw[Ge]
 intro w hw
 have B:=(vU (Kx H H2 hl)).wo w hw
 rw[oN] at B
 exact⟨B.1,by omega⟩
theorem aa9 (H:cM p n a ms b) (H2:cM p m a2 ms2 b2) (hl:ms.length=ms2.length) {w:Wd} (hw:fe ms.length w) (hwl:w.length<=24):
  sO (rF (p,(n:Int),a,ms,b) (p,(m:Int),a2,ms2,b2),w)=some (dH (rF (p,(n:Int),a,ms,b) (p,(m:Int),a2,ms2,b2),w)):=by
 rw[Ge]
 simp only[sO]
 refine if_pos ⟨BX (Kx H H2 hl),?_,show w.length<=1048576 by omega⟩
 dsimp only
 rw[oN]
 exact hw
theorem acF (H:cM p n a ms b) (H2:cM p m a2 ms2 b2) (hl:ms.length=ms2.length):
  BM aN ((p,(n:Int),a,ms,b),p,(m:Int),a2,ms2,b2)=some (Gf (p,(n:Int),a,ms,b) (p,(m:Int),a2,ms2,b2)):=by
 have hp:=H.p
 have mJ:=hp.1
 have hn:=H.hn
 have hm:=H2.hn
 have hb:=H.bl
 have GR:=H2.bl
 have s1:=ry H
 have s2:=ry H2
 have th:=JS H H2 hl
 have hB:=Kx H H2 hl
 simp only[BM]
 rw[show qg ((p,(n:Int),a,ms,b),p,(m:Int),a2,ms2,b2)=some true by
  simp only[qg,Ew]
  rw[if_pos ⟨by omega,by omega⟩,th],az,bG (by rfl)]
 rw[show sN ((p,(n:Int),a,ms,b),p,(m:Int),a2,ms2,b2)=some (p,((n+m:Nat):Int),a++a2,d9 n m ms ms2 ms.length,b++b2) by
  simp only[sN]
  rw[if_pos th]
  simp only[wl,Int.toNat_natCast]
  rw[aif H2.bp]]
 simp only[az,cm]
 rw[gM (fun j=>(((n+j:Nat):Int),(p,(n:Int),a,ms,b),(p,((n+m:Nat):Int)),a++a2,d9 n m ms ms2 ms.length,(b++(b2.take j).map fun v=>v*(p - 1)%p)++b2.drop j)) m ?a1 ?a2 ?a3 (dQ (by omega))]
 case a3=>simp only[List.take_zero,List.map_nil,List.append_nil,List.drop_zero,Nat.add_zero]
 case a2=>
  dsimp only
  rw[bG (eU (by omega))]
  try simp only[cm,az]
 case a1=>
  intro j hj
  dsimp only
  rw[bH (eV (by omega))]
  have CN:j<b2.length:=by omega
  have hg:=List.getElem?_eq_getElem CN
  have hv:=H2.bp _ (List.getElem_mem CN)
  rw[drop_cons hg]
  generalize b2[j]=v at hg hv
  have hlen:(b++(b2.take j).map fun v=>v*(p - 1)%p).length=n+j:=by rw[List.length_append,List.length_map,List.length_take];omega
  have hll:n+j<aa ((b++(b2.take j).map fun v=>v*(p - 1)%p)++v::b2.drop (j+1)):=by
   unfold aa
   rw[List.length_append,hlen,List.length_cons];omega
  rw[wV hll]
  simp only[az,y9]
  rw[acT _ _ _ _ hlen.symm]
  have tz:=hp.2
  simp only[az]
  rw[Ef (by have:=hv.1;have:=hv.2;omega) (by have:=hv.1;have:=hv.2;omega),YD (by have:=hv.2;omega) (by omega),az]
  try simp only[cm,az]
  rw[ajY _ _ _ _ _ hlen.symm,ah2 hv]
  rw[show af 0 (aa ((b++(b2.take j).map fun v=>v*(p - 1)%p)++v::b2.drop (j+1))) (aa ((b++(b2.take j).map fun v=>v*(p - 1)%p)++(v*(p - 1)%p)::b2.drop (j+1)))=some () from tf (by simp[aa]),az]
  rw[lF (by omega) (by omega),List.take_add_one,hg]
  simp only[List.map_append,Option.toList_some,List.map_cons,List.map_nil,List.append_assoc,List.singleton_append,List.cons_append,List.nil_append]
  rfl
 rw[eH]
 simp only[kG,az]
 rw[List.take_of_length_le (show b2.length<=m by omega),List.drop_of_length_le (show b2.length<=m by omega),List.append_nil]
 have hD:=Ge (p:=p) (n:=n) (m:=m) (a:=a) (b:=b) (a2:=a2) (b2:=b2) (ms:=ms) (ms2:=ms2)
 have qL:=T2 H H2 hl
 have Mt:=fun(w:Wd) h1 h2=>aa9 H H2 hl (w:=w) h1 h2
 unfold Gf
 rw[hD] at qL Mt⊢
 rw[show rn (p,((n+m:Nat):Int),a++a2,d9 n m ms ms2 ms.length,b++b2.map fun v=>v*(p - 1)%p)=_ from if_pos (BX hB)]
 simp only[az]
 have ib:=(vU hB).kn
 generalize (cZ (p,((n+m:Nat):Int),a++a2,d9 n m ms ms2 ms.length,b++b2.map fun v=>v*(p - 1)%p))=R at qL ib
 rw[agw R.1 (fun i=>((R.1,bj (aa R.1),(i:Int)),p,((n+m:Nat):Int),a++a2,d9 n m ms ms2 ms.length,b++b2.map fun v=>v*(p - 1)%p))
  (fun w=>decide (dH ((p,((n+m:Nat):Int),a++a2,d9 n m ms ms2 ms.length,b++b2.map fun v=>v*(p - 1)%p),w)≠0)) (fun w=>Sum.inr (w,true)) (Sum.inl ()) ?b1 ?b2 ?b3 ?b0 (dQ ?bl)]
 case b0=>rfl
 case bl=>omega
 case b3=>dsimp only;rw[bG (HO R.1)]
 case b1=>
  intro i w hg hq
  have hq:dH ((p,((n+m:Nat):Int),a++a2,d9 n m ms ms2 ms.length,b++b2.map fun v=>v*(p - 1)%p),w)=0:=by
   have:=of_decide_eq_false hq
   simpa using this
  obtain⟨w1,w2⟩:=qL w (List.mem_of_getElem? hg)
  dsimp only
  rw[bH (ye hg),kl,hg,az,Mt w w1 w2,az,hq,bG (by rfl),Dw hg (by omega)]
 case b2=>
  intro i w hg hq
  have hq:=of_decide_eq_true hq
  obtain⟨w1,w2⟩:=qL w (List.mem_of_getElem? hg)
  dsimp only
  rw[bH (ye hg),kl,hg,az,Mt w w1 w2,az,bH (show lA _ 0=true from bne_iff_ne.2 hq),show ix w=some w from if_pos (by omega),az]
  try simp only[kG,az]
 cases R.1.find? (fun w=>decide (dH ((p,((n+m:Nat):Int),a++a2,d9 n m ms ms2 ms.length,b++b2.map fun v=>v*(p - 1)%p),w)≠0)) with
 |none=>simp only[eH]
 |some w=>simp only[Nn]
end
theorem abT (x:bz×bz) (z:List Int×Bool) (h:wA x=some z):BM aN x=some z:=by
 obtain⟨x,y⟩:=x
 simp only[wA,Js] at h
 split at h
 ·rename_i hs
  rw[<-h]
  by_cases ha:oS x y=true
  ·rw[if_pos ha]
   obtain⟨p,n,m,a,b,a2,b2,ms,ms2,rfl,rfl,H,H2,hl⟩:=JR ha
   exact acF H H2 hl
  ·rw[if_neg ha]
   obtain⟨x0,x1,x2,x3,x4⟩:=x
   obtain⟨y0,y1,y2,y3,y4⟩:=y
   simp only[BM]
   rw[show qg ((x0,x1,x2,x3,x4),y0,y1,y2,y3,y4)=some false by
    simp only[qg,Ew]
    rw[if_pos hs,Bool.eq_false_iff.2 ha],az]
   rfl
 ·cases h
end Go.Am
end
section
namespace Go.Am
section
variable {p:Int} {n m:Nat} {a b a2 b2:List Int} {ms ms2:List bJ}
theorem abe {x c:List Int} (hl:x.length=c.length):nX p x (c.map fun v=>v*(p - 1)%p)=nX p x c*(p - 1)%p:=by
 rw[rH,rH,Int.mul_emod,Int.emod_emod,<-Int.mul_emod,<-yD]
 refine j3 fun t ht=>?_
 have e:aQ (c.map fun v=>v*(p - 1)%p) t=aQ c t*(p - 1)%p:=by
  unfold aQ
  rw[List.getD_eq_getElem?_getD,List.getElem?_map,List.getD_eq_getElem?_getD,List.getElem?_eq_getElem (show t<c.length by omega)]
  rfl
 rw[e,Int.mul_emod,Int.emod_emod,<-Int.mul_emod,Int.mul_assoc]
theorem alg (H:cM p n a ms b) (H2:cM p m a2 ms2 b2) (hl:ms.length=ms2.length) {w:List Int} (hw:fe ms.length w):
  dH (rF (p,(n:Int),a,ms,b) (p,(m:Int),a2,ms2,b2),w)=0↔dH ((p,(n:Int),a,ms,b),w)=dH ((p,(m:Int),a2,ms2,b2),w):=by
 rw[Ge]
 have hp:=H.p
 have mJ:=hp.1
 have u1:=Z1 (n:=n) (a:=a) (b:=b) (ms:=ms) (w:=w) hp
 have u2:=Z1 (n:=m) (a:=a2) (b:=b2) (ms:=ms2) (w:=w) hp
 have e:dH ((p,((n+m:Nat):Int),a++a2,d9 n m ms ms2 ms.length,b++b2.map fun v=>v*(p - 1)%p),w)=(dH ((p,(n:Int),a,ms,b),w)+dH ((p,(m:Int),a2,ms2,b2),w)*(p - 1)%p)%p:=by
  unfold dH
  simp only[Int.toNat_natCast]
  rw[PE w a a2 H.al H2.al (fun c hc=>by have:=hw c hc;omega)]
  rw[T5 (by rw[(pM H.p w a H.al H.ap).1,H.bl]),abe (by rw[(pM H.p w a2 H2.al H2.ap).1,H2.bl])]
 rw[e]
 generalize dH ((p,(n:Int),a,ms,b),w)=x at u1
 generalize dH ((p,(m:Int),a2,ms2,b2),w)=y at u2
 have e2:(x+y*(p - 1)%p)%p=(x - y)%p:=by
  rw[Int.add_emod,Int.emod_emod,<-Int.add_emod,show x+y*(p - 1)=(x - y)+p*y by grind,Int.add_mul_emod_self_left]
 rw[e2]
 constructor
 ·intro h
  have:=Int.dvd_of_emod_eq_zero h
  obtain⟨k,hk⟩:=this
  have rQ:k=0:=by
   by_cases h1:k>=1
   ·have:p*1<=p*k:=Int.mul_le_mul_of_nonneg_left h1 (by omega)
    omega
   ·by_cases h2:k<= -1
    ·have:p*k<=p*(-1):=Int.mul_le_mul_of_nonneg_left h2 (by omega)
     omega
    ·omega
  rw[rQ] at hk
  omega
 ·intro h
  rw[h,Int.sub_self,Int.zero_emod]
end
end Go.Am
end
section
namespace Go.Am
def FI:av:=[(.ptr,[.list [.int .u8],.int .i64,.int .i64]),(.one,[.int .i64]),(.one,[.int .i64]),(.one,[.int .i64])]
def Qs:av:=[(.agg,[.int .i64,.int .i64,.list [.int .i64]]),(.ptr,[.list [.int .u8],.int .i64,.int .i64])]
def ahc:bo:=[[some .aA]]
def EU (NN:Nat):(((List Int)×(Int×Int))×(Int×(Int×Int)))->(Option ((Int×(Int×(List Int)))×((List Int)×(Int×Int)))):=
 (fun(((l0,i1,i2),i3,i4,i5):(((List Int)×(Int×Int))×(Int×(Int×Int))))=>
 (wG (i4,i5)).ab (fun(i6,i7,l8)=>
 cT ((af 0 0 (aa (([]:List Int)))).ab (fun _=>
 (af 0 (aa l8) (aa l8)).ab (fun _=>
 bQ NN (fun(((i9,dj,da,c7,dX),(cI,jr,dA),(gw,eP),(dY,gG),fH,dm):((Int×(Int×(Int×(Int×Int))))×(((List Int)×(Int×Int))×((Int×Int)×((Int×Int)×((List Int)×(List Int)))))))=>
 aY (cr dX c7)
 ((wF ((cI,jr,dA),(3:Int))).ab (fun(b23,fm,kt,ku)=>
 aY (me b23)
 ((nQ ((fm,kt,ku),su i9 (256:Int))).ab (fun(jQ,jw,tL,lb)=>
 (jH dX (aa dm)).ab (fun Nr=>
 (gA dm (bF 0 Nr)).ab (fun Ab=>
 (af 0 (aa fH) (aa fH)).ab (fun _=>
 (af 0 (aa dm) (aa (db dm (bF 0 Nr) jQ))).ab (fun _=>
 some (Sum.inl ((i9,dj,da,c7,bS .i64 dX 1),(jw,tL,lb),(gw,eP),(dY,gG),fH,db dm (bF 0 Nr) jQ))))))))
 ((af 0 (aa fH) (aa fH)).ab (fun _=>
 (af 0 (aa dm) (aa dm)).ab (fun _=>
 some (Sum.inl ((i9,dj,da,c7,bS .i64 dX 1),(fm,kt,ku),(gw,eP),(dY,gG),fH,dm)))))))
 (((af 0 (aa fH) (aa fH)).ab (fun _=>
 (af 0 (aa dm) (aa dm)).ab (fun _=>
 some (Sum.inl ((dj,da),(cI,jr,dA),(gw,eP),(dY,gG),fH,dm))))).ab (fun fo=>
 some (Sum.inr fo))))
 ((i3,i4,i5,bj (aa l8),(0:Int)),(l0,i1,i2),((0:Int),(0:Int)),(i6,i7),([]:List Int),l8))))
 (fun((gH,fN),(ky,lf,lR),(od,xN),(nu,iS),lZ,pD)=>
 aY (cr (1:Int) gH)
 ((wF ((ky,lf,lR),(3:Int))).ab (fun(b45,kz,gZ,lU)=>
 cT (aY (b45)
 ((af 0 (aa lZ) (aa lZ)).ab (fun _=>
 (af 0 (aa pD) (aa pD)).ab (fun _=>
 bQ NN (fun(((tM,nv),(jX,oe,pw),(pz,C8),(qO,kw),vB,jA):((Int×Int)×(((List Int)×(Int×Int))×((Int×Int)×((Int×Int)×((List Int)×(List Int)))))))=>
 aY (cr nv tM)
 ((jH nv (aa jA)).ab (fun k60=>
 (gA jA (bF 0 k60)).ab (fun oh=>
 (jH (bS .i64 tM nv) (aa jA)).ab (fun Ns=>
 (gA jA (bF 0 Ns)).ab (fun nw=>
 (af 0 (aa vB) (aa vB)).ab (fun _=>
 (af 0 (aa jA) (aa (db jA (bF 0 Ns) oh))).ab (fun _=>
 some (Sum.inl ((tM,bS .i64 nv 1),(jX,oe,pw),(pz,C8),(qO,kw),vB,db jA (bF 0 Ns) oh)))))))))
 (((af 0 (aa vB) (aa vB)).ab (fun _=>
 (af 0 (aa jA) (aa jA)).ab (fun _=>
 some (Sum.inl ((jX,oe,pw),(pz,C8),(qO,kw),vB,jA))))).ab (fun pE=>
 some (Sum.inr pE))))
 ((fN,(0:Int)),(kz,gZ,lU),(od,xN),(nu,iS),lZ,pD))))
 ((af 0 (aa lZ) (aa lZ)).ab (fun _=>
 (af 0 (aa pD) (aa pD)).ab (fun _=>
 some (Sum.inl ((kz,gZ,lU),(od,xN),(nu,iS),lZ,pD))))))
 (fun((qP,xO,r6),(r7,Ht),(MW,C9),vE,yc)=>
 (cv yc 0 (aa yc)).ab (fun vF=>
 some ((MW,C9,vF),qP,xO,r6)))))
 (cT ((af 0 (aa lZ) (aa lZ)).ab (fun _=>
 (af 0 (aa pD) (aa pD)).ab (fun _=>
 some (Sum.inl ((ky,lf,lR),(od,xN),(nu,iS),lZ,pD)))))
 (fun((pF,mN,ou),(r8,lg),(ov,MX),ik,mP)=>
 (cv mP 0 (aa mP)).ab (fun N7=>
 some ((ov,MX,N7),pF,mN,ou)))))))
def uw:(((List Int)×(Int×Int))×(Int×(Int×Int)))->(Option ((Int×(Int×(List Int)))×((List Int)×(Int×Int)))):=EU aN
theorem acu (x:(((List Int)×(Int×Int))×(Int×(Int×Int)))) (z:((Int×(Int×(List Int)))×((List Int)×(Int×Int)))) (h:uw x=some z):EU aN x=some z:=h
def FK:av:=[(.ptr,[.list [.int .u8],.int .i64,.int .i64]),(.one,[.int .i64]),(.one,[.int .i64]),(.one,[.int .i64])]
def Qu:av:=[(.agg,[.int .i64,.int .i64,.list [.int .i64],.list [.int .i64,.int .i64,.list [.int .i64]],.list [.int .i64]]),(.ptr,[.list [.int .u8],.int .i64,.int .i64])]
def ahe:bo:=[[some .aA]]
def EW (NN:Nat):(((List Int)×(Int×Int))×(Int×(Int×Int)))->(Option ((Int×(Int×((List Int)×((List (Int×(Int×(List Int))))×(List Int)))))×((List Int)×(Int×Int)))):=
 (fun(((l0,i1,i2),i3,i4,i5):(((List Int)×(Int×Int))×(Int×(Int×Int))))=>
 (uw ((l0,i1,i2),i3,(1:Int),i4)).ab (fun((i6,i7,l8),l9,dj,da)=>
 (uw ((l9,dj,da),i3,(1:Int),i4)).ab (fun((c7,dX,cI),ca,dA,gw)=>
 cT ((af 0 0 (aa (([]:List Int)))).ab (fun _=>
 (af 0 0 (aa (([]:List (Int×(Int×(List Int))))))).ab (fun _=>
 (af 0 0 (aa (([]:List Int)))).ab (fun _=>
 (af 0 0 (aa (([]:List (Int×(Int×(List Int))))))).ab (fun _=>
 bQ NN (fun(((eP,dY,gG),(fH,jt,fk),(iG,kt),(ku,jQ,jw,fO),jz,lY,eJ,fo):((Int×(Int×Int))×(((List Int)×(Int×Int))×((Int×Int)×((Int×(Int×((List Int)×(List Int))))×((List Int)×((List (Int×(Int×(List Int))))×((List Int)×(List (Int×(Int×(List Int))))))))))))=>
 aY (cr (0:Int) gG)
 ((uw ((fH,jt,fk),eP,dY,dY)).ab (fun((gH,fN,ky),gJ,lR,od)=>
 (af 0 (aa fo) (aa fo)).ab (fun _=>
 (af 0 1 (aa (((gH,fN,ky)::([]:List (Int×(Int×(List Int)))))))).ab (fun _=>
 (lK (bF (aa fo) (aa (((gH,fN,ky)::([]:List (Int×(Int×(List Int)))))))) 40).ab (fun _=>
 (af 0 (aa jz) (aa jz)).ab (fun _=>
 (af 0 (aa lY) (aa lY)).ab (fun _=>
 (af 0 (aa eJ) (aa eJ)).ab (fun _=>
 (af 0 (bF (aa fo) (aa (((gH,fN,ky)::([]:List (Int×(Int×(List Int)))))))) (aa (dg fo (((gH,fN,ky)::([]:List (Int×(Int×(List Int))))))))).ab (fun _=>
 some (Sum.inl ((eP,dY,wk .i64 gG 1),(gJ,lR,od),(iG,kt),(ku,jQ,jw,fO),jz,lY,eJ,dg fo (((gH,fN,ky)::([]:List (Int×(Int×(List Int)))))))))))))))))
 (((af 0 (aa jz) (aa jz)).ab (fun _=>
 (af 0 (aa lY) (aa lY)).ab (fun _=>
 (af 0 (aa eJ) (aa eJ)).ab (fun _=>
 (af 0 (aa fo) (aa fo)).ab (fun _=>
 some (Sum.inl ((fH,jt,fk),(iG,kt),(ku,jQ,jw,fO),jz,lY,eJ,fo))))))).ab (fun fy=>
 some (Sum.inr fy))))
 ((i3,i4,i5),(ca,dA,gw),((0:Int),(0:Int)),(i3,i4,l8,cI),([]:List Int),([]:List (Int×(Int×(List Int)))),([]:List Int),([]:List (Int×(Int×(List Int))))))))))
 (fun((lv,iS,kv),(jv,lS),(lT,gZ,jW,fP),iW,jX,iY,lx)=>
 (cv lx 0 (aa lx)).ab (fun jY=>
 some ((lT,gZ,jW,jY,fP),lv,iS,kv))))))
def wH:(((List Int)×(Int×Int))×(Int×(Int×Int)))->(Option ((Int×(Int×((List Int)×((List (Int×(Int×(List Int))))×(List Int)))))×((List Int)×(Int×Int)))):=EW aN
theorem acv (x:(((List Int)×(Int×Int))×(Int×(Int×Int)))) (z:((Int×(Int×((List Int)×((List (Int×(Int×(List Int))))×(List Int)))))×((List Int)×(Int×Int)))) (h:wH x=some z):EW aN x=some z:=h
def FB:av:=[(.one,[.list [.int .u8]]),(.one,[.int .i64])]
def Ql:av:=[(.agg,[.int .i64,.int .i64,.list [.int .i64],.list [.int .i64,.int .i64,.list [.int .i64]],.list [.int .i64]]),(.agg,[.int .i64,.int .i64,.list [.int .i64],.list [.int .i64,.int .i64,.list [.int .i64]],.list [.int .i64]])]
def ag5:bo:=[[some .aA]]
def EN (NN:Nat):((List Int)×Int)->(Option ((Int×(Int×((List Int)×((List (Int×(Int×(List Int))))×(List Int)))))×(Int×(Int×((List Int)×((List (Int×(Int×(List Int))))×(List Int))))))):=
 (fun((l0,i1):((List Int)×Int))=>
 (wI (l0,i1)).ab (fun(l2,i3,i4)=>
 (dc (((2:Int)::((3:Int)::((7:Int)::((101:Int)::([]:List Int)))))) 4).ab (fun l5=>
 (y5 ((l2,i3,i4),l5)).ab (fun(i6,l7,i8,i9)=>
 (nQ ((l7,i8,i9),(3:Int))).ab (fun(dj,lp,c7,dX)=>
 (nQ ((lp,c7,dX),(4:Int))).ab (fun(iF,ca,dA,gw)=>
 (wH ((ca,dA,gw),i6,iF,bS .i64 (1:Int) dj)).ab (fun((eP,dY,e8,fH,dm),jV,iG,kt)=>
 (nQ ((jV,iG,kt),(4:Int))).ab (fun(ku,nB,iR,tL)=>
 (wH ((nB,iR,tL),i6,ku,bS .i64 (1:Int) dj)).ab (fun((lb,ju,eJ,fo,lr),sn,iH,lf)=>
 some ((eP,dY,e8,fH,dm),lb,ju,eJ,fo,lr))))))))))
def yW:((List Int)×Int)->(Option ((Int×(Int×((List Int)×((List (Int×(Int×(List Int))))×(List Int)))))×(Int×(Int×((List Int)×((List (Int×(Int×(List Int))))×(List Int))))))):=EN aN
theorem acm (x:((List Int)×Int)) (z:((Int×(Int×((List Int)×((List (Int×(Int×(List Int))))×(List Int)))))×(Int×(Int×((List Int)×((List (Int×(Int×(List Int))))×(List Int))))))) (h:yW x=some z):EN aN x=some z:=h
def FC:av:=[(.one,[.list [.int .u8]]),(.one,[.int .i64]),(.one,[.int .i64])]
def Qm:av:=[(.one,[.list [.int .i64]])]
def ag6:bo:=[[some .aA]]
def EO (NN:Nat):((List Int)×(Int×Int))->(Option (List Int)):=
 (fun((l0,i1,i2):((List Int)×(Int×Int)))=>
 (wI (l0,i1)).ab (fun(l3,i4,i5)=>
 (nQ ((l3,i4,i5),(7:Int))).ab (fun(i6,l7,i8,i9)=>
 cT ((af 0 0 (aa (([]:List Int)))).ab (fun _=>
 bQ NN (fun(((dj,da),(ij,dX,iF),ca):((Int×Int)×(((List Int)×(Int×Int))×(List Int))))=>
 aY (cr (0:Int) da)
 ((nQ ((ij,dX,iF),dj)).ab (fun(dA,dw,eP,dY)=>
 (af 0 (aa ca) (aa ca)).ab (fun _=>
 (cv ((dA::([]:List Int))) 0 1).ab (fun e8=>
 (lK (bF (aa ca) (aa e8)) 8).ab (fun _=>
 (af 0 (bF (aa ca) (aa e8)) (aa (dg ca e8))).ab (fun _=>
 some (Sum.inl ((dj,wk .i64 da 1),(dw,eP,dY),dg ca e8))))))))
 (((af 0 (aa ca) (aa ca)).ab (fun _=>
 some (Sum.inl ca))).ab (fun fH=>
 some (Sum.inr fH))))
 ((i2,i6),(l7,i8,i9),([]:List Int))))
 (fun dm=>
 (cv dm 0 (aa dm)).ab (fun jV=>
 some jV)))))
def yX:((List Int)×(Int×Int))->(Option (List Int)):=EO aN
theorem acn (x:((List Int)×(Int×Int))) (z:(List Int)) (h:yX x=some z):EO aN x=some z:=h
theorem XM {p:Int} (h:2<=p):1<=su p 256/\su p 256<=p:=by rw[XK];omega
theorem Oe {α:Type} (l:List α):aa l=l.length:=rfl
theorem Kz (c:Cu) (p:Int) (r k:Nat) (h:jG c) (hp:cY p) (hr:r<=100) (hk:k<=100):
  ∃d c',uw (c,p,(r:Int),(k:Int))=some (((r:Int),(k:Int),d),c')/\d.length=r*k/\dR p d/\jG c':=by
 obtain⟨cl,ci,ch⟩:=c
 have tD:r*k<=10000:=by
  have:=Nat.mul_le_mul hr hk
  omega
 simp only[uw,EU]
 rw[XW (by omega) (by omega) (by omega)]
 simp only[az,uU,cm]
 generalize hL:bQ aN _ _=o
 obtain⟨s,rfl,c',d,rfl,ct,hl,hd⟩:∃s,o=some s/\∃(c':Cu) (d:List Int),s=Sum.inl (((r:Int),(k:Int)),c',(0,0),((r:Int),(k:Int)),[],d)/\jG c'/\d.length=r*k/\dR p d:=by
  rw[<-hL]
  refine Dp (r*k) (fun j (s:((Int×(Int×(Int×(Int×Int))))×(((List Int)×(Int×Int))×((Int×Int)×((Int×Int)×((List Int)×(List Int)))))))=>∃(c':Cu) (d:List Int),s=((p,(r:Int),(k:Int),((r*k:Nat):Int),(j:Int)),c',(0,0),((r:Int),(k:Int)),[],d)/\jG c'/\d.length=r*k/\dR p d) _ ?_ ?_ ?_ (dQ (by omega))
  ·rintro j s hj ⟨⟨l1,i1,h1⟩,d,rfl,hc,hl,hd⟩
   dsimp only
   rw[bH (eV (by omega))]
   obtain⟨b,⟨l2,i2,h2⟩,e2,hc⟩:=X5 _ 3 hc (by decide)
   rw[e2]
   simp only[az]
   cases b
   ·rw[bH (show me false=true from rfl)]
    obtain⟨x,⟨l3,i3,h3⟩,e3,hx,_,hc⟩:=uJ _ (su p 256) hc (XM hp.1).1
    have hm:=(XM hp.1).2
    rw[e3]
    simp only[az]
    have jl:j<d.length:=by omega
    rw[wV (show j<aa d by rw[Oe];exact jl)]
    simp only[az,y9]
    rw[show gA d j=some d[j] from List.getElem?_eq_getElem jl]
    simp only[az]
    rw[show af 0 (aa d) (aa (db d j x))=some () from tf (by simp[aa,db])]
    simp only[az]
    rw[lF (by omega) (by omega)]
    refine⟨_,rfl,_,_,rfl,hc,by unfold db;rw[List.length_set];exact hl,?_⟩
    intro e he
    unfold db at he
    rcases List.mem_or_eq_of_mem_set he with h|h
    ·exact hd e h
    ·subst h;exact⟨hx.1,by omega⟩
   ·rw[bG (show me true=false from rfl)]
    rw[lF (by omega) (by omega)]
    exact⟨_,rfl,_,_,rfl,hc,hl,hd⟩
  ·rintro s ⟨⟨l1,i1,h1⟩,d,rfl,hc,hl,hd⟩
   dsimp only
   rw[bG (eU (by omega))]
   exact⟨_,rfl,_,_,rfl,hc,hl,hd⟩
  ·refine⟨_,_,?_,h,fW r k _,hH.2 (fun i j _ _=>⟨Int.le_refl _,by have:=hp.1;omega⟩)⟩
   rw[show bj (aa (ao r k fun _ _=>0))=((r*k:Nat):Int) by unfold bj aa;rw[fW]]
   rfl
 obtain⟨l1,i1,h1⟩:=c'
 simp only[cT,Option.bind,Option.ab]
 by_cases hc:1<r
 ·rw[bH (eV (by omega))]
  obtain⟨b,⟨l2,i2,h2⟩,e2,uZ⟩:=X5 _ 3 ct (by decide)
  rw[e2]
  dsimp only
  cases b
  ·simp only[zp,cm,iv]
   exact⟨_,_,rfl,hl,hd,uZ⟩
  ·simp only[zq,cm,iv]
   generalize hL:bQ aN _ _=o
   obtain⟨s,rfl,d',rfl,dq,hd'⟩:∃s,o=some s/\∃(d':List Int),s=Sum.inl ((l2,i2,h2),(0,0),((r:Int),(k:Int)),[],d')/\d'.length=r*k/\dR p d':=by
    rw[<-hL]
    refine Dp k (fun j (s:((Int×Int)×(((List Int)×(Int×Int))×((Int×Int)×((Int×Int)×((List Int)×(List Int)))))))=>∃(d:List Int),s=(((k:Int),(j:Int)),(l2,i2,h2),(0,0),((r:Int),(k:Int)),[],d)/\d.length=r*k/\dR p d) _ ?_ ?_ ⟨_,rfl,hl,hd⟩ (dQ (by omega))
    ·rintro j s hj ⟨d,rfl,hl,hd⟩
     dsimp only
     have alz:2*k<=r*k:=Nat.mul_le_mul_right k hc
     rw[bH (eV (by omega))]
     have LX:j<d.length:=by omega
     have CN:k+j<d.length:=by omega
     rw[lF (by omega) (by omega),show((k:Int)+(j:Int))=((k+j:Nat):Int) by push_cast;rfl]
     rw[wV (show j<aa d by rw[Oe];exact LX),wV (show k+j<aa d by rw[Oe];exact CN)]
     simp only[y9]
     rw[show gA d j=some d[j] from List.getElem?_eq_getElem LX,show gA d (k+j)=some d[k+j] from List.getElem?_eq_getElem CN]
     dsimp only
     rw[show af 0 (aa d) (aa (db d (k+j) d[j]))=some () from tf (by simp[aa,db])]
     dsimp only
     rw[lF (by omega) (by omega)]
     refine⟨_,rfl,_,rfl,by unfold db;rw[List.length_set];exact hl,?_⟩
     intro e he
     unfold db at he
     rcases List.mem_or_eq_of_mem_set he with h|h
     ·exact hd e h
     ·subst h;exact hd _ (List.getElem_mem LX)
    ·rintro s ⟨d,rfl,hl,hd⟩
     dsimp only
     rw[bG (eU (by omega))]
     exact⟨_,rfl,_,rfl,hl,hd⟩
   simp only[iv]
   exact⟨_,_,rfl,dq,hd',uZ⟩
 ·rw[bG (eU (by omega))]
  simp only[cm,iv]
  exact⟨_,_,rfl,hl,hd,ct⟩
theorem Tl (c:Cu) (p:Int) (n t:Nat) (h:jG c) (hp:dv p=true) (hn:n<=12) (ht:1<=t/\t<=4):
  ∃a ms b c',wH (c,p,(n:Int),(t:Int))=some ((p,(n:Int),a,ms,b),c')/\cM p n a ms b/\ms.length=t/\jG c':=by
 have hq:cY p:=jS hp
 obtain⟨a,⟨l1,i1,h1⟩,e1,hla,ha,hc⟩:=Kz _ p 1 n h hq (by omega) (by omega)
 obtain⟨b,⟨l2,i2,h2⟩,e2,hlb,hb,hc⟩:=Kz _ p 1 n hc hq (by omega) (by omega)
 obtain⟨cl,ci,ch⟩:=c
 simp only[wH,EW]
 rw[show(1:Int)=((1:Nat):Int) from rfl,e1]
 simp only[az]
 rw[e2]
 simp only[az,uU,cm]
 generalize hL:bQ aN _ _=o
 obtain⟨s,rfl,c',ms,rfl,ct,hl,hm⟩:∃s,o=some s/\∃(c':Cu) (ms:List bJ),s=Sum.inl (c',(0,0),(p,(n:Int),a,b),[],[],[],ms)/\jG c'/\ms.length=t/\∀x∈ms,∃M:aL,x=((n:Int),(n:Int),ao n n M)/\bZ p n n M:=by
  rw[<-hL]
  refine Dp t (fun j (s:((Int×(Int×Int))×(((List Int)×(Int×Int))×((Int×Int)×((Int×(Int×((List Int)×(List Int))))×((List Int)×((List (Int×(Int×(List Int))))×((List Int)×(List (Int×(Int×(List Int))))))))))))=>∃(c':Cu) (ms:List bJ),s=((p,(n:Int),(t:Int) - j),c',(0,0),(p,(n:Int),a,b),[],[],[],ms)/\jG c'/\ms.length=j/\∀x∈ms,∃M:aL,x=((n:Int),(n:Int),ao n n M)/\bZ p n n M) _ ?_ ?_ ?_ (dQ (by omega))
  ·rintro j s hj ⟨⟨l3,i3,h3⟩,ms,rfl,hc,hl,hm⟩
   dsimp only
   rw[bH (eV (by omega))]
   obtain⟨d,⟨l4,i4,h4⟩,e4,Vz,hd,hc⟩:=Kz _ p n n hc hq (by omega) (by omega)
   rw[e4]
   simp only[az,cm,GF]
   rw[show af 0 1 (aa [((n:Int),(n:Int),d)])=some () from cm 1]
   simp only[az]
   rw[nZ (by simp only[bF,aa,List.length_cons,List.length_nil];rw[hl];have:eK=140737488355328:=rfl;omega)]
   simp only[az]
   rw[Ef (by omega) (by omega),show(t:Int) - (j:Int) - ((1:Nat):Int)=(t:Int) - ((j+1:Nat):Int) by omega]
   refine⟨_,rfl,_,_,rfl,hc,by simp[dg,hl],?_⟩
   intro x hx
   rcases List.mem_append.1 hx with h|h
   ·exact hm x h
   ·rw[List.mem_singleton] at h
    subst h
    exact⟨aS n d,by rw[lL (r:=n) (c:=n) Vz],jC Vz hd⟩
  ·rintro s ⟨⟨l3,i3,h3⟩,ms,rfl,hc,hl,hm⟩
   dsimp only
   rw[bG (eU (by omega))]
   exact⟨_,rfl,_,_,rfl,hc,hl,hm⟩
  ·exact⟨_,_,by rw[show(t:Int) - ((0:Nat):Int)=(t:Int) by omega],hc,rfl,fun x hx=>absurd hx (by simp)⟩
 obtain⟨l5,i5,h5⟩:=c'
 simp only[cT,Option.bind,Option.ab,iv]
 refine⟨_,_,_,_,rfl,⟨hp,hn,by omega,ha,by omega,hb,by omega,by omega,hm⟩,hl,ct⟩
theorem aiT:dv 2=true:=by decide+kernel
theorem aiU:dv 3=true:=by decide+kernel
theorem aiX:dv 7=true:=by decide+kernel
theorem aiS:dv 101=true:=by decide+kernel
theorem aiR:dv 1000003=true:=by decide+kernel
theorem aiW {x:Int} (h:x∈[(2:Int),3,7,101,1000003]):dv x=true:=by
 simp only[List.mem_cons,List.not_mem_nil,or_false] at h
 rcases h with rfl|rfl|rfl|rfl|rfl
 ·exact aiT
 ·exact aiU
 ·exact aiX
 ·exact aiS
 ·exact aiR
theorem aiV {x:Int} (h:x∈[(2:Int),3,7,101]):dv x=true:=aiW (by simp only[List.mem_cons,List.not_mem_nil,or_false] at h⊢;omega)
theorem aaf (l:List Int) (n:Int) (h:l.length<=1048576) (hn:0<=n):
  ∃(p:Int) (u v t:Nat) (a:List Int) (ms:List bJ) (b a':List Int) (cV:List bJ) (b':List Int),yW (l,n)=some ((p,(u:Int),a,ms,b),(p,(v:Int),a',cV,b'))/\
   cM p u a ms b/\cM p v a' cV b'/\ms.length=t/\cV.length=t/\u<=3/\v<=3/\t<=3:=by
 obtain⟨⟨l1,i1,k1⟩,e1,hc⟩:=Ti l n h hn
 obtain⟨p,⟨l2,i2,k2⟩,e2,hp,hc⟩:=aiP _ [(2:Int),3,7,101] hc (by simp) (by simp)
 obtain⟨t,⟨l3,i3,k3⟩,e3,ht,_,hc⟩:=uJ _ 3 hc (by decide)
 obtain⟨u,⟨l4,i4,k4⟩,e4,hu,_,hc⟩:=uJ _ 4 hc (by decide)
 obtain⟨t,rfl⟩:=fz ht.1
 obtain⟨u,rfl⟩:=fz hu.1
 have hP:=aiV hp
 obtain⟨a,ms,b,⟨l5,i5,k5⟩,e5,hA,hlA,hc⟩:=Tl _ p u (1+t) hc hP (by omega) (by omega)
 obtain⟨v,⟨l6,i6,k6⟩,e6,hv,_,hc⟩:=uJ _ 4 hc (by decide)
 obtain⟨v,rfl⟩:=fz hv.1
 obtain⟨a',cV,b',⟨l7,i7,k7⟩,e7,hB,hlB,hc⟩:=Tl _ p v (1+t) hc hP (by omega) (by omega)
 simp only[yW,EN]
 rw[e1]
 simp only[az,dc,List.length_cons,List.length_nil,Nat.le_refl,if_true,List.take]
 rw[e2]
 simp only[az]
 rw[e3]
 simp only[az]
 rw[e4]
 simp only[az]
 rw[lF (by omega) (by omega),show(1:Int)+(t:Int)=((1+t:Nat):Int) by push_cast;rfl,e5]
 simp only[az]
 rw[e6]
 simp only[az]
 rw[e7]
 exact⟨p,u,v,1+t,a,ms,b,a',cV,b',rfl,hA,hB,hlA,hlB,by omega,by omega,by omega⟩
theorem aag (l:List Int) (n m:Int) (h:l.length<=1048576) (hn:0<=n) (hm:1<=m):
  ∃w,yX (l,n,m)=some w/\w.length<=6/\dR m w:=by
 obtain⟨⟨l1,i1,k1⟩,e1,hc⟩:=Ti l n h hn
 obtain⟨t,⟨l3,i3,k3⟩,e3,ht,_,hc⟩:=uJ _ 7 hc (by decide)
 obtain⟨t,rfl⟩:=fz ht.1
 simp only[yX,EO]
 rw[e1]
 simp only[az]
 rw[e3]
 simp only[az,uU]
 generalize hL:bQ aN _ _=o
 obtain⟨s,rfl,w,rfl,hl,hw⟩:∃s,o=some s/\∃(w:List Int),s=Sum.inl w/\w.length=t/\dR m w:=by
  rw[<-hL]
  refine Dp t (fun j (s:((Int×Int)×(((List Int)×(Int×Int))×(List Int))))=>∃(c':Cu) (w:List Int),s=((m,(t:Int) - j),c',w)/\jG c'/\w.length=j/\dR m w) _ ?_ ?_ ?_ (dQ (by omega))
  ·rintro j s hj ⟨⟨l3,i3,h3⟩,w,rfl,hc,hl,hw⟩
   dsimp only
   rw[bH (eV (by omega))]
   obtain⟨x,⟨l4,i4,h4⟩,e4,hx,_,hc⟩:=uJ _ m hc hm
   rw[e4]
   simp only[az,cm,GF,Jj (xs:=[x]) (n:=1) rfl]
   rw[nZ (by simp only[bF,aa,List.length_cons,List.length_nil];rw[hl];have:eK=140737488355328:=rfl;omega)]
   simp only[az]
   rw[Ef (by omega) (by omega),show(t:Int) - (j:Int) - (1:Int)=(t:Int) - ((j+1:Nat):Int) by omega]
   refine⟨_,rfl,_,_,rfl,hc,by simp[dg,hl],?_⟩
   intro y hy
   rcases List.mem_append.1 hy with h|h
   ·exact hw y h
   ·rw[List.mem_singleton] at h
    subst h
    exact hx
  ·rintro s ⟨⟨l3,i3,h3⟩,w,rfl,hc,hl,hw⟩
   dsimp only
   rw[bG (eU (by omega))]
   simp only[cm,az]
   exact⟨_,rfl,_,rfl,hl,hw⟩
  ·exact⟨_,_,by rw[show(t:Int) - ((0:Nat):Int)=(t:Int) by omega],hc,rfl,fun x hx=>absurd hx (by simp)⟩
 simp only[cT,Option.bind,Option.ab,iv]
 exact⟨w,rfl,by omega,hw⟩
end Go.Am
end
