/- M50, M51, M52, M12, M20, M21, M53, M56, M65, M66, M94, M95, M96, M97, M98, M67, M26, M27, M28, M68, M99, M100, M101, M102, M103, M104, M105, M106, M107, M108, M128, M129: parts of the proof. No condition. -/
import Derived.Test.YtaaeocdagekdcaaM49
import Derived.Lib.BitFns
set_option linter.unusedVariables false
set_option linter.unusedSimpArgs false
set_option linter.unusedSectionVars false
open List renaming getD_eq_getElem?_getD->co,length_map->AI,getElem?_eq_getElem->AN,length_append->By,length_singleton->If,length_take->OF,mem_map->zaa,getElem?_map->zab,mem_range->zae,mem_filter->zaf,length_filter_le->zag,append_assoc->zah,mem_iff_getElem->zai,all_eq_true->zaj,length_cons->zak,getElem?_append_right->zal,getElem?_eq_none->zam,length_nil->zao,eq_nil_of_length_eq_zero->zap,dropLast_concat_getLast->zaq,length_range->zar,mem_of_getElem?->zas,map_congr_left->zav,flatMap_append->zax,take_length->zay,drop_append_of_le_length->zaz,length_drop->zaA,mem_flatMap->zaB,range->zaC,map_append->zaD,mem_append->zaF,take_append_drop->zaG,map_cons->zaH,getElem?_append_left->zaI,filter_cons_of_pos->zaJ,filter_cons_of_neg->zaK,ext_getElem?->zaL,nodup_append->zaM,pairwise_flatMap->zaN,getElem_mem->zaO,take_append_of_le_length->zaP,getElem?_range->zaS,perm_ext_iff_of_nodup->zaT,mem_singleton->zaU,length_pos_of_mem->za1,drop_eq_nil_of_le->za2,take_of_length_le->za3,range_succ->za4,countP_le_length->za5,append_nil->za7,mem_append_left->za9,findIdx_getElem->zba,sum_cons->zbd,pairwise_map->zbe,take_add_one->zbf,cons_append->zbj,nodup_range->zbm,not_mem_nil->zbn,length_set->zbp,replicate->zbq,drop_drop->zbr,nodup_nil->zbs,filter->zbF,length->zbG,Nodup->zbH
open Sum renaming inl->wt,inr->AT
open Int renaming toNat_natCast->BY,natCast_mul->zan,add_comm->zaV,lt_of_mul_lt_mul_left->zaX,emod_eq_of_lt->zaY,zero_emod->zaZ,dvd_of_emod_eq_zero->za0,add_zero->zbh,mul_zero->zbi,zero_mul->zbz,add_emod->zbA,le_refl->zbC
open Option renaming bind->GB
open Nat renaming mul_le_mul_right->IN,mul_le_mul->IS,le_trans->Pd,add_mul->Pe,one_mul->zac,le_refl->zad,add_sub_cancel_left->zaw,mul_comm->zaE,pow_le_pow_right->zaQ,mul_assoc->zaR,sub_self->za6,mod_lt->za8,zero_le->zbb,mul_one->zbc,zero_add->zbg,div_eq_of_lt->zbk,mod_eq_of_lt->zbl,min_eq_left->zbo,add_assoc->zbt,pow_succ->zbu,add_comm->zbv,le_of_lt->zbw,and_zero->zbx,zero_and->zby,div_one->zbB,or_comm->zbD,or_zero->zbE
open Bool renaming and_eq_true->IT
open List.Pairwise renaming imp_of_mem->zat,imp->zbI,nil->zbJ
open List.Nodup renaming length_le_of_subset->zau
open Classical renaming byContradiction->zaW
namespace Go.Am
def aiC (x:Int×oF×oF):Prop:=tC x.1/\(0<=x.2.1.1/\x.2.1.1<=x.2.1.2.1/\x.2.1.2.1<=12)/\(0<=x.2.2.1/\x.2.2.1<=12)/\x.2.2.2.1=x.2.1.2.1/\(x.2.1.2.2.length=x.2.1.1.toNat*x.2.1.2.1.toNat/\x.2.2.2.2.length=x.2.2.1.toNat*x.2.1.2.1.toNat)/\vp x.1 x.2.1.2.2/\vp x.1 x.2.2.2.2
instance (x:Int×oF×oF):Decidable (aiC x):=by unfold aiC;infer_instance


def UF (p:Int) (M:fI) (i j:Nat):Prop:=(M i j+M j i)%p=0/\(i=j->M i j=0)
instance (p:Int) (M:fI) (i j:Nat):Decidable (UF p M i j):=by unfold UF;infer_instance
def abr (p:Int) (M:fI) (i:Nat):Prop:=∀j,j<i+1->UF p M i j
instance (p:Int) (M:fI) (i:Nat):Decidable (abr p M i):=by unfold abr;infer_instance
def qZ (p a b:Int):Prop:=∃q,a=b+p*q
theorem qZ.refl (p a:Int):qZ p a a:=⟨0,by simp⟩
theorem qZ.trans {p a b c:Int} (h:qZ p a b) (h':qZ p b c):qZ p a c:=by obtain⟨q,rfl⟩:=h;obtain⟨d,rfl⟩:=h';exact⟨d+q,by rw[Int.mul_add];omega⟩
theorem qZ.symm {p a b:Int} (h:qZ p a b):qZ p b a:=by obtain⟨q,rfl⟩:=h;exact⟨-q,by rw[Int.mul_neg];omega⟩
theorem qZ.add {p a b c d:Int} (h:qZ p a b) (h':qZ p c d):qZ p (a+c) (b+d):=by obtain⟨q,rfl⟩:=h;obtain⟨e,rfl⟩:=h';exact⟨q+e,by grind⟩
theorem qZ.mul {p a b c d:Int} (h:qZ p a b) (h':qZ p c d):qZ p (a*c) (b*d):=by obtain⟨q,rfl⟩:=h;obtain⟨e,rfl⟩:=h';exact⟨q*d+b*e+p*q*e,by grind⟩
section
variable {p inv:Int} {n k:Nat} {A M:fI}
end

section
variable {p:Int} {n m:Nat} {a b a2 b2:U} {ms YM:List oF}
end
def ait:Nat->U->U
 |0,l=>l
 |k+1,l=>if l.getD (k+1) 0<l.getD k 0 then ait k (br (br l (k+1) (l.getD k 0)) k (l.getD (k+1) 0)) else l
def aiE (l:U):Nat->U
 |0=>l
 |i+1=>ait i (aiE l i)
def sN (f:Nat->Nat):Nat->Nat
 |0=>0
 |q+1=>sN f q+f q
def DX (L D S:U):U:=cE S.length fun i=>D.getD (aX L (S.getD i 0)) 0
def gP (L D S:U) (n:Nat) (v:Int):Nat:=(fD (DX L D S) n (aX S v)).toNat*eV D (aX L v+1)
def YX (L D S:U) (n:Nat):Nat:=sN (fun i=>gP L D S n (S.getD i 0)) S.length
def nZ (r:Rg) (A:U) (off:Nat->Nat):Nat->U
 |0=>[]
 |n+1=>nZ r A off n++fE A (off n*ar r) (ar r)
def agN (x:Rg×T3×U):Prop:=f7 x.1 x.2.1=true/\x.2.2=aiE x.2.1.1 x.2.1.1.length
instance (x:Rg×T3×U):Decidable (agN x):=by unfold agN;infer_instance
def rG:T3×Int->Option Int:=fun x=>if x.1.1.length<=1048576 then some (mO x.1.1 x.2) else none
def AD (l:U) (b:Int):Prop:=l.length<=12/\∀x∈l,0<=x/\x<=b
instance (l:U) (b:Int):Decidable (AD l b):=by unfold AD;infer_instance
def aa2:U×U->Option Int:=fun x=>if AD x.1 8/\AD x.2 8/\x.1.length=x.2.length then some ((kl x.1 x.2 x.1.length:Nat):Int) else none
def Kd (l:U) (b:Int):Prop:=l.length<=24/\∀x∈l,0<=x/\x<=b
instance (l:U) (b:Int):Decidable (Kd l b):=by unfold Kd;infer_instance
theorem AD.m {l:U} {b:Int} (h:AD l b):Kd l b:=⟨Pd h.1 (by decide),h.2⟩
def AJ:U×U->Option Int:=fun x=>if Kd x.1 1048576/\Kd x.2 8/\x.1.length=x.2.length then some ((sN (fun i=>(x.2.getD i 0).toNat*(x.1.getD i 0).toNat) x.1.length:Nat):Int) else none
def sB (L D S:U):U:=cE S.length fun i=>if aX L (S.getD i 0)<L.length then((eV D (aX L (S.getD i 0)+1):Nat):Int) else 0
def zd:T3×U->Option U:=fun x=>if mh x.1.1 x.1.2.1=true/\x.2.length<=1000/\aB x.1.2.1<=4096 then some (sB x.1.1 x.1.2.1 x.2) else none
def KW:Rg×T3×Int->Option U:=fun x=>if Pq x then some (fE x.2.1.2.2 (x.2.2.toNat*ar x.1) (ar x.1)) else none
def rH:Rg×T3×Int->Option U:=KW
def Tq (NN:Nat):((U×(U×U))×Int)->(Option Int):=
 (fun((l0,l1,l2),i3)=>
 bN (bS NN (fun(i4,l5,i6,i7)=>
 aA (cH i7 i6)
 ((cg l5 i7).ae (fun i8=>
 aA (bH i8 i4)
 (some (AT (AT i7)))
 (some (wt (i4,l5,i6,bt .i64 i7 1)))))
 (some (AT (wt ()))))
 (i3,l0,aK (aa l0),(0:Int)))
 (fun _=>
 some ((-1:Int))))
def Tw (NN:Nat):(U×U)->(Option Int):=
 (fun(l0,l1)=>
 bN (bS NN (fun(l2,l3,i4,i5,i6)=>
 aA (cH i6 i5)
 ((cg l2 i6).ae (fun i7=>
 (cg l3 i6).ae (fun i8=>
 some (wt (l2,l3,bt .i64 i4 (ik .i64 i7 i8),i5,bt .i64 i6 1)))))
 (some (AT (wt i4))))
 (l0,l1,(0:Int),aK (aa l0),(0:Int)))
 (fun i9=>
 some i9))
def TN (NN:Nat):((Int×(Int×Int))×((U×(U×U))×Int))->(Option U):=
 (fun((i0,i1,i2),(l3,l4,l5),i6)=>
 (tY (i0,i1,i2)).ae (fun i7=>
 (jP (ik .i64 i6 i7) (ik .i64 (bt .i64 i6 1) i7) (aa l5)).ae (fun(k8,k9)=>
 some (fE l5 k8 k9))))
theorem ahy {f:Nat->Nat} {b:Nat}:∀q,(∀i,i<q->f i<=b)->sN f q<=q*b
 |0,_=>zbb _
 |q+1,h=>by have h1:=ahy (f:=f) (b:=b) q fun i hi=>h i (by omega);have h2:=h q (by omega);simp only[sN];rw[Pe,zac];omega
theorem RO {f g:Nat->Nat}:∀q,(∀i,i<q->f i=g i)->sN f q=sN g q
 |0,_=>rfl
 |q+1,h=>by simp only[sN];rw[RO q fun i hi=>h i (by omega),h q (by omega)]
theorem ahz (g:Int->Nat) (l:U):∀q,q<=l.length->sN (fun i=>g (l.getD i 0)) q=((l.take q).map g).sum
 |0,_=>by simp[sN]
 |q+1,h=>by simp only[sN];rw[ahz g l q (by omega),List.take_succ_eq_append_getElem (by omega),zaD,List.sum_append_nat,co,AN (by omega)];simp
theorem RP (g:Int->Nat) (l:U):sN (fun i=>g (l.getD i 0)) l.length=(l.map g).sum:=by rw[ahz g l _ (zad _),zay]
theorem auw {S L:U} (h:S.Perm L) (g:Int->Nat):sN (fun i=>g (S.getD i 0)) S.length=sN (fun i=>g (L.getD i 0)) L.length:=by rw[RP,RP];exact(h.map g).sum_nat
theorem eZ {l:U} {v:Int} (h:v∈l):aX l v<l.length:=by refine Nat.lt_of_le_of_ne (JF l v) fun e=>?_;obtain⟨i,a⟩:=List.getElem?_of_mem h;have hl:=(List.getElem?_eq_some_iff.1 a).1;exact Gm (by omega) a
theorem jp {l:U} {v:Int} (h:v∈l):l.getD (aX l v) 0=v:=by rw[co,Gl (eZ h)];rfl
theorem eX {l:U} {i:Nat} (h:i<l.length):l.getD i 0∈l:=by rw[co,AN h];exact zaO h
theorem kD {l:U} (hn:l.Nodup) {i:Nat} (h:i<l.length):aX l (l.getD i 0)=i:=by have hm:=eX h;have b:=eZ hm;have a:=Gl b;rw[AN b] at a;have e:l[aX l (l.getD i 0)]=l[i]:=(by injection a with a;rw[a,co,AN h];rfl);exact(List.getElem_inj hn).1 e
theorem xZ {L D:U} (h:mh L D=true):L.Nodup:=by obtain⟨h1,h2,b⟩:=ku h;rw[List.nodup_iff_pairwise_ne,List.pairwise_iff_getElem];intro i j hi a lN e;have:=(b j a).2.2;apply this;rw[co,AN a];show L[j]∈L.take j;rw[<-e,List.mem_take_iff_getElem];exact⟨i,by omega,rfl⟩
structure xU (L D S:U):Prop where
 p:S.Perm L
 nL:L.Nodup
 nS:S.Nodup
 len:L.length=D.length
 eu:L.length<=12
 uj:∀x∈D,1<=x/\x<=8
section
variable {L D S:U} (I:xU L D S)
include I
theorem xU.inv {q k:Nat} (b:q<S.length) (a:k<L.length):aX L (S.getD q 0)=k↔aX S (L.getD k 0)=q:=by have m1:S.getD q 0∈L:=I.p.mem_iff.1 (eX b);have m2:L.getD k 0∈S:=I.p.mem_iff.2 (eX a);constructor;intro e;have:=jp m1;rw[e] at this;rw[this,kD I.nS b];intro e;have:=jp m2;rw[e] at this;rw[this,kD I.nL a]
theorem xU.akf {q:Nat} (a:q<S.length):aX L (S.getD q 0)<L.length:=eZ (I.p.mem_iff.1 (eX a))
theorem xU.apc {k:Nat} (a:k<L.length):aX S (L.getD k 0)<S.length:=eZ (I.p.mem_iff.2 (eX a))
theorem xU.lH:lH D:=⟨by have:=I.len;have:=I.eu;omega,fun x hx=>by have:=I.uj x hx;omega⟩
omit I in
omit I in
theorem aua (h:Int->Int) (l:U):cE l.length (fun i=>h (l.getD i 0))=l.map h:=by apply zaL;intro i;by_cases a:i<l.length;rw[qM _ a,zab,AN a,co,AN a];rfl;rw[zam (by rw[ff];omega),zam (by simp;omega)]
def Gf (L D S:U) (n:Nat):U:=cE D.length fun k=>fD (DX L D S) n (aX S (L.getD k 0))
theorem xU.pd {i:Nat} (a:i<S.length):(DX L D S).getD i 0=D.getD (aX L (S.getD i 0)) 0:=by unfold DX;rw[co,qM _ a];rfl
theorem xU.alv (n:Nat) {i:Nat} (a:i<S.length):0<=fD (DX L D S) n i/\fD (DX L D S) n i<D.getD (aX L (S.getD i 0)) 0:=by have hd:=I.uj _ (eX (l:=D) (i:=aX L (S.getD i 0)) (by have:=I.akf a;have:=I.len;omega));unfold fD;rw[I.pd a];have:=za8 (n/eV (DX L D S) (i+1)) (show 0<(D.getD (aX L (S.getD i 0)) 0).toNat by omega);omega
omit I in
theorem Q0 {D ix:U} (h:∀k,k<D.length->(ix.getD k 0).toNat<(D.getD k 0).toNat):∀j,j<=D.length->(kl D ix j+1)*eV D j<=aB D
 |0,_=>by simp[kl,eV]
 |j+1,hj=>by have a:=Q0 h j (by omega);have hk:=h j (by omega);rw[Ee (by omega),<-zaR] at a;refine Pd (IN _ ?_) a;simp only[kl];rw[Pe,zac];omega
omit I in
theorem YV {D ix:U}:∀j,j<=D.length->kl D ix j*eV D j=sN (fun k=>(ix.getD k 0).toNat*eV D (k+1)) j
 |0,_=>by simp[kl,sN]
 |j+1,hj=>by simp only[kl,sN];rw[<-YV j (by omega),Ee (i:=j) (by omega),Pe,zaR]
theorem xU.agq (n:Nat) {k:Nat} (a:k<D.length):(Gf L D S n).getD k 0=fD (DX L D S) n (aX S (L.getD k 0)):=by unfold Gf;rw[co,qM _ a];rfl
theorem xU.asa (n:Nat) {k:Nat} (d:k<D.length):0<=(Gf L D S n).getD k 0/\(Gf L D S n).getD k 0<D.getD k 0:=by
 rw[I.agq n d];have a:k<L.length:=by have:=I.len;omega
 have c:=I.apc a;have b:=I.alv n c;rw[(I.inv c a).2 rfl] at b;exact b
theorem xU.off (n:Nat):kl D (Gf L D S n) D.length=YX L D S n:=by have a:=YV (D:=D) (ix:=Gf L D S n) D.length (zad _);rw[xI,zbc] at a;rw[a];unfold YX;rw[auw I.p (gP L D S n),I.len];refine RO _ fun k b=>?_;rw[I.agq n b];unfold gP;rw[kD I.nL (by have:=I.len;omega)]
theorem xU.Jw (n:Nat):YX L D S n<aB D:=by have:=Q0 (D:=D) (ix:=Gf L D S n) (fun k a=>by have:=I.asa n a;omega) D.length (zad _);rw[xI,zbc,I.off n] at this;omega
end
theorem Ea {l:U} {b:Int} (h:Kd l b) {i:Nat} (c:i<l.length):∃a:Nat,l[i]? =some (a:Int)/\(l.getD i 0).toNat=a/\(a:Int)<=b:=by have:=h.2 _ (zaO c);refine⟨l[i].toNat,?_,?_,by omega⟩;rw[AN c];congr 1;omega;rw[co,AN c];rfl
theorem agm {D ix:U} (d:AD D 8) (c:AD ix 8) (k:D.length=ix.length):∀j,j<=D.length->kl D ix j<=17^j
 |0,_=>by simp[kl]
 |j+1,hj=>by have e:=agm d c k j (by omega);obtain⟨a,_,f,a3⟩:=Ea d.m (i:=j) (by omega);obtain⟨b,_,g,b3⟩:=Ea c.m (i:=j) (by omega);have h:17^0<=17^j:=zaQ (by omega) (zbb j);rw[Nat.pow_zero] at h;simp only[kl];rw[f,g,zbu];have:=IS e (show a<=8 by omega);omega
theorem amL (x:U×U) (y:Int) (h:AJ x=some y):Tw bW x=some y:=by obtain⟨s,ix⟩:=x;simp only[AJ] at h;split at h;rename_i p;rw[<-h];obtain⟨d,k,o⟩:=p;(try dsimp only at d k o);simp only[Tw];have n:∀j,j<=s.length->sN (fun i=>(ix.getD i 0).toNat*(s.getD i 0).toNat) j<=j*8388608:=fun j q=>ahy j fun i hi=>(by obtain⟨a,_,c,l⟩:=Ea d (i:=i) (by omega);obtain⟨b,_,f,r⟩:=Ea k (i:=i) (by omega);rw[c,f];exact IS (show b<=8 by omega) (show a<=1048576 by omega));have hl:=d.1;rw[gd (fun j=>(s,ix,((sN (fun i=>(ix.getD i 0).toNat*(s.getD i 0).toNat) j:Nat):Int),(s.length:Int),(j:Int))) s.length ?g ?c ?l dY];(case l=>rfl);(case c=>dsimp only;rw[aW eB]);(case g=>intro j q;obtain⟨a,g,c,l⟩:=Ea d (i:=j) (by omega);obtain⟨b,m,f,r⟩:=Ea k (i:=j) (by omega);have PS:=n j (by omega);have e:sN (fun i=>(ix.getD i 0).toNat*(s.getD i 0).toNat) (j+1)=sN (fun i=>(ix.getD i 0).toNat*(s.getD i 0).toNat) j+b*a:=(by simp only[sN];rw[c,f]);have hm:=IS (show b<=8 by omega) (show a<=1048576 by omega);dsimp only;rw[be dt,dw,dw,g,m];simp only[aL];rw[e,zaE b a];rw[zaE b a] at hm;rw[rA (by rw[<-zan];omega) (by rw[<-zan];omega),<-zan,dZ,dZ];rfl);simp only[bN,GB];cases h
theorem amE (x:T3×Int) (y:Int) (h:rG x=some y):Tq bW x=some y:=by obtain⟨⟨L,D,A⟩,v⟩:=x;simp only[rG] at h;split at h;rename_i c;rw[<-h];(try dsimp only at c);simp only[Tq];unfold mO;by_cases a:aX L v<L.length;rw[ai a];rw[gd (r:=AT ((aX L v:Nat):Int)) (fun j=>(v,L,(L.length:Int),(j:Int))) (aX L v) ?a1 ?a2 ?a3 dY];(case a3=>rfl);(case a2=>dsimp only;rw[be dt,dw,Gl a];simp only[aL];rw[be (by simp[bH])]);(case a1=>intro j b;dsimp only;rw[be dt,dw,AN (by omega)];simp only[aL];rw[aW (by have:=Gm b;rw[AN (by omega)] at this;simp only[bH,beq_eq_false_iff_ne,ne_eq];exact fun e=>this (congrArg some e)),dZ];rfl);simp only[bN,GB];rw[aq a];have lR:aX L v=L.length:=(by have:=JF L v;omega);rw[gd (r:=wt ()) (fun j=>(v,L,(L.length:Int),(j:Int))) L.length ?a1 ?a2 ?a3 dY];(case a3=>rfl);(case a2=>dsimp only;rw[aW eB]);(case a1=>intro j b;dsimp only;rw[be dt,dw,AN (by omega)];simp only[aL];rw[aW (by have:=Gm (l:=L) (v:=v) (j:=j) (by omega);rw[AN (by omega)] at this;simp only[bH,beq_eq_false_iff_ne,ne_eq];exact fun e=>this (congrArg some e)),dZ];rfl);simp only[bN,GB];cases h
theorem amY (x:Rg×T3×Int) (y:U) (h:rH x=some y):TN bW x=some y:=by obtain⟨⟨k,p,m⟩,⟨L,D,A⟩,n⟩:=x;simp only[rH,KW] at h;split at h;rename_i e;rw[<-h];obtain⟨hr,c,d,f⟩:=e;dsimp only at hr c d f;obtain⟨n,rfl⟩:=nU c;have g:=mE hr;simp only[BY] at d⊢;have rU:(n+1)*ar (k,p,m)=n*ar (k,p,m)+ar (k,p,m):=(by rw[Pe,zac]);have hn:n+1<=1048576:=(by have:=Nat.le_mul_of_pos_right (n+1) (show 0<ar (k,p,m) by omega);omega);simp only[TN,tY,aL];rw[g.1,dZ,show(n:Int)+1=((n+1:Nat):Int) by push_cast;rfl];rw[Js (a:=n) (b:=ar (k,p,m)) (by omega)];rw[Js (a:=n+1) (b:=ar (k,p,m)) (by omega)];rw[show jP ((n*ar (k,p,m):Nat):Int) (((n+1)*ar (k,p,m):Nat):Int) (aa A)=some (n*ar (k,p,m),ar (k,p,m)) by unfold jP aa;rw[ai ⟨by omega,by omega,by omega⟩];congr 2;omega];simp only[aL];cases h
abbrev Bk:=U×U×U×U
def pO (of:U) (x:Int):Nat->U
 |0=>[]
 |n+1=>if of.getD n 0=x then pO of x n++[(n:Int)] else pO of x n
def vals (of:U) (x:Int):U:=pO of x of.length
def AK:U×Int->Option U:=fun x=>if x.1.length<=1048576 then some (vals x.1 x.2) else none
def AY (V:List U) (ix:U):U:=cE ix.length fun i=>(V.getD i []).getD (ix.getD i 0).toNat 0
def OW (V:List U) (ix:U):Prop:=ix.length<=12/\∀i,i<ix.length->i<V.length/\0<=ix.getD i 0/\(ix.getD i 0).toNat<(V.getD i []).length
instance (V:List U) (ix:U):Decidable (OW V ix):=by unfold OW;infer_instance
def m6 (R:List U) (ch:U):List U:=(zaC ch.length).map fun i=>vals (R.getD i []) (ch.getD i 0)
def bw (R:List U) (ch:U):U:=cE ch.length fun i=>((vals (R.getD i []) (ch.getD i 0)).length:Int)
def GZ:U×U->Option Int:=aa2
def tQ (R:List U) (ch:U) (n:Nat):U:=AY (m6 R ch) (aD (bw R ch) n)
def eF (D:U) (R:List U) (ch:U) (n:Nat):Nat:=kl D (tQ R ch n) D.length
def gn (R:List U) (ch:U):Prop:=ch.length=R.length/\∀i,i<R.length->ch.getD i 0∈R.getD i []
instance (R:List U) (ch:U):Decidable (gn R ch):=by unfold gn;infer_instance
def UZ (x:T3×gV×Bk):Prop:=jQ (x.1,x.2.1)=true/\gn x.2.1.2 x.2.2.1/\x.2.2.2.2.1=bw x.2.1.2 x.2.2.1
instance (x:T3×gV×Bk):Decidable (UZ x):=by unfold UZ;infer_instance
def CB:T3×gV×Bk->Option U:=fun x=>if UZ x then some (cE (aB (bw x.2.1.2 x.2.2.1)) fun n=>(eF x.1.2.1 x.2.1.2 x.2.2.1 n:Int)) else none
def TS (NN:Nat):(U×Int)->(Option U):=
 (fun(l0,i1)=>
 bN ((aU 0 0 (aa (([]:U)))).ae (fun _=>
 bS NN (fun((i2,l3,i4,i5),l6)=>
 aA (cH i5 i4)
 ((cg l3 i5).ae (fun i7=>
 aA (bH i7 i2)
 (ah l6 (
 (cr ((i5::[])) 0 1).ae (fun l8=>
 (jT (au (aa l6) (aa l8)) 8).ae (fun _=>
 (aU 0 (au (aa l6) (aa l8)) (aa (ci l6 l8))).ae (fun _=>
 some (wt ((i2,l3,i4,bt .i64 i5 1),ci l6 l8)))))))
 (ah l6 (
 some (wt ((i2,l3,i4,bt .i64 i5 1),l6))))))
 ((ah l6 (
 some (wt l6))).ae (fun l9=>
 some (AT l9))))
 ((i1,l0,aK (aa l0),(0:Int)),([]:U))))
 (fun cP=>
 (dO cP (aa cP)).ae (fun ed=>
 some ed)))
def TJ (NN:Nat):(U×U)->(Option Int):=
 (fun(l0,l1)=>
 bN (bS NN (fun(l2,i3,l4,i5,i6)=>
 aA (cH i6 i5)
 ((cg l4 i6).ae (fun i7=>
 (cg l2 i6).ae (fun i8=>
 some (wt (l2,bt .i64 (ik .i64 i3 i8) i7,l4,i5,bt .i64 i6 1)))))
 (some (AT (wt i3))))
 (l0,(0:Int),l1,aK (aa l1),(0:Int)))
 (fun i9=>
 some i9))
def Tr (NN:Nat):((U×(U×U))×((Int×(List U))×(U×(U×(U×U)))))->(Option U):=
 (fun((l0,l1,l2),(i3,l4),l5,l6,l7,l8)=>
 (j6 (aK (aa l5)) (aK (aa l5)) 24).ae (fun k9=>
 bN ((aU 0 k9 (aa (cJ k9 (([]:U))))).ae (fun _=>
 bS NN (fun((cP,fU,eA),(eY,dh,dH),(fV,dj),(fN,gb,gE,gi),ef)=>
 aA (cH eA fU)
 ((cg cP eA).ae (fun gv=>
 (cg dj eA).ae (fun dN=>
 (AK (dN,gv)).ae (fun gG=>
 (dg eA (aa ef)).ae (fun FR=>
 (bL ef (au 0 FR)).ae (fun gw=>
 (dO gG (aa gG)).ae (fun ji=>
 (aU 0 (aa ef) (aa (br ef (au 0 FR) ji))).ae (fun _=>
 some (wt ((cP,fU,bt .i64 eA 1),(eY,dh,dH),(fV,dj),(fN,gb,gE,gi),br ef (au 0 FR) ji))))))))))
 ((ah ef (
 some (wt ((eY,dh,dH),(fN,gb,gE,gi),ef)))).ae (fun dW=>
 some (AT dW))))
 ((l5,aK (aa l5),(0:Int)),(l0,l1,l2),(i3,l4),(l5,l6,l7,l8),cJ k9 (([]:U)))))
 (fun((fY,fG,jI),(gz,jB,iG,gQ),jJ)=>
 (j6 (aK (aa gz)) (aK (aa gz)) 8).ae (fun DE=>
 ah jJ (
 (aU 0 0 (aa (([]:U)))).ae (fun _=>
 (aU 0 DE (aa (cJ DE (0:Int)))).ae (fun _=>
 bS NN (fun((nw,kz,kP),(ig,gR,iU,wj),pI,ov,jC)=>
 (j6 (aK (aa jC)) (aK (aa jC)) 8).ae (fun BZ=>
 bN (ah pI (
 ah ov (
 ah jC (
 (aU 0 BZ (aa (cJ BZ (0:Int)))).ae (fun _=>
 ah jC (
 bS NN (fun((yB,zZ),(jV,qc,tu),(kB,iV,iz,lg),iW,lU,iY,gH)=>
 aA (cH zZ yB)
 ((dg zZ (aa iY)).ae (fun k63=>
 (bL iY (au 0 k63)).ae (fun i64=>
 (dg zZ (aa iW)).ae (fun k65=>
 (bL iW (au 0 k65)).ae (fun sd=>
 (cg sd i64).ae (fun yC=>
 (dg zZ (aa gH)).ae (fun FX=>
 (bL gH (au 0 FX)).ae (fun uC=>
 ah iW (
 ah lU (
 ah iY (
 (aU 0 (aa gH) (aa (br gH (au 0 FX) yC))).ae (fun _=>
 ah iY (
 some (wt ((yB,bt .i64 zZ 1),(jV,qc,tu),(kB,iV,iz,lg),iW,lU,iY,br gH (au 0 FX) yC)))))))))))))))
 ((ah lU (
 ah gH (
 ah iW (
 ah iY (
 some (wt ((jV,qc,tu),(kB,iV,iz,lg),lU,gH,iW,iY))))))).ae (fun mA=>
 some (AT mA))))
 ((aK (aa jC),(0:Int)),(nw,kz,kP),(ig,gR,iU,wj),pI,ov,jC,cJ BZ (0:Int))))))))
 (fun((ki,oT,qH),(wm,Ai,yR,se),ox,oU,Aj,oy)=>
 (cr oU 0 (aa oU)).ae (fun tv=>
 (GZ (oT,tv)).ae (fun z6=>
 ah ox (
 (cr ((z6::[])) 0 1).ae (fun oV=>
 (jT (au (aa ox) (aa oV)) 8).ae (fun _=>
 ah oy (
 (vj (yR,oy)).ae (fun(b85,qd)=>
 aA (de b85)
 (((dO (ci ox oV) (au (aa ox) (aa oV))).ae (fun wq=>
 some wq)).ae (fun B6=>
 some (AT B6)))
 (ah Aj (
 (aU 0 (au (aa ox) (aa oV)) (aa (ci ox oV))).ae (fun _=>
 (aU 0 (aa oy) (aa qd)).ae (fun _=>
 some (wt ((ki,oT,qH),(wm,Ai,yR,se),Aj,ci ox oV,qd))))))))))))))))
 ((fY,fG,jI),(gz,jB,iG,gQ),jJ,([]:U),cJ DE (0:Int)))))))))
theorem ahA (n:Nat):lm n n=some ():=ai rfl
theorem afT {X Y:Type} {f:X->Option (X⊕Y)} {r:Y} (n:Nat) (mk:Nat->X) (hn:1<=n) (h:∀k,k<n->f (mk k)=some (if k+1<n then .inl (mk (k+1)) else .inr r)) {a:X} (b:a=mk 0) {N:Nat} (hN:n<=N):bS N f a=some r:= gd mk (n - 1) (fun k hk=>by rw[h k (by omega),ai (by omega)]) (by rw[h (n - 1) (by omega),aq (by omega)]) b (by omega)
theorem aaM (of:U) (x:Int):∀n,(pO of x n).length<=n
 |0=>zad 0
 |n+1=>by have ih:=aaM of x n;simp only[pO];split;rw[By,If];omega;omega
theorem OG (of:U) (x:Int):∀n v,v∈pO of x n->∃i:Nat,i<n/\v=(i:Int)/\of.getD i 0=x
 |0,v,h=>by cases h
 |n+1,v,h=>by simp only[pO] at h;split at h;rename_i e;rcases zaF.1 h with h|h;obtain⟨i,b,a⟩:=OG of x n v h;exact⟨i,by omega,a⟩;exact⟨n,by omega,zaU.1 h,e⟩;obtain⟨i,b,a⟩:=OG of x n v h;exact⟨i,by omega,a⟩
theorem aaO {of:U} {x:Int}:∀{n i:Nat},i<n->of.getD i 0=x->(i:Int)∈pO of x n
 |n+1,i,h,e=>by by_cases b:i=n;subst b;simp only[pO,ai e];simp;have a:=aaO (of:=of) (x:=x) (show i<n by omega) e;simp only[pO];split;exact za9 _ a;exact a
theorem ajA {of:U} {x:Int} (h:x∈of):0<(vals of x).length:=by obtain⟨i,a,e⟩:=zai.1 h;exact za1 (aaO (of:=of) (x:=x) a (by rw[co,AN a];exact e))
theorem OH (of:U) (x:Int):(vals of x).length<=of.length:=aaM of x of.length
theorem am1 (x:U×Int) (y:U) (h:AK x=some y):TS bW x=some y:=by obtain⟨of,x⟩:=x;simp only[AK] at h;split at h;rename_i hl;rw[<-h];simp only[TS,ah];rw[gd (fun k=>((x,of,aK (aa of),(k:Int)),pO of x k)) (r:=wt (vals of x)) of.length ?a1 ?a2 ?a3 dY];(case a3=>rfl);(case a2=>dsimp only;rw[aW (o7 of)];simp only[bE,aL];rfl);(case a1=>intro k a;have hv:=aaM of x k;dsimp only;rw[be (dt (by rw[nl];omega)),dw,getD_some (0:Int) a];simp only[aL,bE];rw[dZ,show(k:Int)+1=((k+1:Nat):Int) by push_cast;rfl];by_cases e:of.getD k 0=x;rw[be (rN e),show cr [(k:Int)] 0 1=some [(k:Int)] from rfl];simp only[aL];rw[mr (by simp only[au,aa,If,fe];omega)];simp only[aL,sM];rw[show pO of x (k+1)=pO of x k++[(k:Int)] from ai e];rfl;rw[aW (qw e),show pO of x (k+1)=pO of x k from aq e]);simp only[bN,GB,uq,kF,aL];cases h
theorem amV (x:U×U) (y:Int) (h:GZ x=some y):TJ bW x=some y:=by obtain⟨D,ix⟩:=x;simp only[GZ,aa2] at h;split at h;rename_i r;rw[<-h];obtain⟨c,k,p⟩:=r;simp only[TJ];have o:∀j,j<=D.length->kl D ix j<=582622237229761:=fun j g=>Pd (agm c k p j g) (Pd (zaQ (by omega) (show j<=12 by have:=c.1;omega)) (by decide));rw[gd (fun j=>(D,((kl D ix j:Nat):Int),ix,aK (aa ix),(j:Int))) D.length ?f ?d ?l (dY (by have:=c.1;omega))];(case l=>rfl);(case d=>dsimp only;rw[aW (eB (by rw[nl];omega))]);(case f=>intro j g;obtain⟨a,f,d,l⟩:=Ea c.m (i:=j) (by omega);obtain⟨b,n,s,b3⟩:=Ea k.m (i:=j) (by omega);have q:=o j (by omega);have hl:=c.1;have e:kl D ix (j+1)=kl D ix j*a+b:=(by simp only[kl];rw[d,s]);have hm:=IS q (show a<=8 by omega);dsimp only;rw[be (dt (by rw[nl];omega)),dw,dw,f,n];simp only[aL];rw[rA (by rw[<-zan];omega) (by rw[<-zan];omega),<-zan,dZ,dZ,e];rfl);simp only[bN,GB];cases h
theorem abA {V:List U} {ix:U} (h:OW V ix) {i:Nat} (a:i<ix.length): cg ix (i:Int)=some (ix.getD i 0)/\cg V (i:Int)=some (V.getD i [])/\cg (V.getD i []) (ix.getD i 0)=some ((V.getD i []).getD (ix.getD i 0).toNat 0):=by obtain⟨b,h2,c⟩:=h.2 i a;refine⟨by rw[dw];exact getD_some 0 a,by rw[dw];exact getD_some [] b,?_⟩;rw[show ix.getD i 0=(((ix.getD i 0).toNat:Nat):Int) by omega,dw,BY];exact getD_some 0 c
def gL {α:Type} (n:Nat) (f:Nat->α):List α:=(zaC n).map f
theorem yi {α:Type} (n:Nat) (f:Nat->α):(gL n f).length=n:=by simp[gL]
theorem Ia {α:Type} {n j:Nat} (f:Nat->α) (h:j<n):(gL n f)[j]? =some (f j):=by simp[gL,zaS h]
theorem rP {α:Type} {n:Nat} {f g:Nat->α} (h:∀j,j<n->f j=g j):gL n f=gL n g:=zav fun j a=>h j (zae.1 a)
theorem ans {α:Type} (n:Nat) (x:α):cJ n x=gL n (fun _=>x):=by unfold cJ gL;rw[List.map_const',zar]
theorem Wi {α:Type} {n j:Nat} (f:Nat->α) (x:α):br (gL n f) j x=gL n (fun q=>if q=j then x else f q):=by
 unfold br;apply zaL;intro k;rw[List.getElem?_set];by_cases a:k<n
 ·by_cases e:j=k
  ·subst e;rw[ai rfl,ai (by rw[yi];exact a),Ia _ a,ai rfl]
  ·rw[aq e,Ia _ a,Ia _ a,aq (fun h=>e h.symm)]
 ·rw[zam (l:=gL n fun q=>if q=j then x else f q) (by rw[yi];omega)]
  by_cases e:j=k
  ·subst e;rw[ai rfl,aq (by rw[yi];exact a)]
  ·rw[aq e,zam (by rw[yi];omega)]
theorem aej {α:Type} (n:Nat) (f:Nat->α):ci (gL n f) [f n]=gL (n+1) f:=by unfold gL ci;rw[za4,zaD];rfl
theorem anr {α:Type} {n j:Nat} (f:Nat->α) (d:α) (h:j<n):(gL n f).getD j d=f j:=by rw[co,Ia f h];rfl
theorem E3 {α:Type} (n:Nat) (f g:Nat->α):aU 0 (aa (gL n f)) (aa (gL n g))=some ():=ng (by unfold aa;rw[yi,yi])
theorem zw {α:Type} {n j:Nat} (f:Nat->α) (h:j<n):dg (j:Int) (aa (gL n f))=some j:=kU (by unfold aa;rw[yi];exact h)
theorem zJ {α:Type} {n j:Nat} (f:Nat->α) (h:j<n):bL (gL n f) j=some (f j):=Ia f h
theorem Ma {α:Type} {n k:Nat} (f:Nat->α) (d:α):br (gL n fun q=>if q<k then f q else d) k (f k)=gL n fun q=>if q<k+1 then f q else d:=by rw[Wi];refine rP fun q _=>?_;by_cases e:q=k;rw[ai e,ai (by omega),e];rw[aq e];by_cases h:q<k;rw[ai h,ai (by omega)];rw[aq h,aq (by omega)]
theorem H9 {α:Type} (n:Nat) (f:Nat->α) (d:α):(gL n fun q=>if q<n then f q else d)=gL n f:=rP fun q a=>ai a
theorem Ic {α:Type} (n:Nat) (f:Nat->α) (d:α):cJ n d=gL n fun q=>if q<0 then f q else d:=by rw[ans];exact rP fun q _=>by rw[aq (by omega)]
theorem Zf:∀{A B:U},A.length=B.length->(∀i,i<A.length->(A.getD i 0).toNat<=(B.getD i 0).toNat)->aB A<=aB B
 |[],[],_,_=>zad _
 |a::A,b::B,hl,h=>by have c:=h 0 (by simp);have d:=Zf (A:=A) (B:=B) (by simpa using hl) fun i hi=>(by simpa using h (i+1) (by simp;omega));simp only[aB];exact IS (by simpa using c) d
structure gm (D:U) (m:Int) (R:List U):Prop where
 m1:1<=m
 NF:m<=12
 eu:D.length<=12
 d8:∀x∈D,1<=x/\x<=8
 g:lH D
 p1:1<=aB D
 p4:aB D<=4096
 rl:R.length=D.length
 row:∀i,i<D.length->((R.getD i []).length:Int)=D.getD i 0
 al:∀i,i<D.length->∀v∈R.getD i [],0<=v/\v<m
theorem A8 {L D A:U} {m:Int} {R:List U} (h:jQ ((L,D,A),(m,R))=true):gm D m R:=by simp only[jQ,IT,decide_eq_true_eq] at h;obtain⟨c,⟨k,g⟩,l,b⟩:=h;by_cases a:mh L D=true/\fA D<=4096;have hd:=rJ a.1;have hl:=ku a.1;have hI:=tE (D:=D) fun x hx=>(hd x hx).1;have f:=Ax (D:=D) fun x hx=>(hd x hx).1;refine⟨k,g,by omega,hd,⟨by omega,fun x hx=>by have:=hd x hx;omega⟩,f,by omega,l,fun i j=>(b i (by omega)).1,fun i j v d=>?_⟩;exact RB.1 (b i (by omega)).2 v d;have e:fF L D= -1:=aq a;rw[e] at c;exact absurd c (by decide)
section
variable {D:U} {m:Int} {R:List U}
theorem gm.uj (H:gm D m R) {i:Nat} (a:i<D.length):1<=D.getD i 0/\D.getD i 0<=8:=H.d8 _ (eX a)
theorem Vy (R:List U) (ch:U):(bw R ch).length=ch.length:=ff _ _
theorem EX {ch:U} {i:Nat} (h:i<ch.length:=by omega):(bw R ch).getD i 0=((vals (R.getD i []) (ch.getD i 0)).length:Int):=by rw[co,bw,qM _ h];rfl
structure BkF (D:U) (R:List U) (ch:U):Prop where
 cl:ch.length=D.length
 bl:(bw R ch).length=D.length
 b:∀i,i<D.length->1<=(bw R ch).getD i 0/\(bw R ch).getD i 0<=D.getD i 0
 b8:∀x∈bw R ch,1<=x/\x<=8
 g:lH (bw R ch)
 p1:1<=aB (bw R ch)
 pD:aB (bw R ch)<=aB D
theorem gm.blk (H:gm D m R) {ch:U} (d:gn R ch):BkF D R ch:=by obtain⟨h1,f⟩:=d;have BF:=H.rl;have c:∀i,i<D.length->1<=(bw R ch).getD i 0/\(bw R ch).getD i 0<=D.getD i 0:=fun i a=>(by rw[EX];have h:=ajA (f i (by omega));have g:=OH (R.getD i []) (ch.getD i 0);have a3:=H.row i a;omega);have hl:(bw R ch).length=D.length:=(by rw[Vy];omega);have b:∀x∈bw R ch,1<=x/\x<=8:=fun x hx=>(by obtain⟨i,a,rfl⟩:=zai.1 hx;have e:(bw R ch)[i]=(bw R ch).getD i 0:=(by rw[co,AN a];rfl);have h:=c i (by omega);have g:=H.uj (i:=i) (by omega);rw[e];omega);have WV:=H.eu;exact⟨by omega,hl,c,b,⟨by omega,fun x hx=>by have:=b x hx;omega⟩,Ax fun x hx=>(b x hx).1,Zf hl fun i a=>by have:=c i (by omega);omega⟩
theorem aaP {ch:U} {i:Nat} (h:i<ch.length):(m6 R ch).getD i []=vals (R.getD i []) (ch.getD i 0):=anr _ _ h
theorem gm.at (H:gm D m R) {ch:U} (f:gn R ch) (n:Nat):OW (m6 R ch) (aD (bw R ch) n):=by
 have B:=H.blk f;have WV:=H.eu;have kK:(aD (bw R ch) n).length=D.length:=(ff _ _).trans B.bl;refine⟨by omega,fun i hi=>?_⟩;have a:i<D.length:=by omega
 have dK:=B.cl;obtain⟨d,d1,e,c,d4,d5⟩:=HO B.g (i:=i) (by rw[B.bl];exact a);have b:(aD (bw R ch) n).getD i 0=((n/eV (bw R ch) (i+1)%d:Nat):Int):=by rw[BT (by rw[B.bl];exact a)];unfold fD;rw[c]
 have cI:=za8 (n/eV (bw R ch) (i+1)) (show 0<d by omega);rw[EX] at e;have ux:(m6 R ch).length=ch.length:=yi _ _;rw[b,BY,aaP (by omega)];exact⟨by omega,by omega,by omega⟩
theorem gm.whole (H:gm D m R) {ch:U} (b:gn R ch) (n:Nat):(tQ R ch n).length=D.length/\∀k,k<D.length->0<=(tQ R ch n).getD k 0/\(tQ R ch n).getD k 0<D.getD k 0:=by have B:=H.blk b;have g:=H.at b n;have f:(aD (bw R ch) n).length=D.length:=(ff _ _).trans B.bl;refine⟨(ff _ _).trans f,fun k d=>?_⟩;obtain⟨h1,h2,c⟩:=g.2 k (by omega);have dK:=B.cl;have e:(tQ R ch n).getD k 0=((m6 R ch).getD k []).getD ((aD (bw R ch) n).getD k 0).toNat 0:=(by rw[co,tQ,AY,qM _ (by omega)];rfl);rw[aaP (by omega)] at c e;obtain⟨i,i1,a,_⟩:=OG (R.getD k []) (ch.getD k 0) _ _ (eX c);have:=H.row k d;have a:(vals (R.getD k []) (ch.getD k 0)).getD ((aD (bw R ch) n).getD k 0).toNat 0=(i:Int):=a;rw[e,a];omega
theorem gm.sm8 (H:gm D m R):AD D 8:=⟨H.eu,fun x hx=>by have:=H.d8 x hx;omega⟩
theorem gm.ws8 (H:gm D m R) {ch:U} (a:gn R ch) (n:Nat):AD (tQ R ch n) 8:=by
 obtain⟨c,b⟩:=H.whole a n;refine⟨by rw[c];exact H.eu,fun x hx=>?_⟩;obtain⟨i,d,rfl⟩:=zai.1 hx;have e:(tQ R ch n)[i]=(tQ R ch n).getD i 0:=by rw[co,AN d];rfl
 have a1:=b i (by omega);have a2:=H.uj (i:=i) (by omega);rw[e];omega
theorem gm.Jw (H:gm D m R) {ch:U} (a:gn R ch) (n:Nat):eF D R ch n<aB D:=by obtain⟨h1,b⟩:=H.whole a n;have:=Q0 (D:=D) (ix:=tQ R ch n) (fun k c=>by have:=b k c;omega) D.length (zad _);rw[xI] at this;unfold eF;omega
theorem gm.ago (H:gm D m R) {ch:U} (a:gn R ch) (n:Nat):GZ (D,tQ R ch n)=some ((eF D R ch n:Nat):Int):=ai ⟨H.sm8,H.ws8 a n,(H.whole a n).1.symm⟩
end
theorem amH (x:T3×gV×Bk) (y:U) (h:CB x=some y):Tr bW x=some y:=by
 obtain⟨⟨L,D,A⟩,⟨m,R⟩,⟨ch,bl,bd,c⟩⟩:=x;simp only[CB] at h;split at h
 ·rename_i w;rw[<-h];obtain⟨d,b,s⟩:=w;dsimp only at d b s;subst s;have H:=A8 d;have B:=H.blk b;have WV:=H.eu;have dK:=B.cl;have BF:=H.rl;have MI:=H.p4;have mQ:=B.p1;have Xd:=B.pD;have t:=B.bl;simp only[Tr,ah];rw[si (n:=aa ch) (by simp only[aa,fe];omega)];simp only[aL];rw[show aU 0 (aa ch) (aa (cJ (aa ch) ([]:U)))=some () by rw[uN];exact bE _];simp only[aL];rw[gd (fun k=>((ch,aK (aa ch),(k:Int)),(L,D,A),(m,R),(ch,bl,bw R ch,c),gL ch.length fun q=>if q<k then vals (R.getD q []) (ch.getD q 0) else[])) (r:=wt ((L,D,A),(ch,bl,bw R ch,c),m6 R ch)) ch.length ?a1 ?a2 ?a3 dY]
  case a3=>rw[Ic (aa ch) (fun q=>vals (R.getD q []) (ch.getD q 0))];rfl
  case a2=>
   dsimp only
   rw[aW (o7 ch)];simp only[bE,aL];rw[H9];rfl
  case a1=>
   intro k d;have p:k<R.length:=by omega
   have hR:=H.row k (by omega);have hd:=H.uj (i:=k) (by omega);dsimp only
   rw[be (dt (by rw[nl];omega)),dw,getD_some (0:Int) d,aL,dw,getD_some ([]:U) p,aL];rw[show AK (R.getD k [],ch.getD k 0)=some (vals (R.getD k []) (ch.getD k 0)) from ai (by dsimp only;omega),aL,zw _ d,aL,gW,zJ _ d,aL,kF,aL]
   rw[Ma (fun q=>vals (R.getD q []) (ch.getD q 0)),E3,aL,dZ];rfl
  simp only[bN,GB];rw[si (n:=aa ch) (by simp only[aa,fe];omega)];simp only[aL,bE,uq];rw[show aU 0 (aa ch) (aa (cJ (aa ch) (0:Int)))=some () by rw[uN];exact bE _];simp only[aL];obtain⟨P,o⟩:∃P,aB (bw R ch)=P+1:=⟨aB (bw R ch) - 1,by omega⟩;rw[gd (fun n=>((L,D,A),(ch,bl,bw R ch,c),m6 R ch,cE n (fun n=>(eF D R ch n:Int)),aD (bw R ch) n)) (r:=cE (P+1) fun n=>(eF D R ch n:Int)) P ?b1 ?b2 ?b3 dY]
  case b3=>
   rw[show aa ch=aa (bw R ch) by unfold aa;omega,ae0 B.g];rfl
  case b1=>
   intro n hn;have e:=H.at b n;have v:=H.whole b n;have C:(aD (bw R ch) n).length=D.length:=(ff _ _).trans t;dsimp only
   rw[si (n:=aa (aD (bw R ch) n)) (by simp only[aa,fe];omega)];simp only[aL,bE];rw[show aU 0 (aa (aD (bw R ch) n)) (aa (cJ (aa (aD (bw R ch) n)) (0:Int)))=some () by rw[uN];exact bE _];simp only[aL];rw[gd (fun j=>((aK (aa (aD (bw R ch) n)),(j:Int)),(L,D,A),(ch,bl,bw R ch,c),m6 R ch,cE n (fun n=>(eF D R ch n:Int)),aD (bw R ch) n,gL (aD (bw R ch) n).length fun q=>if q<j then((m6 R ch).getD q []).getD ((aD (bw R ch) n).getD q 0).toNat 0 else 0)) (r:=wt ((L,D,A),(ch,bl,bw R ch,c),cE n (fun n=>(eF D R ch n:Int)),tQ R ch n,m6 R ch,aD (bw R ch) n)) (aD (bw R ch) n).length ?c1 ?c2 ?c3 dY]
   case c3=>
    rw[Ic (aa (aD (bw R ch) n)) (fun q=>((m6 R ch).getD q []).getD ((aD (bw R ch) n).getD q 0).toNat 0)];rfl
   case c2=>
    dsimp only
    rw[aW (o7 _)];rw[H9];rfl
   case c1=>
    intro j a;obtain⟨u,z,l⟩:=abA e a;have f:=(e.2 j a).1;dsimp only
    rw[be (dt (by rw[nl];omega)),kU (show j<aa (aD (bw R ch) n) from a),aL,gW]
    rw[show bL (aD (bw R ch) n) j=some ((aD (bw R ch) n).getD j 0) from getD_some 0 a,aL,kU (show j<aa (m6 R ch) from f),aL,gW]
    rw[show bL (m6 R ch) j=some ((m6 R ch).getD j []) from getD_some [] f,aL,l,aL,zw _ a,aL,gW,zJ _ a,aL]
    rw[Ma (fun q=>((m6 R ch).getD q []).getD ((aD (bw R ch) n).getD q 0).toNat 0),E3,aL,dZ];rfl
   simp only[gj,aL];rw[H.ago b n];simp only[aL];rw[show cr [((eF D R ch n:Nat):Int)] 0 1=some [((eF D R ch n:Nat):Int)] from rfl]
   simp only[aL];rw[mr (by simp only[au,aa,If,ff,fe];omega)];simp only[aL];rw[QY B.g (by omega) (by omega),o];simp only[aL];rw[Rz n fun n=>((eF D R ch n:Nat):Int)];rw[show decide (n+1<P+1)=true from decide_eq_true (by omega)]
   rw[aW (by rfl)];rw[show aU 0 (au (aa (cE n fun n=>((eF D R ch n:Nat):Int))) (aa [((eF D R ch n:Nat):Int)])) (aa (cE (n+1) fun n=>((eF D R ch n:Nat):Int)))=some () from ng (by simp only[au,aa,If,ff])]
   rw[show aU 0 (aa (aD (bw R ch) n)) (aa (aD (bw R ch) (n+1)))=some () from ng ((ff _ _).trans (ff _ _).symm)]
   rfl
  case b2=>
   have e:=H.at b P;have v:=H.whole b P;have C:(aD (bw R ch) P).length=D.length:=(ff _ _).trans t;dsimp only
   rw[si (n:=aa (aD (bw R ch) P)) (by simp only[aa,fe];omega)];simp only[aL,bE];rw[show aU 0 (aa (aD (bw R ch) P)) (aa (cJ (aa (aD (bw R ch) P)) (0:Int)))=some () by rw[uN];exact bE _];simp only[aL];rw[gd (fun j=>((aK (aa (aD (bw R ch) P)),(j:Int)),(L,D,A),(ch,bl,bw R ch,c),m6 R ch,cE P (fun n=>(eF D R ch n:Int)),aD (bw R ch) P,gL (aD (bw R ch) P).length fun q=>if q<j then((m6 R ch).getD q []).getD ((aD (bw R ch) P).getD q 0).toNat 0 else 0)) (r:=wt ((L,D,A),(ch,bl,bw R ch,c),cE P (fun n=>(eF D R ch n:Int)),tQ R ch P,m6 R ch,aD (bw R ch) P)) (aD (bw R ch) P).length ?c1 ?c2 ?c3 dY]
   case c3=>
    rw[Ic (aa (aD (bw R ch) P)) (fun q=>((m6 R ch).getD q []).getD ((aD (bw R ch) P).getD q 0).toNat 0)];rfl
   case c2=>
    dsimp only
    rw[aW (o7 _)];rw[H9];rfl
   case c1=>
    intro j a;obtain⟨u,z,l⟩:=abA e a;have f:=(e.2 j a).1;dsimp only
    rw[be (dt (by rw[nl];omega)),kU (show j<aa (aD (bw R ch) P) from a),aL,gW]
    rw[show bL (aD (bw R ch) P) j=some ((aD (bw R ch) P).getD j 0) from getD_some 0 a,aL,kU (show j<aa (m6 R ch) from f),aL,gW]
    rw[show bL (m6 R ch) j=some ((m6 R ch).getD j []) from getD_some [] f,aL,l,aL,zw _ a,aL,gW,zJ _ a,aL]
    rw[Ma (fun q=>((m6 R ch).getD q []).getD ((aD (bw R ch) P).getD q 0).toNat 0),E3,aL,dZ];rfl
   simp only[gj,aL];rw[H.ago b P];simp only[aL];rw[show cr [((eF D R ch P:Nat):Int)] 0 1=some [((eF D R ch P:Nat):Int)] from rfl]
   simp only[aL];rw[mr (by simp only[au,aa,If,ff,fe];omega)];simp only[aL];rw[QY B.g (by omega) (by omega),o];simp only[aL];rw[Rz P fun n=>((eF D R ch n:Nat):Int)];rw[show decide (P+1<P+1)=false from decide_eq_false (by omega)]
   rw[be (by rfl)];rw[show dO (cE (P+1) fun n=>((eF D R ch n:Nat):Int)) (au (aa (cE P fun n=>((eF D R ch n:Nat):Int))) (aa [((eF D R ch P:Nat):Int)]))=some (cE (P+1) fun n=>((eF D R ch n:Nat):Int)) by
    rw[show au (aa (cE P fun n=>((eF D R ch n:Nat):Int))) (aa [((eF D R ch P:Nat):Int)])=aa (cE (P+1) fun n=>((eF D R ch n:Nat):Int)) by simp only[au,aa,If,ff]];exact kF _]
   simp only[aL]
  rw[o]
 ·cases h
def sq (of:U):Nat->U
 |0=>[]
 |n+1=>if(n:Int)∈of then sq of n++[(n:Int)] else sq of n
def fi (m:Int) (of:U):U:=sq of m.toNat
def vo (m:Int) (R:List U):List U:=R.foldl (fun K of=>K.flatMap fun l=>(fi m of).map fun x=>l++[x]) [[]]
def mX (l:U):Int:=sm l.length fun i=>l.getD i 0
def Q2 (m:Int) (l:U):Bool:=decide (mX l%m=0)
def bD (m:Int) (R:List U):List U:=(vo m R).filter (Q2 m)
def ap7 (R:List U):U:=R.map fun l=>(l.length:Int)
def chB (c:gV):Prop:=(1<=c.1/\c.1<=12)/\c.2.length<=12/\(∀l∈c.2,(1<=l.length/\l.length<=8)/\∀v∈l,0<=v/\v<c.1)/\aB (ap7 c.2)<=4096
instance (c:gV):Decidable (chB c):=by unfold chB;infer_instance
def gS (L:U) (R:List U) (ch:U):Bk:=(ch,L,bw R ch,[])
def Es:T3×gV->Option (List Bk):=fun x=>if jQ x=true then some ((bD x.2.1 x.2.2).map (gS x.1.1 x.2.2)) else none
def AH:T3×gV->Option (List Bk):=Es
def dm (m:Int) (R:List U):U:=R.map fun of=>((fi m of).length:Int)
def iZ (m:Int) (R:List U) (ix:U):U:=cE R.length fun i=>(fi m (R.getD i [])).getD (ix.getD i 0).toNat 0
def aa5 (NN:Nat):((U×(U×U))×(Int×(List U)))->(Option (List (U×(U×(U×U))))):=
 (fun((l0,l1,l2),i3,l4)=>
 (j6 (aK (aa l4)) (aK (aa l4)) 24).ae (fun k5=>
 (j6 (aK (aa l4)) (aK (aa l4)) 8).ae (fun k6=>
 bN ((aU 0 k5 (aa (cJ k5 (([]:U))))).ae (fun _=>
 (aU 0 k6 (aa (cJ k6 (0:Int)))).ae (fun _=>
 bS NN (fun((l7,i8,i9),(cP,ed,eu),(ft,dh),dH,dM)=>
 aA (cH i9 i8)
 (bN ((cg l7 i9).ae (fun dj=>
 bN (ah dH (
 ah dM (
 bS NN (fun((gO,gb,eO,gi,iP,gv),(dN,gG,fO),(iF,ji),dW,fY)=>
 aA (cH eO iF)
 ((tV (gb,eO)).ae (fun UQ=>
 aA (UQ)
 ((dg gO (aa dW)).ae (fun BX=>
 (bL dW (au 0 BX)).ae (fun gz=>
 (dg gO (aa dW)).ae (fun tj=>
 (lm (au 0 BX) (au 0 tj)).ae (fun _=>
 (bL dW (au 0 tj)).ae (fun iG=>
 (cr ((eO::[])) 0 1).ae (fun gQ=>
 (jT (au (aa iG) (aa gQ)) 8).ae (fun _=>
 (aU 0 (aa dW) (aa (br dW (au 0 tj) (ci iG gQ)))).ae (fun _=>
 ah fY (
 some (wt ((gO,gb,bt .i64 eO 1,gi,iP,gv),(dN,gG,fO),(iF,ji),br dW (au 0 tj) (ci iG gQ),fY))))))))))))
 (ah dW (
 ah fY (
 some (wt ((gO,gb,bt .i64 eO 1,gi,iP,gv),(dN,gG,fO),(iF,ji),dW,fY)))))))
 ((ah dW (
 ah fY (
 some (wt ((gO,gv,gi,iP),(dN,gG,fO),(iF,ji),dW,fY))))).ae (fun jJ=>
 some (AT jJ))))
 ((i9,dj,(0:Int),l7,i8,i9),(cP,ed,eu),(ft,dh),dH,dM))))
 (fun((nq,uy,kz,lf),(ig,gR,iU),(nP,pI),ov,jC)=>
 (dg nq (aa ov)).ae (fun BZ=>
 (bL ov (au 0 BZ)).ae (fun jK=>
 (bL ov (au 0 BZ)).ae (fun kA=>
 (dg nq (aa jC)).ae (fun FV=>
 (bL jC (au 0 FV)).ae (fun qE=>
 ah ov (
 (aU 0 (aa jC) (aa (br jC (au 0 FV) (aK (aa kA))))).ae (fun _=>
 some (wt ((uy,kz,lf),(ig,gR,iU),(nP,pI),ov,br jC (au 0 FV) (aK (aa kA))))))))))))))
 (fun((oP,kB,xj),(iz,lg,iW),(xk,iY),gH,lV)=>
 ah gH (
 ah lV (
 some (wt ((kB,xj,bt .i64 oP 1),(iz,lg,iW),(xk,iY),gH,lV))))))
 ((ah dH (
 ah dM (
 some (wt ((cP,ed,eu),(ft,dh),dH,dM))))).ae (fun uL=>
 some (AT uL))))
 ((l4,aK (aa l4),(0:Int)),(l0,l1,l2),(i3,l4),cJ k5 (([]:U)),cJ k6 (0:Int)))))
 (fun((ny,sd,qG),(yD,uM),mA,ki)=>
 (j6 (aK (aa ki)) (aK (aa ki)) 8).ae (fun FY=>
 ah mA (
 ah ki (
 (aU 0 0 (aa (([]:List (U×(U×(U×U))))))).ae (fun _=>
 (aU 0 FY (aa (cJ FY (0:Int)))).ae (fun _=>
 bS NN (fun((qH,wm,Ai),(yE,se),ox,oU,Aj,oy)=>
 (j6 (aK (aa oU)) (aK (aa oU)) 8).ae (fun FZ=>
 bN (ah ox (
 ah oU (
 ah Aj (
 ah oy (
 (aU 0 FZ (aa (cJ FZ (0:Int)))).ae (fun _=>
 ah oy (
 bS NN (fun((z6,rZ),(ry,qd,wq),(yF,yS),lW,nR,pJ,kQ,lk)=>
 aA (cH rZ z6)
 ((dg rZ (aa kQ)).ae (fun Yh=>
 (bL kQ (au 0 Yh)).ae (fun XS=>
 (dg rZ (aa lW)).ae (fun F0=>
 (bL lW (au 0 F0)).ae (fun j5=>
 (bL lW (au 0 F0)).ae (fun oW=>
 (dg XS (aa oW)).ae (fun BW=>
 (bL lW (au 0 F0)).ae (fun oh=>
 (bL oh BW).ae (fun Ds=>
 (dg rZ (aa lk)).ae (fun FO=>
 (bL lk (au 0 FO)).ae (fun M3=>
 ah lW (
 ah nR (
 ah pJ (
 ah kQ (
 (aU 0 (aa lk) (aa (br lk (au 0 FO) Ds))).ae (fun _=>
 ah kQ (
 some (wt ((z6,bt .i64 rZ 1),(ry,qd,wq),(yF,yS),lW,nR,pJ,kQ,br lk (au 0 FO) Ds)))))))))))))))))))
 ((ah lk (
 ah lW (
 ah nR (
 ah pJ (
 ah kQ (
 some (wt ((ry,qd,wq),(yF,yS),lk,lW,nR,pJ,kQ)))))))).ae (fun wc=>
 some (AT wc))))
 ((aK (aa oy),(0:Int)),(qH,wm,Ai),(yE,se),ox,oU,Aj,oy,cJ FZ (0:Int)))))))))
 (fun((pE,r8,wg),(yA,wh),rr,uG,yI,yJ,yK)=>
 (cr rr 0 (aa rr)).ae (fun uH=>
 (tZ uH).ae (fun M5=>
 (ja M5 yA).ae (fun M6=>
 bN (aA (bH M6 (0:Int))
 ((pP pE).ae (fun xn=>
 bN (ah uG (
 ah yI (
 ah yJ (
 ah yK (
 ah rr (
 ah rr (
 ah xn (
 (aU 0 0 (aa (([]:U)))).ae (fun _=>
 bS NN (fun((M7,BQ),(tn,r9,xp),(M8,yN),mw,pF,mz,mS,oj,ot,nv)=>
 aA (cH BQ M7)
 ((dg BQ (aa mw)).ae (fun Yb=>
 (bL mw (au 0 Yb)).ae (fun XF=>
 (cg yN BQ).ae (fun yO=>
 (AK (yO,XF)).ae (fun DF=>
 ah mz (
 (cr ((aK (aa DF)::[])) 0 1).ae (fun xq=>
 (jT (au (aa mz) (aa xq)) 8).ae (fun _=>
 ah mS (
 ah oj (
 ah ot (
 ah nv (
 ah mw (
 ah mw (
 ah pF (
 (aU 0 (au (aa mz) (aa xq)) (aa (ci mz xq))).ae (fun _=>
 some (wt ((M7,bt .i64 BQ 1),(tn,r9,xp),(M8,yN),mw,pF,ci mz xq,mS,oj,ot,nv))))))))))))))))))
 ((ah ot (
 ah mS (
 ah oj (
 ah nv (
 ah mw (
 ah pF (
 ah mz (
 some (wt ((tn,r9,xp),(M8,yN),mw,pF,mz,ot,mS,oj,nv)))))))))).ae (fun I4=>
 some (AT I4))))
 ((aK (aa rr),(0:Int)),(pE,r8,wg),(yA,wh),rr,xn,([]:U),uG,yI,yJ,yK))))))))))
 (fun((I5,I6,I7),(BR,Ag),tp,uI,uJ,pG,Ah,pH,sa)=>
 (dO tp (aa tp)).ae (fun ru=>
 (dO uI (aa uI)).ae (fun rv=>
 (dO uJ (aa uJ)).ae (fun yP=>
 ah pG (
 (aU 0 1 (aa (((ru,rv,yP,([]:U))::[])))).ae (fun _=>
 (jT (au (aa pG) (aa (((ru,rv,yP,([]:U))::[])))) 96).ae (fun _=>
 ah Ah (
 ah pH (
 (aU 0 (au (aa pG) (aa (((ru,rv,yP,([]:U))::[])))) (aa (ci pG (((ru,rv,yP,([]:U))::[]))))).ae (fun _=>
 ah sa (
 some (wt ((I5,I6,I7),(BR,Ag),Ah,pH,ci pG (((ru,rv,yP,([]:U))::[])),sa)))))))))))))))
 (ah uG (
 ah yI (
 ah yJ (
 ah yK (
 some (wt ((pE,r8,wg),(yA,wh),uG,yI,yJ,yK))))))))
 (fun((DG,I9,B2),(Nc,B3),uK,tq,tr,tt)=>
 (cr tq 0 (aa tq)).ae (fun DH=>
 ah tt (
 (vj (DH,tt)).ae (fun(EF,DI)=>
 aA (de EF)
 (((dO tr (aa tr)).ae (fun Yk=>
 some Yk)).ae (fun Ny=>
 some (AT Ny)))
 (ah uK (
 ah tq (
 ah tr (
 (aU 0 (aa tt) (aa DI)).ae (fun _=>
 some (wt ((DG,I9,B2),(Nc,B3),uK,tq,tr,DI)))))))))))))))))
 ((ny,sd,qG),(yD,uM),mA,ki,([]:List (U×(U×(U×U)))),cJ FY (0:Int)))))))))))
def aa4 (NN:Nat):((U×(U×U))×(Int×(List U)))->(Option (List (U×(U×(U×U))))):=
 (fun((l0,l1,l2),i3,l4)=>
 (j6 (aK (aa l4)) (aK (aa l4)) 24).ae (fun k5=>
 (j6 (aK (aa l4)) (aK (aa l4)) 8).ae (fun k6=>
 bN ((aU 0 k5 (aa (cJ k5 (([]:U))))).ae (fun _=>
 (aU 0 k6 (aa (cJ k6 (0:Int)))).ae (fun _=>
 bS NN (fun((l7,i8,i9),(cP,ed,eu),(ft,dh),dH,dM)=>
 aA (cH i9 i8)
 (bN ((cg l7 i9).ae (fun dj=>
 bN (ah dH (
 ah dM (
 bS NN (fun((gO,gb,eO,gi,iP,gv),(dN,gG,fO),(iF,ji),dW,fY)=>
 aA (cH eO iF)
 ((tV (gb,eO)).ae (fun UQ=>
 aA (UQ)
 ((dg gO (aa dW)).ae (fun BX=>
 (bL dW (au 0 BX)).ae (fun gz=>
 (dg gO (aa dW)).ae (fun tj=>
 (lm (au 0 BX) (au 0 tj)).ae (fun _=>
 (bL dW (au 0 tj)).ae (fun iG=>
 (cr ((eO::[])) 0 1).ae (fun gQ=>
 (jT (au (aa iG) (aa gQ)) 8).ae (fun _=>
 (aU 0 (aa dW) (aa (br dW (au 0 tj) (ci iG gQ)))).ae (fun _=>
 ah fY (
 some (wt ((gO,gb,bt .i64 eO 1,gi,iP,gv),(dN,gG,fO),(iF,ji),br dW (au 0 tj) (ci iG gQ),fY))))))))))))
 (ah dW (
 ah fY (
 some (wt ((gO,gb,bt .i64 eO 1,gi,iP,gv),(dN,gG,fO),(iF,ji),dW,fY)))))))
 ((ah dW (
 ah fY (
 some (wt ((gO,gv,gi,iP),(dN,gG,fO),(iF,ji),dW,fY))))).ae (fun jJ=>
 some (AT jJ))))
 ((i9,dj,(0:Int),l7,i8,i9),(cP,ed,eu),(ft,dh),dH,dM))))
 (fun((nq,uy,kz,lf),(ig,gR,iU),(nP,pI),ov,jC)=>
 (dg nq (aa ov)).ae (fun BZ=>
 (bL ov (au 0 BZ)).ae (fun jK=>
 (bL ov (au 0 BZ)).ae (fun kA=>
 (dg nq (aa jC)).ae (fun FV=>
 (bL jC (au 0 FV)).ae (fun qE=>
 ah ov (
 (aU 0 (aa jC) (aa (br jC (au 0 FV) (aK (aa kA))))).ae (fun _=>
 some (wt ((uy,kz,lf),(ig,gR,iU),(nP,pI),ov,br jC (au 0 FV) (aK (aa kA))))))))))))))
 (fun((oP,kB,xj),(iz,lg,iW),(xk,iY),gH,lV)=>
 ah gH (
 ah lV (
 some (wt ((kB,xj,bt .i64 oP 1),(iz,lg,iW),(xk,iY),gH,lV))))))
 ((ah dH (
 ah dM (
 some (wt ((cP,ed,eu),(ft,dh),dH,dM))))).ae (fun uL=>
 some (AT uL))))
 ((l4,aK (aa l4),(0:Int)),(l0,l1,l2),(i3,l4),cJ k5 (([]:U)),cJ k6 (0:Int)))))
 (fun((ny,sd,qG),(yD,uM),mA,ki)=>
 (j6 (aK (aa ki)) (aK (aa ki)) 8).ae (fun FY=>
 ah mA (
 ah ki (
 (aU 0 0 (aa (([]:List (U×(U×(U×U))))))).ae (fun _=>
 (aU 0 FY (aa (cJ FY (0:Int)))).ae (fun _=>
 bS NN (fun((qH,wm,Ai),(yE,se),ox,oU,Aj,oy)=>
 (j6 (aK (aa oU)) (aK (aa oU)) 8).ae (fun FZ=>
 bN (ah ox (
 ah oU (
 ah Aj (
 ah oy (
 (aU 0 FZ (aa (cJ FZ (0:Int)))).ae (fun _=>
 ah oy (
 bS NN (fun((z6,rZ),(ry,qd,wq),(yF,yS),lW,nR,pJ,kQ,lk)=>
 aA (cH rZ z6)
 ((dg rZ (aa kQ)).ae (fun Yh=>
 (bL kQ (au 0 Yh)).ae (fun XS=>
 (dg rZ (aa lW)).ae (fun F0=>
 (bL lW (au 0 F0)).ae (fun j5=>
 (bL lW (au 0 F0)).ae (fun oW=>
 (dg XS (aa oW)).ae (fun BW=>
 (bL lW (au 0 F0)).ae (fun oh=>
 (bL oh BW).ae (fun Ds=>
 (dg rZ (aa lk)).ae (fun FO=>
 (bL lk (au 0 FO)).ae (fun M3=>
 ah lW (
 ah nR (
 ah pJ (
 ah kQ (
 (aU 0 (aa lk) (aa (br lk (au 0 FO) Ds))).ae (fun _=>
 ah kQ (
 some (wt ((z6,bt .i64 rZ 1),(ry,qd,wq),(yF,yS),lW,nR,pJ,kQ,br lk (au 0 FO) Ds)))))))))))))))))))
 ((ah lk (
 ah lW (
 ah nR (
 ah pJ (
 ah kQ (
 some (wt ((ry,qd,wq),(yF,yS),lk,lW,nR,pJ,kQ)))))))).ae (fun wc=>
 some (AT wc))))
 ((aK (aa oy),(0:Int)),(qH,wm,Ai),(yE,se),ox,oU,Aj,oy,cJ FZ (0:Int)))))))))
 (fun((pE,r8,wg),(yA,wh),rr,uG,yI,yJ,yK)=>
 (cr rr 0 (aa rr)).ae (fun uH=>
 (tZ uH).ae (fun M5=>
 (ja M5 yA).ae (fun M6=>
 bN (aA (bH M6 (0:Int))
 ((pP pE).ae (fun xn=>
 bN (ah uG (
 ah yI (
 ah yJ (
 ah yK (
 ah rr (
 ah rr (
 ah xn (
 (aU 0 0 (aa (([]:U)))).ae (fun _=>
 bS NN (fun((M7,BQ),(tn,r9,xp),(M8,yN),mw,pF,mz,mS,oj,ot,nv)=>
 aA (cH BQ M7)
 ((dg BQ (aa mw)).ae (fun Yb=>
 (bL mw (au 0 Yb)).ae (fun XF=>
 (cg yN BQ).ae (fun yO=>
 (AK (yO,XF)).ae (fun DF=>
 ah mz (
 (cr ((aK (aa DF)::[])) 0 1).ae (fun xq=>
 (jT (au (aa mz) (aa xq)) 8).ae (fun _=>
 ah mS (
 ah oj (
 ah ot (
 ah nv (
 ah mw (
 ah mw (
 ah pF (
 (aU 0 (au (aa mz) (aa xq)) (aa (ci mz xq))).ae (fun _=>
 some (wt ((M7,bt .i64 BQ 1),(tn,r9,xp),(M8,yN),mw,pF,ci mz xq,mS,oj,ot,nv))))))))))))))))))
 ((ah ot (
 ah mS (
 ah oj (
 ah nv (
 ah mw (
 ah pF (
 ah mz (
 some (wt ((tn,r9,xp),(M8,yN),mw,pF,mz,ot,mS,oj,nv)))))))))).ae (fun I4=>
 some (AT I4))))
 ((aK (aa rr),(0:Int)),(pE,r8,wg),(yA,wh),rr,xn,([]:U),uG,yI,yJ,yK))))))))))
 (fun((I5,I6,I7),(BR,Ag),tp,uI,uJ,pG,Ah,pH,sa)=>
 (dO tp (aa tp)).ae (fun ru=>
 (dO uI (aa uI)).ae (fun rv=>
 (dO uJ (aa uJ)).ae (fun yP=>
 ah pG (
 (aU 0 1 (aa (((ru,rv,yP,([]:U))::[])))).ae (fun _=>
 (jT (au (aa pG) (aa (((ru,rv,yP,([]:U))::[])))) 96).ae (fun _=>
 ah Ah (
 ah pH (
 (aU 0 (au (aa pG) (aa (((ru,rv,yP,([]:U))::[])))) (aa (ci pG (((ru,rv,yP,([]:U))::[]))))).ae (fun _=>
 ah sa (
 some (wt ((I5,I6,I7),(BR,Ag),Ah,pH,ci pG (((ru,rv,yP,([]:U))::[])),sa)))))))))))))))
 (ah uG (
 ah yI (
 ah yJ (
 ah yK (
 some (wt ((pE,r8,wg),(yA,wh),uG,yI,yJ,yK))))))))
 (fun((DG,I9,B2),(Nc,B3),uK,tq,tr,tt)=>
 (cr tq 0 (aa tq)).ae (fun DH=>
 ah tt (
 (vj (DH,tt)).ae (fun(EF,DI)=>
 aA (de EF)
 (((dO tr (aa tr)).ae (fun Yk=>
 some Yk)).ae (fun Ny=>
 some (AT Ny)))
 (ah uK (
 ah tq (
 ah tr (
 (aU 0 (aa tt) (aa DI)).ae (fun _=>
 some (wt ((DG,I9,B2),(Nc,B3),uK,tq,tr,DI)))))))))))))))))
 ((ny,sd,qG),(yD,uM),mA,ki,([]:List (U×(U×(U×U)))),cJ FY (0:Int)))))))))))
theorem NY (of:U) (x:Int):∀n,x∈sq of n↔∃i:Nat,i<n/\x=(i:Int)/\x∈of
 |0=>by simp[sq]
 |n+1=>by have ih:=NY of x n;grind [sq]
theorem ab5 (n:Int):∀l:U,l.countP (fun v=>decide (v<n))+(if n∈l then 1 else 0)<=l.countP (fun v=>decide (v<n+1))
 |[]=>by simp
 |v::l=>by have ih:=ab5 n l;grind
theorem Zc (of:U):∀n,(sq of n).length<=of.countP (fun v=>decide (v<(n:Int)))
 |0=>zbb _
 |n+1=>by have ih:=Zc of n;have st:=ab5 (n:Int) of;grind [sq,By,If]
theorem ats (m:Int) (of:U):(fi m of).length<=of.length:=Pd (Zc of m.toNat) za5
theorem atr {m:Int} {of:U} {x:Int} (h:x∈fi m of):x∈of:=by obtain⟨_,_,_,h⟩:=(NY of x _).1 h;exact h
theorem att {m:Int} {of:U} (h1:of≠[]) (a:∀v∈of,0<=v/\v<m):0<(fi m of).length:=by rcases of with _|⟨v,l⟩;simp_all;have:=a v (by simp);exact za1 ((NY (v::l) v _).2 ⟨v.toNat,by omega,by omega,by simp⟩)
theorem Ze:∀(A:U) (q:Int),aB (A++[q])=aB A*q.toNat
 |[],q=>by simp[aB]
 |a::A,q=>by have:=Ze A q;simp only[zbj,aB,this,zaR]
theorem alx {P:U} {q:Int} {n i:Nat} (h:i<P.length):fD (P++[q]) n i=fD P (n/q.toNat) i:=by unfold fD eV;rw[zaz (by omega),Ze,zaE,<-Nat.div_div_eq_div_mul];first|grind|omega
theorem alu (P:U) (q:Int) (n:Nat):fD (P++[q]) n P.length=((n%q.toNat:Nat):Int):=by unfold fD eV;rw[show(P++[q]).drop (P.length+1)=[] from za2 (by simp),show aB []=1 from rfl,zbB];rw[show(P++[q]).getD P.length 0=q by rw[co,zal (zad _),za6];rfl]
theorem aek {α:Type} (q:Nat) (f:Nat->α):∀a,gL (a*q) f=(gL a fun x=>gL q fun y=>f (x*q+y)).flatten
 |0=>by simp[gL]
 |a+1=>by have b:=aek q f a;have e:gL (a+1) (fun x=>gL q fun y=>f (x*q+y))=gL a (fun x=>gL q fun y=>f (x*q+y))++[gL q fun y=>f (a*q+y)]:=(by unfold gL;rw[za4,zaD];rfl);rw[e,List.flatten_append,<-b,Pe,zac];simp_all [List.range_add,zaD,List.map_map,List.flatten_cons,List.flatten_nil,za7,gL]
theorem Ib {α β:Type} (g:α->β) (l:List α) (d:α):gL l.length (fun i=>g (l.getD i d))=l.map g:=by apply zaL;intro i;by_cases h:i<l.length;rw[Ia _ h,zab,getD_some d h];rfl;simp_all [yi,AI]
theorem UD (m:Int) (R:List U) (of:U):vo m (R++[of])=(vo m R).flatMap fun l=>(fi m of).map fun x=>l++[x]:=by unfold vo;simp_all
theorem ath {m:Int} {R:List U} {of:U} {x y:Nat} (h:y<(fi m of).length): iZ m (R++[of]) (aD (dm m (R++[of])) (x*(fi m of).length+y))=iZ m R (aD (dm m R) x)++[(fi m of).getD y 0]:=by have a:dm m (R++[of])=dm m R++[((fi m of).length:Int)]:=(by simp[dm]);have hl:(dm m R).length=R.length:=(by simp[dm]);have b:(x*(fi m of).length+y)/(fi m of).length=x:=(by rw[zbv,Nat.add_mul_div_right _ _ (by omega),zbk h,zbg]);have hr:(x*(fi m of).length+y)%(fi m of).length=y:=(by rw[zbv,Nat.add_mul_mod_self_right,zbl h]);unfold iZ;rw[By,If];rw[show cE (R.length+1) (fun i=>(fi m ((R++[of]).getD i [])).getD ((aD (dm m (R++[of])) (x*(fi m of).length+y)).getD i 0).toNat 0)=cE R.length (fun i=>(fi m ((R++[of]).getD i [])).getD ((aD (dm m (R++[of])) (x*(fi m of).length+y)).getD i 0).toNat 0)++[(fi m ((R++[of]).getD R.length [])).getD ((aD (dm m (R++[of])) (x*(fi m of).length+y)).getD R.length 0).toNat 0] from(Rz _ _).symm];congr 1;refine nB fun i hi=>?_;rw[BT (by grind),BT (by omega),a,alx (by omega),BY,b];(first|grind|omega);rw[BT (by simp_all),a];rw[show R.length=(dm m R).length from hl.symm,alu];simp only[BY,hr];rw[show(R++[of]).getD (dm m R).length []=of by rw[hl,co,zal (zad _),za6];rfl]
theorem Pr (m:Int):∀(k:Nat) (R:List U),R.length=k->gL (aB (dm m R)) (fun n=>iZ m R (aD (dm m R) n))=vo m R
 |0,R,h=>by rw[zap h];rfl
 |k+1,R,h=>by obtain⟨R,of,rfl⟩:∃c of,R=c++[of]:=⟨R.dropLast,R.getLast (by grind),(zaq _).symm⟩;have b:=Pr m k R (by simpa using h);have a:dm m (R++[of])=dm m R++[((fi m of).length:Int)]:=(by simp[dm]);rw[UD,<-b,show aB (dm m (R++[of]))=aB (dm m R)*(fi m of).length by rw[a,Ze,BY],aek,List.flatMap_def];congr 1;rw[show(gL (aB (dm m R)) fun n=>iZ m R (aD (dm m R) n)).map (fun l=>(fi m of).map fun x=>l++[x])=gL (aB (dm m R)) (fun n=>(fi m of).map fun x=>iZ m R (aD (dm m R) n)++[x]) by unfold gL;simp_all];refine rP fun x _=>?_;rw[<-Ib (fun v=>iZ m R (aD (dm m R) x)++[v]) (fi m of) 0];exact rP fun y hy=>ath hy
structure PdF (D:U) (m:Int) (R:List U):Prop where
 l:(dm m R).length=D.length
 get:∀i,i<D.length->(dm m R).getD i 0=((fi m (R.getD i [])).length:Int)
 b:∀i,i<D.length->1<=(fi m (R.getD i [])).length/\((fi m (R.getD i [])).length:Int)<=D.getD i 0
 g:lH (dm m R)
 p1:1<=aB (dm m R)
 pD:aB (dm m R)<=aB D
section
variable {D:U} {m:Int} {R:List U}
theorem gm.pd (H:gm D m R):PdF D m R:=by have d:=H.rl;have hl:(dm m R).length=D.length:=(by simp only[dm,AI];exact d);have f:∀i,i<D.length->(dm m R).getD i 0=((fi m (R.getD i [])).length:Int):=fun i a=>(by simp_all [co,dm,zab,getD_some]);have b:∀i,i<D.length->1<=(fi m (R.getD i [])).length/\((fi m (R.getD i [])).length:Int)<=D.getD i 0:=fun i a=>(by have h1:=H.row i a;have h2:=H.uj a;have h3:=ats m (R.getD i []);have h4:=att (m:=m) (of:=R.getD i []) (by grind) (H.al i a);omega);have c:∀x∈dm m R,1<=x/\x<=8:=fun x hx=>(by obtain⟨i,a,rfl⟩:=zai.1 hx;have e:(dm m R)[i]=(dm m R).getD i 0:=(by rw[co,AN a];rfl);have a1:=b i (by omega);have a2:=H.uj (i:=i) (by omega);grind);have Mc:=H.eu;exact⟨hl,f,b,⟨by omega,fun x hx=>by grind⟩,Ax fun x hx=>(c x hx).1,Zf hl fun i a=>by grind⟩
theorem Nj {P:U} (h:lH P) (n:Nat) {i:Nat} (a:i<P.length):0<=(aD P n).getD i 0/\(aD P n).getD i 0<P.getD i 0:=by
 obtain⟨d,d1,d2,b,d4,d5⟩:=HO h a;have zR:(aD P n).getD i 0=((n/eV P (i+1)%d:Nat):Int):=by rw[BT a];unfold fD;rw[b]
 have cI:=za8 (n/eV P (i+1)) (show 0<d by omega);omega
theorem gm.ix (H:gm D m R) (n:Nat) {i:Nat} (a:i<D.length):∃k:Nat,(aD (dm m R) n).getD i 0=(k:Int)/\k<(fi m (R.getD i [])).length:=by have P:=H.pd;have:=Nj P.g n (i:=i) (by have:=P.l;omega);rw[P.get i a] at this;exact⟨((aD (dm m R) n).getD i 0).toNat,by omega,by omega⟩
theorem atg {ix:U} {i:Nat} (a:i<R.length):(iZ m R ix).getD i 0=(fi m (R.getD i [])).getD (ix.getD i 0).toNat 0:=by rw[co,iZ,qM _ a];rfl
theorem gm.pick (H:gm D m R) (n:Nat):gn R (iZ m R (aD (dm m R) n)):=by refine⟨ff _ _,fun i c=>?_⟩;have BF:=H.rl;obtain⟨k,b,a⟩:=H.ix n (i:=i) (by omega);rw[atg c,b,BY];exact atr (eX a)
theorem gm.Vg (H:gm D m R) {ch:U} (a:gn R ch):ch.length<=12/\∀v∈ch,0<=v/\v<=12:=by
 obtain⟨h1,b⟩:=a;have BF:=H.rl;have Mc:=H.eu;have hm:=H.NF;refine⟨by omega,fun v c=>?_⟩;obtain⟨i,d,rfl⟩:=zai.1 c;have e:ch[i]=ch.getD i 0:=by rw[co,AN d];rfl
 have:=H.al i (by omega) _ (b i (by omega));rw[e];omega
theorem gm.aap (H:gm D m R) {ch:U} (a:gn R ch):tZ ch=some (mX ch):=ai (H.Vg a)
theorem gm.awE (H:gm D m R) {ch:U} (b:gn R ch):0<=mX ch/\mX ch<=144:=by obtain⟨h1,c⟩:=H.Vg b;have hb:∀k,k<=ch.length->0<=sm k (fun i=>ch.getD i 0)/\sm k (fun i=>ch.getD i 0)<=12*k:=(by intro k;induction k with|zero=>exact fun _=>⟨zbC 0,zbC 0⟩|succ k a=>intro hk;have a:=a (by omega);have:=c _ (eX (show k<ch.length by omega));grind [sm]);grind [mX]
theorem gm.atV (H:gm D m R) {ch:U} (c:gn R ch):ja (mX ch) m=some (mX ch%m):=by have h1:=H.awE c;have hm:=H.m1;have:=abP (a:=(mX ch).toNat) (b:=m.toNat) (by omega);grind
end
def qn (L:U) (m:Int) (R:List U) (n:Nat):List Bk:=((gL n fun n=>iZ m R (aD (dm m R) n)).filter (Q2 m)).map (gS L R)
theorem akJ {L:U} {m:Int} {R:List U} {n:Nat} (h:mX (iZ m R (aD (dm m R) n))%m=0):qn L m R (n+1)=qn L m R n++[gS L R (iZ m R (aD (dm m R) n))]:=by grind [aej,ci,qn,Q2]
theorem akI {L:U} {m:Int} {R:List U} {n:Nat} (h:¬mX (iZ m R (aD (dm m R) n))%m=0):qn L m R (n+1)=qn L m R n:=by grind [aej,ci,qn,Q2]
theorem akH (L:U) (m:Int) (R:List U) (n:Nat):(qn L m R n).length<=n:=by unfold qn;rw[AI];exact Pd (zag _ _) (Nat.le_of_eq (yi _ _))
theorem akG (L:U) (m:Int) (R:List U):qn L m R (aB (dm m R))=(bD m R).map (gS L R):=by unfold qn bD;rw[Pr m R.length R rfl]
def uV (m:Int) (R:List U) (i c q:Nat):U:=if q<i then fi m (R.getD q []) else if q=i then sq (R.getD i []) c else[]
theorem atm (m:Int) (R:List U) (i:Nat) (n:Nat):gL n (uV m R i 0)=gL n (fun q=>if q<i then fi m (R.getD q []) else[]):=rP fun q _=>by unfold uV;by_cases h:q<i;simp_all;rw[aq h,aq h];by_cases e:q=i;rw[ai e];rfl;simp_all
theorem atn (m:Int) (R:List U) (i:Nat) (n:Nat):gL n (uV m R i m.toNat)=gL n (fun q=>if q<i+1 then fi m (R.getD q []) else[]):=rP fun q _=>by unfold uV;by_cases h:q<i;(first|grind|simp_all);rw[aq h];by_cases e:q=i;subst e;rw[ai rfl,ai (by omega)];rfl;grind
theorem atp {m:Int} {R:List U} {i c n:Nat} (h:(c:Int)∈R.getD i []):br (gL n (uV m R i c)) i (sq (R.getD i []) c++[(c:Int)])=gL n (uV m R i (c+1)):=by rw[Wi];refine rP fun q _=>?_;by_cases e:q=i;subst e;rw[ai rfl];unfold uV;rw[aq (by omega),ai rfl];exact(ai h).symm;simp_all [uV]
theorem ato {m:Int} {R:List U} {i c n:Nat} (h:¬(c:Int)∈R.getD i []):gL n (uV m R i c)=gL n (uV m R i (c+1)):=rP fun q _=>by unfold uV;by_cases a:q<i;simp_all;rw[aq a,aq a];by_cases e:q=i;rw[ai e,ai e];exact(aq h).symm;simp_all
theorem atq (of:U) (n:Nat):(sq of n).length<=of.length:=Pd (Zc of n) za5
theorem amF (x:T3×gV) (y:List Bk) (h:AH x=some y):aa4 bW x=some y:=by
 obtain⟨⟨L,D,A⟩,⟨m,R⟩⟩:=x;simp only[AH,Es] at h;split at h
 ·rename_i w;rw[<-h];have H:=A8 w;have P:=H.pd;have WV:=H.eu;have t:=H.rl;have MI:=H.p4;have iL:=H.m1;have axx:=H.NF;have mQ:=P.p1;have Xd:=P.pD;have u:=P.l;have hLl:L.length<=12:=by
   simp only[jQ,IT,decide_eq_true_eq] at w;by_cases z:mh L D=true/\fA D<=4096
   ·exact(ku z.1).1
   ·have e:fF L D= -1:=aq z;omega
  simp only[aa4,ah];rw[si (n:=aa R) (by simp only[aa,fe];omega)];simp only[aL];rw[si (n:=aa R) (by simp only[aa,fe];omega)];simp only[aL];rw[show aU 0 (aa R) (aa (cJ (aa R) ([]:U)))=some () by rw[uN];exact bE _,show aU 0 (aa R) (aa (cJ (aa R) (0:Int)))=some () by rw[uN];exact bE _];simp only[aL];rw[gd (fun i=>((R,aK (aa R),(i:Int)),(L,D,A),(m,R),gL R.length (fun q=>if q<i then fi m (R.getD q []) else[]),gL R.length (fun q=>if q<i then((fi m (R.getD q [])).length:Int) else 0))) (r:=wt ((L,D,A),(m,R),gL R.length (fun q=>fi m (R.getD q [])),dm m R)) R.length ?a1 ?a2 ?a3 dY]
  case a3=>
   rw[Ic (aa R) (fun q=>fi m (R.getD q [])),Ic (aa R) (fun q=>((fi m (R.getD q [])).length:Int))];rfl
  case a2=>
   dsimp only
   rw[aW (o7 R)];simp only[bE,aL];rw[H9,H9,Ib (fun of=>((fi m of).length:Int)) R []];rfl
  case a1=>
   intro i d;have C:=H.row i (by omega);have E:=H.uj (i:=i) (by omega);dsimp only
   rw[be (dt (by rw[nl];omega)),dw,getD_some ([]:U) d];simp only[aL,bE];rw[gd (fun c=>(((i:Int),R.getD i [],(c:Int),R,aK (aa R),(i:Int)),(L,D,A),(m,R),gL R.length (uV m R i c),gL R.length (fun q=>if q<i then((fi m (R.getD q [])).length:Int) else 0))) (r:=wt (((i:Int),(i:Int),R,aK (aa R)),(L,D,A),(m,R),gL R.length (fun q=>if q<i+1 then fi m (R.getD q []) else[]),gL R.length (fun q=>if q<i then((fi m (R.getD q [])).length:Int) else 0))) m.toNat ?b1 ?b2 ?b3 dY]
   case b3=>rw[atm];rfl
   case b2=>
    dsimp only
    rw[aW eB]
    simp_all [bE,aL,atn]
   case b1=>
    intro c sO;have IB:=atq (R.getD i []) c;dsimp only
    rw[be dt,show tV (R.getD i [],(c:Int))=some (decide ((c:Int)∈R.getD i [])) from ai (by grind)]
    simp only[aL];rw[dZ,show(c:Int)+1=((c+1:Nat):Int) by omega];by_cases hm:(c:Int)∈R.getD i []
    ·rw[show decide ((c:Int)∈R.getD i [])=true from decide_eq_true hm,be (by rfl),zw _ d]
     simp only[aL,gW];rw[zJ _ d];simp only[aL,ahA];rw[show uV m R i c i=sq (R.getD i []) c by simp_all [uV]];rw[show cr [(c:Int)] 0 1=some [(c:Int)] from rfl]
     simp only[aL];rw[mr (by simp only[au,aa,If,fe];omega)];simp only[aL];rw[show ci (sq (R.getD i []) c) [(c:Int)]=sq (R.getD i []) c++[(c:Int)] from rfl,atp hm,E3]
     simp only[aL,bE]
    ·rw[show decide ((c:Int)∈R.getD i [])=false from decide_eq_false hm,aW (by rfl),ato hm]
     try simp only[aL,bE]
   simp only[bN,GB];rw[zw _ d];simp only[aL,gW];rw[zJ _ d];simp only[aL];rw[zw _ d];simp only[aL,gW];rw[zJ _ d];simp only[aL,bE];rw[ai (show i<i+1 by omega),show aK (aa (fi m (R.getD i [])))=((fi m (R.getD i [])).length:Int) from rfl,Ma (fun q=>((fi m (R.getD q [])).length:Int)),E3]
   simp only[aL,bE];rw[dZ];rfl
  simp only[bN,GB];rw[si (n:=aa (dm m R)) (by simp only[aa,fe];omega)];simp only[aL,bE,uq];rw[show aU 0 (aa (dm m R)) (aa (cJ (aa (dm m R)) (0:Int)))=some () by rw[uN];exact bE _];simp only[aL];obtain⟨Q,p⟩:∃Q,aB (dm m R)=Q+1:=⟨aB (dm m R) - 1,by omega⟩;rw[afT (Q+1) (fun n=>((L,D,A),(m,R),gL R.length (fun q=>fi m (R.getD q [])),dm m R,qn L m R n,aD (dm m R) n)) (r:=qn L m R (Q+1)) (by omega) ?e1 ?e3 (zbw dY)]
  case e3=>rw[ae0 P.g];rfl
  case e1=>
   intro n hn;have o:=H.pick n;have axr:=H.Vg o;have kK:(aD (dm m R) n).length=R.length:=(ff _ _).trans (u.trans t.symm);have yl:=akH L m R n;dsimp only
   rw[si (n:=aa (dm m R)) (by simp only[aa,fe];omega)];simp only[aL,bE];rw[show aU 0 (aa (dm m R)) (aa (cJ (aa (dm m R)) (0:Int)))=some () by rw[uN];exact bE _];simp only[aL];rw[gd (fun j=>((aK (aa (aD (dm m R) n)),(j:Int)),(L,D,A),(m,R),gL R.length (fun q=>fi m (R.getD q [])),dm m R,qn L m R n,aD (dm m R) n,gL R.length fun q=>if q<j then(fi m (R.getD q [])).getD ((aD (dm m R) n).getD q 0).toNat 0 else 0)) (r:=wt ((L,D,A),(m,R),iZ m R (aD (dm m R) n),gL R.length (fun q=>fi m (R.getD q [])),dm m R,qn L m R n,aD (dm m R) n)) R.length ?c1 ?c2 ?c3 dY]
   case c3=>
    rw[show aa (dm m R)=R.length from u.trans t.symm,Ic R.length (fun q=>(fi m (R.getD q [])).getD ((aD (dm m R) n).getD q 0).toNat 0)]
    rfl
   case c2=>
    dsimp only
    rw[aW (eB (by rw[nl];omega))]
    try simp only[aL,bE]
    rw[H9];rfl
   case c1=>
    intro j b;obtain⟨k,s,v⟩:=H.ix n (i:=j) (by omega);dsimp only
    rw[be (dt (by rw[nl];omega)),kU (show j<aa (aD (dm m R) n) by unfold aa;omega)];simp only[aL,gW];rw[show bL (aD (dm m R) n) j=some ((aD (dm m R) n).getD j 0) from getD_some 0 (by omega)]
    simp only[aL];rw[zw _ b];simp only[aL,gW];rw[zJ _ b];simp only[aL];rw[s,kU (show k<aa (fi m (R.getD j [])) from v)]
    simp only[aL];rw[show bL (fi m (R.getD j [])) k=some ((fi m (R.getD j [])).getD k 0) from getD_some 0 v]
    simp only[aL];rw[zw _ b];simp only[aL,gW];rw[zJ _ b];simp only[aL,bE];have e:=Ma (n:=R.length) (k:=j) (fun q=>(fi m (R.getD q [])).getD ((aD (dm m R) n).getD q 0).toNat 0) 0;rw[s,BY] at e;rw[e,E3];simp only[aL];rw[dZ];rfl
   simp only[bN,GB,gj,aL];rw[H.aap o];simp only[aL];rw[H.atV o];simp only[aL];by_cases f:mX (iZ m R (aD (dm m R) n))%m=0
   ·rw[be (rN f),show pP L=some L from ai (by omega)]
    simp only[aL,bE,uq];rw[gd (fun j=>((aK (aa (iZ m R (aD (dm m R) n))),(j:Int)),(L,D,A),(m,R),iZ m R (aD (dm m R) n),L,cE j (fun i=>((vals (R.getD i []) ((iZ m R (aD (dm m R) n)).getD i 0)).length:Int)),gL R.length (fun q=>fi m (R.getD q [])),dm m R,qn L m R n,aD (dm m R) n)) (r:=wt ((L,D,A),(m,R),iZ m R (aD (dm m R) n),L,bw R (iZ m R (aD (dm m R) n)),qn L m R n,gL R.length (fun q=>fi m (R.getD q [])),dm m R,aD (dm m R) n)) (iZ m R (aD (dm m R) n)).length ?d1 ?d2 ?d3 dY]
    case d3=>rfl
    case d2=>
     dsimp only
     rw[aW (o7 _)]
     try simp only[aL,bE]
     rfl
    case d1=>
     intro j b;have B:j<R.length:=by have:=o.1;omega
     have C:=H.row j (by omega);have E:=H.uj (i:=j) (by omega);have hv:=OH (R.getD j []) ((iZ m R (aD (dm m R) n)).getD j 0);dsimp only
     rw[be (dt (by rw[nl];omega)),kU (show j<aa (iZ m R (aD (dm m R) n)) from b)]
     simp only[aL,gW];rw[show bL (iZ m R (aD (dm m R) n)) j=some ((iZ m R (aD (dm m R) n)).getD j 0) from getD_some 0 b]
     simp only[aL];rw[dw,getD_some ([]:U) B];simp only[aL];rw[show AK (R.getD j [],(iZ m R (aD (dm m R) n)).getD j 0)=some (vals (R.getD j []) ((iZ m R (aD (dm m R) n)).getD j 0)) from ai (by grind)]
     simp only[aL,bE];rw[show cr [aK (aa (vals (R.getD j []) ((iZ m R (aD (dm m R) n)).getD j 0)))] 0 1=some [aK (aa (vals (R.getD j []) ((iZ m R (aD (dm m R) n)).getD j 0)))] from rfl]
     simp only[aL];rw[mr (by simp only[au,aa,If,ff,fe];omega)];simp only[aL,sM];rw[show[aK (aa (vals (R.getD j []) ((iZ m R (aD (dm m R) n)).getD j 0)))]=[((vals (R.getD j []) ((iZ m R (aD (dm m R) n)).getD j 0)).length:Int)] from rfl,Rz j fun i=>((vals (R.getD i []) ((iZ m R (aD (dm m R) n)).getD i 0)).length:Int),dZ]
     rfl
    simp only[kF,aL,bE];rw[show aU 0 1 (aa [(iZ m R (aD (dm m R) n),L,bw R (iZ m R (aD (dm m R) n)),([]:U))])=some () from rfl]
    simp only[aL];rw[mr (by simp only[au,aa,If,fe];omega)];simp only[aL,sM,gj,bE];rw[show ci (qn L m R n) [(iZ m R (aD (dm m R) n),L,bw R (iZ m R (aD (dm m R) n)),([]:U))]=qn L m R (n+1) from(akJ f).symm,QY P.g (by omega) (by omega),p]
    simp only[aL];by_cases a:n+1<Q+1
    ·rw[decide_eq_true a,ai a,aW (by rfl)]
     try simp only[aL,bE]
     rw[show aU 0 (aa (aD (dm m R) n)) (aa (aD (dm m R) (n+1)))=some () from ng ((ff _ _).trans (ff _ _).symm)]
     rfl
    ·obtain rfl:n=Q:=by omega
     rw[decide_eq_false a,aq a,be (by rfl)]
     try simp only[aL,kF]
   ·rw[aW (qw f)];simp only[aL,gj,bE];rw[QY P.g (by omega) (by omega),p];rw[<-akI (L:=L) f];simp only[aL];by_cases a:n+1<Q+1
    ·rw[decide_eq_true a,ai a,aW (by rfl)]
     try simp only[aL,bE]
     rw[show aU 0 (aa (aD (dm m R) n)) (aa (aD (dm m R) (n+1)))=some () from ng ((ff _ _).trans (ff _ _).symm)]
     rfl
    ·obtain rfl:n=Q:=by omega
     rw[decide_eq_false a,aq a,be (by rfl)]
     try simp only[aL,kF]
  rw[<-p,akG]
 ·cases h
theorem aj5 {m:Int} {S:List U} {l:U} (h:l∈vo m S):∃n,l=iZ m S (aD (dm m S) n):=by rw[<-Pr m S.length S rfl] at h;obtain⟨n,_,e⟩:=zaa.1 h;grind
theorem aaE {α:Type} {l:List α} {i:Nat} (d:α) (h:i<l.length):l.take (i+1)=l.take i++[l.getD i d]:=by simp_all
theorem amG (x:T3×gV) (y:List Bk) (h:Es x=some y):aa5 bW x=some y:=amF x y h
def zp (r:Rg) (t:T3) (R:List U) (ch:U):Bk:=(ch,t.1,bw R ch,nZ r t.2.2 (eF t.2.1 R ch) (aB (bw R ch)))
def qU (r:Rg) (t:T3) (c:gV):List Bk:=(bD c.1 c.2).map (zp r t c.2)
def aaZ:Rg×T3×gV->Option (List Bk×Bool):=fun x=>if ET x then some (if qq x.1 x.2.1 x.2.2=true then(qU x.1 x.2.1 x.2.2,true) else([],false)) else none
def GQ:Rg×T3×gV->Option (List Bk×Bool):=aaZ
def Ti (NN:Nat):((Int×(Int×Int))×((U×(U×U))×(Int×(List U))))->(Option Bool):=
 (fun((i0,i1,i2),(l3,l4,l5),i6,l7)=>
 (tT ((i0,i1,i2),l3,l4,l5)).ae (fun b8=>
 aA (de b8)
 (some false)
 ((wJ ((l3,l4,l5),i6,l7)).ae (fun b9=>
 aA (de b9)
 (some false)
 ((wL (i0,i1,i2)).ae (fun cP=>
 bN (ah cP (
 bS NN (fun(fU,(eA,ft,f0),(dH,dM,dj),(gO,gb),gE)=>
 (tW dM).ae (fun ga=>
 aA (cH fU ga)
 ((CD (dM,fU)).ae (fun ef=>
 (cr ef 0 (aa ef)).ae (fun ie=>
 (xO ((gO,gb),ie)).ae (fun dN=>
 (cr dN 0 (aa dN)).ae (fun gG=>
 (tZ gG).ae (fun ld=>
 (ja ld gO).ae (fun iF=>
 aA (iQ iF (0:Int))
 ((rH ((eA,ft,f0),(dH,dM,dj),fU)).ae (fun ji=>
 (cr gE 0 (aa gE)).ae (fun dW=>
 (vi (ji,dW)).ae (fun UP=>
 aA (de UP)
 (some (AT (AT false)))
 (ah gE (
 some (wt (bt .i64 fU 1,(eA,ft,f0),(dH,dM,dj),(gO,gb),gE))))))))
 (ah gE (
 some (wt (bt .i64 fU 1,(eA,ft,f0),(dH,dM,dj),(gO,gb),gE)))))))))))
 (some (AT (wt ())))))
 ((0:Int),(i0,i1,i2),(l3,l4,l5),(i6,l7),cP)))
 (fun _=>
 some true)))))))
def Tf (NN:Nat):((Int×(Int×Int))×((U×(U×U))×(Int×(List U))))->(Option ((List (U×(U×(U×U))))×Bool)):=
 (fun((i0,i1,i2),(l3,l4,l5),i6,l7)=>
 (wK ((i0,i1,i2),(l3,l4,l5),i6,l7)).ae (fun b8=>
 aA (de b8)
 (some (([]:List (U×(U×(U×U)))),false))
 ((Es ((l3,l4,l5),i6,l7)).ae (fun l9=>
 bN (ah l9 (
 ah l9 (
 bS NN (fun((gM,fU),(eA,ft,f0),(dH,dM,dj),(gO,gb),gE)=>
 aA (cH fU gM)
 (bN ((dg fU (aa gE)).ae (fun wa=>
 (bL gE (au 0 wa)).ae (fun(ef,ie,dN,gG)=>
 (bL gE (au 0 wa)).ae (fun(fO,gw,ji,dW)=>
 (bL gE (au 0 wa)).ae (fun(fY,fG,jI,gz)=>
 (bL gE (au 0 wa)).ae (fun(jB,iG,gQ,jJ)=>
 (bL gE (au 0 wa)).ae (fun(ou,nw,kz,kP)=>
 (CB ((dH,dM,dj),(gO,gb),fO,fG,gQ,kP)).ae (fun ig=>
 ah gE (
 ah gE (
 ah ig (
 bS NN (fun((nt,rY,nP,oO,tg),(qa,uz,yB),(kA,jV,qc),(oP,kB),iV,iz)=>
 aA (cH tg oO)
 ((dg tg (aa iz)).ae (fun k58=>
 (bL iz (au 0 k58)).ae (fun Ng=>
 (dg nt (aa iV)).ae (fun k60=>
 (bL iV (au 0 k60)).ae (fun(iY,gH,lV,uL)=>
 (rH ((qa,uz,yB),(kA,jV,qc),Ng)).ae (fun ny=>
 (dg nt (aa iV)).ae (fun FW=>
 (lm (au 0 k60) (au 0 FW)).ae (fun _=>
 (bL iV (au 0 FW)).ae (fun(qG,yQ,uM,mA)=>
 (jT (au (aa mA) (aa ny)) 8).ae (fun _=>
 (aU 0 (aa iV) (aa (br iV (au 0 FW) (qG,yQ,uM,ci mA ny)))).ae (fun _=>
 (aU 0 (aa iV) (aa (br iV (au 0 FW) (qG,yQ,uM,ci mA ny)))).ae (fun _=>
 ah iz (
 some (wt ((nt,rY,nP,oO,bt .i64 tg 1),(qa,uz,yB),(kA,jV,qc),(oP,kB),br iV (au 0 FW) (qG,yQ,uM,ci mA ny),iz)))))))))))))))
 ((ah iV (
 ah iV (
 some (wt ((nP,rY),(qa,uz,yB),(kA,jV,qc),(oP,kB),iV))))).ae (fun ki=>
 some (AT ki))))
 ((fU,gM,fU,aK (aa ig),(0:Int)),(eA,ft,f0),(dH,dM,dj),(gO,gb),gE,ig))))))))))))
 (fun((Dw,IM),(IP,Dx,yE),(se,ox,oU),(Dy,oy),tv)=>
 ah tv (
 ah tv (
 some (wt ((IM,bt .i64 Dw 1),(IP,Dx,yE),(se,ox,oU),(Dy,oy),tv))))))
 ((ah gE (
 some (wt gE))).ae (fun xr=>
 some (AT xr))))
 ((aK (aa l9),(0:Int)),(i0,i1,i2),(l3,l4,l5),(i6,l7),l9))))
 (fun oV=>
 (dO oV (aa oV)).ae (fun ry=>
 some (ry,true)))))))
theorem amy (x:Rg×T3×gV) (y:Bool) (h:wK x=some y):Ti bW x=some y:=by
  obtain⟨⟨k,p,m⟩,⟨L,D,A⟩,d,R⟩:=x;simp only[wK,aa0] at h;split at h
  · rename_i E;rw[<-h];have T:=E.2;obtain⟨⟨l1,l2,s⟩,_⟩:=E;dsimp only at l1 l2 s;unfold qq;simp only[Ti,ah];rw[show tT ((k,p,m),L,D,A)=some (f7 (k,p,m) (L,D,A)) from ai ⟨l1,l2,s⟩]
    simp only[aL];cases ht:f7 (k,p,m) (L,D,A) with
    |false=>rw[be (b:=de false) rfl];simp
    |true=>
     rw[aW (b:=de true) rfl,show wJ ((L,D,A),d,R)=some (jQ ((L,D,A),d,R)) from ai T]
     simp only[aL];cases j3:jQ ((L,D,A),d,R) with
     |false=>rw[be (b:=de false) rfl];simp
     |true=>
      rw[aW (b:=de true) rfl];obtain⟨hr,⟨hl,hd⟩,s9,⟨mQ,kf⟩,Y,X,j9,O,_⟩:=j7 ht;have hw:=mE hr;have hzl:=AG hr;rw[show wL (k,p,m)=some (dU (k,p,m)) from ai hr]
      simp only[aL,bE];have B:tW D=some ((aB D:Nat):Int):=by
        rw[<-O];exact ai ⟨.inl hl,hd⟩
      let q:Nat->Bool:=fun n=> !(qm D (d,R) n&&decide (fE A (n*ar (k,p,m)) (ar (k,p,m))≠dU (k,p,m)));have w:∀n,n<aB D->(tW D).ae (fun(G:Int)=>
                    aA (cH (n:Int) G)
                      ((CD (D,(n:Int))).ae (fun(F:U)=>
                        (cr F 0 (aa F)).ae (fun(P:U)=>
                          (xO ((d,R),P)).ae (fun(dN:U)=>
                            (cr dN 0 (aa dN)).ae (fun(H:U)=>
                              (tZ H).ae (fun(N:Int)=>
                                (ja N d).ae (fun(M:Int)=>
                                  aA (iQ M (0:Int))
                                    ((rH ((k,p,m),(L,D,A),(n:Int))).ae (fun(J:U)=>
                                      (cr (dU (k,p,m)) 0 (aa (dU (k,p,m)))).ae (fun(Q:U)=>
                                        (vi (J,Q)).ae (fun(W:Bool)=>
                                          aA (de W)
                                            (some (AT (AT false)))
                                            (some (wt (bt .i64 (n:Int) (1:Int),(k,p,m),(L,D,A),(d,R),dU (k,p,m))))))))
                                    (some (wt (bt .i64 (n:Int) (1:Int),(k,p,m),(L,D,A),(d,R),dU (k,p,m)))))))))))
                      (some (AT (wt ()))))=if q n=true then some (wt (((n+1:Nat):Int),(k,p,m),(L,D,A),(d,R),dU (k,p,m))) else some (AT (AT false):((Int×(Rg×(T3×(gV×U))))⊕(Unit⊕Bool))):=by
        intro n hn;have hm:(n+1)*ar (k,p,m)<=aB D*ar (k,p,m):=IN _ hn;have r:=aaq ht j3 n;have u:(aD D n).length=D.length:=ff _ _;have z:=Lq r (aD D n).length (zad _);have V:=r.1;dsimp only at V;rw[B];simp only[aL];rw[be dt,show CD (D,(n:Int))=some (aD D n) from ai ⟨X,by dsimp only;omega,by dsimp only;omega⟩]
        simp only[aL,gj];rw[show xO ((d,R),aD D n)=some (cE D.length (hH R (aD D n))) by
          rw[show xO ((d,R),aD D n)=_ from ai r]
          dsimp only
          rw[u]]
        simp only[aL,gj];have I:sm D.length (fun i=>(cE D.length (hH R (aD D n))).getD i 0)=sm D.length (hH R (aD D n)):=Gy fun i f=>by
          rw[co,qM _ f];rfl
        rw[show tZ (cE D.length (hH R (aD D n)))=some (sm D.length (hH R (aD D n))) by
          rw[show tZ (cE D.length (hH R (aD D n)))=_ from ai ⟨by rw[ff];exact hl,fun v K=>by
            obtain⟨i,f,rfl⟩:=zaa.1 K;exact(r.2.2 i (by dsimp only;rw[u];exact zae.1 f)).2.2⟩]
          rw[ff,I]]
        simp only[aL];rw[u] at z;rw[rD z.1 (by omega)];simp only[aL];rw[dZ];by_cases j:qm D (d,R) n=true
        · have t:=of_decide_eq_true j;rw[be (show iQ _ 0=true from bne_iff_ne.2 t),show rH ((k,p,m),(L,D,A),(n:Int))=some (fE A (n*ar (k,p,m)) (ar (k,p,m))) by
            rw[show rH ((k,p,m),(L,D,A),(n:Int))=_ from ai ⟨hr,by dsimp only;omega,by dsimp only;rw[BY];omega,s⟩]
            rfl]
          simp only[aL];rw[show vi (fE A (n*ar (k,p,m)) (ar (k,p,m)),dU (k,p,m))=some (decide (fE A (n*ar (k,p,m)) (ar (k,p,m))=dU (k,p,m))) from ai ⟨by
            have:(fE A (n*ar (k,p,m)) (ar (k,p,m))).length<=ar (k,p,m):=by unfold fE;rw[OF];omega
            dsimp only;omega,by dsimp only;omega⟩]
          simp only[aL];by_cases o:fE A (n*ar (k,p,m)) (ar (k,p,m))=dU (k,p,m)
          · rw[decide_eq_true o,aW agl,ai (by simp[q,o])];rfl
          · rw[decide_eq_false o,be (b:=de false) rfl,aq (by simp[q,o,j])]
        · have t:sm D.length (hH R (aD D n))%d=0:=zaW fun h=>j (decide_eq_true h);rw[t,aW (by rfl),ai (by simp[q,j])];rfl
      rw[Jl (zaC (aB D)) (fun i=>((i:Int),(k,p,m),(L,D,A),(d,R),dU (k,p,m))) q (.inr false) (.inl ()) ?b1 ?b2 ?b3 ?b0 (dY (by rw[zar];omega))]
      case b0=>rfl
      case b1=>
        intro i a g l;have f:=Jm g;rw[zar] at f;have:a=i:=by rw[zaS f] at g;injection g with g;exact g.symm
        subst this;dsimp only
        exact(w a f).trans (ai l)
      case b2=>
        intro i a g l;have f:=Jm g;rw[zar] at f;have:a=i:=by rw[zaS f] at g;injection g with g;exact g.symm
        subst this;dsimp only
        exact(w a f).trans (aq (by rw[l];simp))
      case b3=>
        dsimp only
        rw[B,zar];simp only[aL];rw[aW eB]
      have C:=Pf (D:=D) (c:=(d,R)) hr Y;by_cases l:(zaC (aB D)).all q=true
      · rw[ai l];simp only[bN,GB];have:gp (k,p,m) D (d,R) A (aB D)=A:=C.2 fun n hn j=>by
          have:=zaj.1 l n (zae.2 hn);simp only[q,j,Bool.true_and,Bool.not_eq_true',decide_eq_false_iff_not] at this;exact zaW fun h=>this h
        rw[this];simp
      · rw[aq l];simp only[bN,GB];have:¬gp (k,p,m) D (d,R) A (aB D)=A:=fun e=>l (zaj.2 fun n hn=>by
          have S:=C.1 e n (zae.1 hn);cases j:qm D (d,R) n with
          |false=>simp[q,j]
          |true=>simp[q,j,S j])
        simp[this]
  · cases h
theorem Zg {B:U} (hl:B.length<=12) (a:∀x∈B,1<=x/\x<=8) (hp:aB B<=4096):wN (B,4096)=some ((aB B:Nat):Int):=by have c:=tE (D:=B) fun x hx=>(a x hx).1;have e:EH 4096 B=(aB B:Int):=(by unfold EH;rw[O0 (by decide) _ 0 1 (fun x hx=>(a x hx).1) (by decide) (by decide),Int.one_mul,c,Int.min_eq_left (by omega)]);rw[<-e];exact ai ⟨by decide,by omega,zaj.2 fun v b=>by have:=a v b;exact decide_eq_true (by omega)⟩
theorem abM (r:Rg) (A:U) (off:Nat->Nat):∀n,(nZ r A off n).length<=n*ar r
 |0=>by simp[nZ]
 |n+1=>by have ih:=abM r A off n;rw[nZ,By,Pe,zac];have:(fE A (off n*ar r) (ar r)).length<=ar r:=(by unfold fE;rw[OF];omega);omega
theorem Wl {r:Rg} {L D A:U} (a:f7 r (L,D,A)=true) {o:Nat} (b:o<aB D):KW (r,(L,D,A),(o:Int))=some (fE A (o*ar r) (ar r)):=by obtain⟨hr,_,_,⟨mQ,d⟩,hA,_,_,_,_⟩:=j7 a;have c:=mE hr;have hm:(o+1)*ar r<=aB D*ar r:=IN _ b;have iM:aB D*ar r<=4096*6:=IS d c.2.2;have:=show KW (r,(L,D,A),(o:Int))=_ from ai ⟨hr,by dsimp only;omega,by dsimp only;rw[BY];omega,by dsimp only;omega⟩;rw[this];simp only[BY]
theorem vz {m:Int} {D:U} {R:List U} (H:gm D m R) {ch:U} (h:ch∈bD m R):gn R ch:=by obtain⟨n,e⟩:=aj5 (zaf.1 h).1;rw[e];exact H.pick n
theorem Lp {m:Int} {D:U} {R:List U} (H:gm D m R):(bD m R).length<=4096:=by have a:(bD m R).length<=(vo m R).length:=zag _ _;have h2:=H.pd.pD;have h3:=H.p4;rw[<-Pr m R.length R rfl,yi] at a;omega
def x7 (r:Rg) (L D A:U) (m:Int) (R:List U) (i j q:Nat):Bk:=
 if q<i then zp r (L,D,A) R ((bD m R).getD q []) else if q=i then((bD m R).getD i [],L,bw R ((bD m R).getD i []),nZ r A (eF D R ((bD m R).getD i [])) j) else gS L R ((bD m R).getD q [])
theorem akE {r:Rg} {L D A:U} {m:Int} {R:List U} {i j n:Nat}: br (gL n (x7 r L D A m R i j)) i ((bD m R).getD i [],L,bw R ((bD m R).getD i []),nZ r A (eF D R ((bD m R).getD i [])) (j+1))=gL n (x7 r L D A m R i (j+1)):=by rw[Wi];refine rP fun q _=>?_;by_cases e:q=i;subst e;unfold x7;rw[ai rfl,aq (by omega),ai rfl];unfold x7;rw[aq e];by_cases h:q<i;rw[ai h,ai h];rw[aq h,aq h,aq e,aq e]
theorem akC {r:Rg} {L D A:U} {m:Int} {R:List U} {i n:Nat}: gL n (fun q=>if q<i then zp r (L,D,A) R ((bD m R).getD q []) else gS L R ((bD m R).getD q []))=gL n (x7 r L D A m R i 0):=rP fun q _=>by unfold x7;by_cases h:q<i;rw[ai h,ai h];rw[aq h,aq h];by_cases e:q=i;subst e;rw[ai rfl];rfl;rw[aq e]
theorem akD {r:Rg} {L D A:U} {m:Int} {R:List U} {i n:Nat}: gL n (x7 r L D A m R i (aB (bw R ((bD m R).getD i []))))=gL n (fun q=>if q<i+1 then zp r (L,D,A) R ((bD m R).getD q []) else gS L R ((bD m R).getD q [])):=rP fun q _=>by unfold x7;by_cases h:q<i;rw[ai h,ai (by omega)];rw[aq h];by_cases e:q=i;subst e;rw[ai rfl,ai (by omega)];rfl;rw[aq e,aq (by omega)]
theorem abH (r:Rg) (L D A:U) (m:Int) (R:List U) (i j:Nat):x7 r L D A m R i j i=((bD m R).getD i [],L,bw R ((bD m R).getD i []),nZ r A (eF D R ((bD m R).getD i [])) j):=by unfold x7;rw[aq (by omega),ai rfl]
theorem amv (x:Rg×T3×gV) (y:List Bk×Bool) (h:GQ x=some y):Tf bW x=some y:=by
 obtain⟨⟨k,p,w⟩,⟨L,D,A⟩,⟨m,R⟩⟩:=x;simp only[GQ,aaZ] at h;split at h
 ·rename_i o;rw[<-h];simp only[Tf,ah];rw[show wK ((k,p,w),(L,D,A),m,R)=some (qq (k,p,w) (L,D,A) (m,R)) from ai o]
  simp only[aL];cases hb:qq (k,p,w) (L,D,A) (m,R) with
  |false=>rw[be (b:=de false) rfl,aq (by simp)]
  |true=>
   have f:=of_decide_eq_true hb;have g:=f.1;have c:=f.2.1;have H:=A8 c;have hln:=Lp H;obtain⟨hr,⟨hl,hd⟩,s9,⟨mQ,kf⟩,hA,hD,j9,MJ,_⟩:=j7 g;have l:=mE hr;rw[aW (b:=de true) rfl,ai rfl,show Es ((L,D,A),m,R)=some ((bD m R).map (gS L R)) from ai c]
   simp only[aL,bE];rw[gd (fun i=>((aK (aa ((bD m R).map (gS L R))),(i:Int)),(k,p,w),(L,D,A),(m,R),gL (bD m R).length (fun q=>if q<i then zp (k,p,w) (L,D,A) R ((bD m R).getD q []) else gS L R ((bD m R).getD q [])))) (r:=wt (qU (k,p,w) (L,D,A) (m,R))) (bD m R).length ?a1 ?a2 ?a3 dY]
   case a3=>
    rw[show(bD m R).map (gS L R)=gL (bD m R).length (fun q=>if q<0 then zp (k,p,w) (L,D,A) R ((bD m R).getD q []) else gS L R ((bD m R).getD q [])) by
     rw[<-Ib (gS L R) (bD m R) []];exact rP fun q _=>by rw[aq (by omega)]]
    rfl
   case a2=>
    dsimp only
    rw[aW (eB (by rw[nl,AI];omega))]
    try simp only[bE,aL]
    rw[show gL (bD m R).length (fun q=>if q<(bD m R).length then zp (k,p,w) (L,D,A) R ((bD m R).getD q []) else gS L R ((bD m R).getD q []))=qU (k,p,w) (L,D,A) (m,R) by
     unfold qU;rw[<-Ib (zp (k,p,w) (L,D,A) R) (bD m R) []];exact rP fun q s=>by rw[ai s]]
   case a1=>
    intro i a;have d:=vz H (zas (getD_some [] a));have B:=H.blk d;have Xd:=B.pD;dsimp only
    rw[be (dt (by rw[nl,AI];omega)),akC,zw _ a];simp only[aL,gW];rw[zJ _ a,abH];simp only[aL];rw[show CB ((L,D,A),(m,R),(bD m R).getD i [],L,bw R ((bD m R).getD i []),nZ (k,p,w) A (eF D R ((bD m R).getD i [])) 0)=some (cE (aB (bw R ((bD m R).getD i []))) fun n=>(eF D R ((bD m R).getD i []) n:Int)) from ai ⟨c,d,rfl⟩]
    simp only[aL,bE];rw[gd (fun j=>(((i:Int),aK (aa ((bD m R).map (gS L R))),(i:Int),aK (aa (cE (aB (bw R ((bD m R).getD i []))) fun n=>(eF D R ((bD m R).getD i []) n:Int))),(j:Int)),(k,p,w),(L,D,A),(m,R),gL (bD m R).length (x7 (k,p,w) L D A m R i j),cE (aB (bw R ((bD m R).getD i []))) fun n=>(eF D R ((bD m R).getD i []) n:Int))) (r:=wt (((i:Int),aK (aa ((bD m R).map (gS L R)))),(k,p,w),(L,D,A),(m,R),gL (bD m R).length (fun q=>if q<i+1 then zp (k,p,w) (L,D,A) R ((bD m R).getD q []) else gS L R ((bD m R).getD q [])))) (aB (bw R ((bD m R).getD i []))) ?b1 ?b2 ?b3 dY]
    case b3=>rfl
    case b2=>
     dsimp only
     rw[aW (eB (by rw[nl,ff];omega))]
     try simp only[bE,aL]
     rw[akD]
    case b1=>
     intro j e;have Bw:=abM (k,p,w) A (eF D R ((bD m R).getD i [])) j;have iM:j*ar (k,p,w)<=4096*6:=IS (by omega) l.2.2;have kg:(fE A (eF D R ((bD m R).getD i []) j*ar (k,p,w)) (ar (k,p,w))).length<=ar (k,p,w):=by unfold fE;rw[OF];omega
     dsimp only
     rw[be (dt (by rw[nl,ff];omega)),Ba _ e];simp only[aL,gW];rw[Dd _ e];simp only[aL];rw[zw _ a];simp only[aL,gW];rw[zJ _ a,abH];simp only[aL];rw[show rH ((k,p,w),(L,D,A),((eF D R ((bD m R).getD i []) j:Nat):Int))=some (fE A (eF D R ((bD m R).getD i []) j*ar (k,p,w)) (ar (k,p,w))) from Wl g (H.Jw d j)]
     simp only[aL,ahA];rw[mr (by simp only[au,aa,fe];omega)];simp only[aL];rw[show ci (nZ (k,p,w) A (eF D R ((bD m R).getD i [])) j) (fE A (eF D R ((bD m R).getD i []) j*ar (k,p,w)) (ar (k,p,w)))=nZ (k,p,w) A (eF D R ((bD m R).getD i [])) (j+1) from rfl,akE,E3]
     simp only[aL,bE];rw[dZ];rfl
    simp only[bN,GB,bE,aL];rw[dZ];rfl
   simp only[bN,GB,kF,aL]
 ·cases h
section
def o9 (x:U):Nat->U
 |0=>[]
 |n+1=>o9 x n++x
def LI (D:U):Prop:=D.length<=12/\(∀v∈D,1<=v/\v<=8)/\aB D<=4096
instance (D:U):Decidable (LI D):=by unfold LI;infer_instance
def CC:Rg×U×U×U->Option T3:=fun x=>if x.2.1.length<=1048576/\LI x.2.2.1/\x.2.2.2.length<=6 then some (x.2.1,x.2.2.1,o9 x.2.2.2 (aB x.2.2.1)) else none
def G9:Rg×U×U->Option T3:=fun x=>if dA x.1=true/\x.2.1.length<=1048576/\LI x.2.2 then some (x.2.1,x.2.2,o9 (dU x.1) (aB x.2.2)) else none
def uY (r:Rg) (D:U) (R:List U) (ch X A:U):Nat->U
 |0=>A
 |n+1=>gf (uY r D R ch X A n) (eF D R ch n*ar r) (fE X (n*ar r) (ar r))
def Ge (r:Rg) (L:U) (R:List U) (ch:U) (b:Bk):Prop:=b.1=ch/\f7 r b.2=true/\b.2.1=L/\b.2.2.1=bw R ch
instance (r:Rg) (L:U) (R:List U) (ch:U) (b:Bk):Decidable (Ge r L R ch b):=by unfold Ge;infer_instance
def b0:Bk:=([],[],[],[])
def qb (r:Rg) (L D:U) (R K:List U) (l:List Bk):Nat->Option U
 |0=>some (o9 (dU r) (aB D))
 |i+1=>match qb r L D R K l i with
  |some A=>if Ge r L R (K.getD i []) (l.getD i b0) then some (uY r D R (K.getD i []) (l.getD i b0).2.2.2 A (aB (bw R (K.getD i [])))) else none
  |none=>none
def QJ (r:Rg) (t:T3) (c:gV) (l:List Bk):T3×Bool:=
 if dA r=true/\jQ (t,c)=true/\(bD c.1 c.2).length=l.length then
  match qb r t.1 t.2.1 c.2 (bD c.1 c.2) l l.length with
  |some A=>((t.1,t.2.1,A),true)
  |none=>(([],[],[]),false)
 else(([],[],[]),false)
def QH (x:Rg×T3×gV×List Bk):Prop:=Hv (x.2.1,x.2.2.1)/\x.2.2.2.length<=1048576/\∀b∈x.2.2.2,b.1.length<=1048576/\b.2.1.length<=1048576/\b.2.2.1.length<=1048576/\b.2.2.2.length<=1048576
instance (x:Rg×T3×gV×List Bk):Decidable (QH x):=by unfold QH;infer_instance
def aa1:Rg×T3×gV×List Bk->Option (T3×Bool):=fun x=>if QH x then some (QJ x.1 x.2.1 x.2.2.1 x.2.2.2) else none
def GS:Rg×T3×gV×List Bk->Option (T3×Bool):=aa1
def Uq (NN:Nat):((Int×(Int×Int))×(U×U))->(Option (U×(U×U))):=
 (fun((i0,i1,i2),l3,l4)=>
 (t6 l3).ae (fun l5=>
 (t6 l4).ae (fun l6=>
 (wN (l4,(4096:Int))).ae (fun i7=>
 bN ((aU 0 0 (aa (([]:U)))).ae (fun _=>
 (aU 0 0 (aa (([]:U)))).ae (fun _=>
 (aU 0 0 (aa (([]:U)))).ae (fun _=>
 ah l5 (
 ah l6 (
 (aU 0 0 (aa (([]:U)))).ae (fun _=>
 bS NN (fun(i8,(i9,gM,fU),eu,eY,dh,dH,dM,dj)=>
 aA (cH (0:Int) i8)
 ((AO (i9,gM,fU)).ae (fun fN=>
 ah dj (
 (cr fN 0 (aa fN)).ae (fun gb=>
 (jT (au (aa dj) (aa gb)) 8).ae (fun _=>
 ah eu (
 ah eY (
 ah dh (
 ah dH (
 ah dM (
 (aU 0 (au (aa dj) (aa gb)) (aa (ci dj gb))).ae (fun _=>
 some (wt (lv .i64 i8 1,(i9,gM,fU),eu,eY,dh,dH,dM,ci dj gb)))))))))))))
 ((ah eu (
 ah eY (
 ah dh (
 ah dH (
 ah dM (
 ah dj (
 some (wt (eu,eY,dh,dH,dM,dj))))))))).ae (fun gE=>
 some (AT gE))))
 (i7,(i0,i1,i2),([]:U),([]:U),([]:U),l5,l6,([]:U)))))))))
 (fun(gi,ef,ie,dN,gG,fO)=>
 (dO dN (aa dN)).ae (fun gw=>
 (dO gG (aa gG)).ae (fun ji=>
 (dO fO (aa fO)).ae (fun dW=>
 some (gw,ji,dW)))))))))
def Tz (NN:Nat):((Int×(Int×Int))×(U×(U×U)))->(Option (U×(U×U))):=
 (fun((i0,i1,i2),l3,l4,l5)=>
 (pP l3).ae (fun l6=>
 (pP l4).ae (fun l7=>
 (tW l4).ae (fun i8=>
 (j6 (0:Int) (ik .i64 i8 (aK (aa l5))) 8).ae (fun k9=>
 bN ((aU 0 0 (aa (([]:U)))).ae (fun _=>
 (aU 0 0 (aa (([]:U)))).ae (fun _=>
 (aU 0 0 (aa (([]:U)))).ae (fun _=>
 ah l6 (
 ah l7 (
 (aU 0 k9 (aa (cJ k9 (0:Int)))).ae (fun _=>
 bS NN (fun((cP,fU,eA),eY,dh,dH,dM,dj,fN)=>
 aA (cH eA fU)
 (ah fN (
 (jT (au (aa fN) (aa cP)) 8).ae (fun _=>
 ah eY (
 ah dh (
 ah dH (
 ah dM (
 ah dj (
 (aU 0 (au (aa fN) (aa cP)) (aa (ci fN cP))).ae (fun _=>
 some (wt ((cP,fU,bt .i64 eA 1),eY,dh,dH,dM,dj,ci fN cP)))))))))))
 ((ah eY (
 ah dh (
 ah dH (
 ah dM (
 ah dj (
 ah fN (
 some (wt (eY,dh,dH,dM,dj,fN))))))))).ae (fun gb=>
 some (AT gb))))
 ((l5,i8,(0:Int)),([]:U),([]:U),([]:U),l6,l7,cJ k9 (0:Int)))))))))
 (fun(gE,gi,ef,ie,dN,gG)=>
 (dO ie (aa ie)).ae (fun fO=>
 (dO dN (aa dN)).ae (fun gw=>
 (dO gG (aa gG)).ae (fun ji=>
 some (fO,gw,ji))))))))))
def Tl (NN:Nat):((Int×(Int×Int))×((U×(U×U))×((Int×(List U))×(List (U×(U×(U×U)))))))->(Option ((U×(U×U))×Bool)):=
 (fun((i0,i1,i2),(l3,l4,l5),(i6,l7),l8)=>
 (CA (i0,i1,i2)).ae (fun b9=>
 aA (de b9)
 (some ((([]:U),([]:U),([]:U)),false))
 ((wJ ((l3,l4,l5),i6,l7)).ae (fun pR=>
 aA (de pR)
 (some ((([]:U),([]:U),([]:U)),false))
 ((AH ((l3,l4,l5),i6,l7)).ae (fun ed=>
 aA (iQ (aK (aa l8)) (aK (aa ed)))
 (some ((([]:U),([]:U),([]:U)),false))
 ((wL (i0,i1,i2)).ae (fun eu=>
 (cr eu 0 (aa eu)).ae (fun eY=>
 (CC ((i0,i1,i2),l3,l4,eY)).ae (fun(dh,dH,dM)=>
 bN (ah ed (
 (aU 0 0 (aa (([]:U)))).ae (fun _=>
 (aU 0 0 (aa (([]:U)))).ae (fun _=>
 (aU 0 0 (aa (([]:U)))).ae (fun _=>
 ah dh (
 ah dH (
 ah dM (
 bS NN (fun((dj,gO,gD),(eO,ga,iP),(ie,dN,gG),(ld,gw),ji,dW,fY,fG,jI,gz,jB)=>
 aA (cH gD gO)
 (bN ((dg gD (aa jB)).ae (fun k35=>
 (bL jB (au 0 k35)).ae (fun(gQ,jJ,ou,nw)=>
 (cg dj gD).ae (fun(kz,kP,ig,gR)=>
 (tT ((eO,ga,iP),kP,ig,gR)).ae (fun b44=>
 aA (de b44)
 (some (AT (AT (AT ((([]:U),([]:U),([]:U)),false)))))
 ((vi (kz,gQ)).ae (fun b45=>
 aA (de b45)
 (some (AT (AT (AT ((([]:U),([]:U),([]:U)),false)))))
 ((vi (kP,jJ)).ae (fun b46=>
 aA (de b46)
 (some (AT (AT (AT ((([]:U),([]:U),([]:U)),false)))))
 ((vi (ig,ou)).ae (fun UR=>
 aA (de UR)
 (some (AT (AT (AT ((([]:U),([]:U),([]:U)),false)))))
 ((CB ((ie,dN,gG),(ld,gw),gQ,jJ,ou,nw)).ae (fun jC=>
 ah jB (
 ah jC (
 ah ji (
 ah dW (
 ah fY (
 ah fG (
 ah jI (
 ah gz (
 bS NN (fun((sb,yB,zZ,FC,qE),(oP,IL,xj),(iz,lg,iW),(xk,iY),(gH,lV,uL,ny),sd,qG,yQ,uM,mA,ki,oT,qH)=>
 aA (cH qE FC)
 ((dg qE (aa qH)).ae (fun k74=>
 (bL qH (au 0 k74)).ae (fun Dx=>
 (cr uM 0 (aa uM)).ae (fun yR=>
 (cr mA 0 (aa mA)).ae (fun se=>
 ah ki (
 (xP ((oP,IL,xj),(yR,se,ki),Dx)).ae (fun(Qw,FE)=>
 (jP Qw FE (aa ki)).ae (fun(Yg,k81)=>
 (rH ((oP,IL,xj),(lV,uL,ny),qE)).ae (fun tv=>
 (vC ki Yg k81 (List.take k81 tv)).ae (fun xr=>
 ah oT (
 ah qH (
 ah sd (
 ah qG (
 ah yQ (
 ah uM (
 ah mA (
 (aU 0 (aa ki) (aa xr)).ae (fun _=>
 some (wt ((sb,yB,zZ,FC,bt .i64 qE 1),(oP,IL,xj),(iz,lg,iW),(xk,iY),(gH,lV,uL,ny),sd,qG,yQ,uM,mA,xr,oT,qH))))))))))))))))))))
 ((ah oT (
 ah sd (
 ah qG (
 ah yQ (
 ah uM (
 ah mA (
 ah ki (
 some (wt ((zZ,sb,yB),(oP,IL,xj),(iz,lg,iW),(xk,iY),sd,qG,yQ,uM,mA,ki,oT)))))))))).ae (fun oV=>
 some (AT oV))))
 ((dj,gO,gD,aK (aa jC),(0:Int)),(eO,ga,iP),(ie,dN,gG),(ld,gw),(kz,kP,ig,gR),ji,dW,fY,fG,jI,gz,jB,jC))))))))))))))))))))))
 (fun((Ni,qd,FF),(yF,BS,IQ),(nR,pJ,kQ),(Qz,qf),oz,oA,j5,oW,rq,oh,r7)=>
 ah r7 (
 ah oz (
 ah oA (
 ah j5 (
 ah oW (
 ah rq (
 ah oh (
 some (wt ((qd,FF,bt .i64 Ni 1),(yF,BS,IQ),(nR,pJ,kQ),(Qz,qf),oz,oA,j5,oW,rq,oh,r7)))))))))))
 ((ah ji (
 ah dW (
 ah fY (
 ah fG (
 ah jI (
 ah gz (
 some (wt (ji,dW,fY,fG,jI,gz))))))))).ae (fun tm=>
 some (AT tm))))
 ((l8,aK (aa ed),(0:Int)),(i0,i1,i2),(l3,l4,l5),(i6,l7),([]:U),([]:U),([]:U),dh,dH,dM,ed)))))))))
 (fun(Nw,wc,pE,r8,wg,I3)=>
 (dO r8 (aa r8)).ae (fun wh=>
 (dO wg (aa wg)).ae (fun rr=>
 (dO I3 (aa I3)).ae (fun uG=>
 some ((wh,rr,uG),true)))))))))))))))
theorem Rw (x:U):∀n,(o9 x n).length=n*x.length
 |0=>by simp[o9]
 |n+1=>by rw[o9,By,Rw x n,Pe,zac]
theorem amN (x:Rg×U×U×U) (y:T3) (h:CC x=some y):Tz bW x=some y:=by obtain⟨⟨r1,r2,r3⟩,L,D,x⟩:=x;simp only[CC] at h;split at h;rename_i d;obtain⟨hL,⟨e,hd,c⟩,hx⟩:=d;rw[<-h];have Qb:fe=140737488355328:=rfl;have b:=tE (D:=D) fun v a=>(hd v a).1;have hm:aB D*x.length<=4096*6:=IS c hx;simp only[Tz,ah];rw[show pP L=some L from ai (by omega)];simp only[aL];rw[show pP D=some D from ai (by omega)];simp only[aL];rw[show tW D=some (fA D) from ai ⟨.inl e,hd⟩,b];simp only[aL];rw[nl,Js];rw[show j6 0 ((aB D*x.length:Nat):Int) 8=some 0 by unfold j6;rw[ai (by refine⟨by omega,by omega,?_⟩;simp only[fe];omega)];rfl];simp only[aL,bE];rw[show aU 0 0 (aa ([]:U))=some () from rfl,show aU 0 0 (aa (cJ 0 (0:Int)))=some () from rfl];simp only[aL];rw[gd (fun i=>((x,((aB D:Nat):Int),(i:Int)),([]:U),([]:U),([]:U),L,D,o9 x i)) (aB D) (r:=wt (([]:U),([]:U),([]:U),L,D,o9 x (aB D))) ?a1 ?a2 ?a3 dY];(case a1=>intro i hi;have iM:i*x.length<=4096*6:=IS (by omega) hx;dsimp only;rw[be dt];(try simp only[aL,bE]);rw[mr (by simp only[au,aa];rw[Rw];omega)];simp only[aL];rw[show aU 0 (au (aa (o9 x i)) (aa x)) (aa (ci (o9 x i) x))=some () from ng (by simp[au,aa,ci])];simp only[aL];rw[dZ];rfl);(case a2=>dsimp only;rw[aW eB];try simp only[aL,bE]);(case a3=>rfl);simp only[bN,GB,kF,aL];cases h
theorem anl (x:Rg×U×U) (y:T3) (h:G9 x=some y):Uq bW x=some y:=by obtain⟨⟨a,c,b⟩,L,D⟩:=x;simp only[G9] at h;split at h;rename_i e;obtain⟨hr,hL,⟨f,hd,d⟩⟩:=e;rw[<-h];have Qb:fe=140737488355328:=rfl;have hw:=mE hr;have hz:=AG hr;simp only[Uq,ah];rw[show t6 L=some L from ai (by omega)];simp only[aL];rw[show t6 D=some D from ai (by omega)];simp only[aL];rw[Zg f hd d];simp only[aL,bE];rw[show aU 0 0 (aa ([]:U))=some () from rfl];simp only[aL];rw[gd (fun i=>((((aB D:Nat):Int) - (i:Int)),(a,c,b),([]:U),([]:U),([]:U),L,D,o9 (dU (a,c,b)) i)) (aB D) (r:=wt (([]:U),([]:U),([]:U),L,D,o9 (dU (a,c,b)) (aB D))) ?a1 ?a2 ?a3 dY];(case a1=>intro i hi;have iM:i*(dU (a,c,b)).length<=4096*6:=IS (by omega) (by omega);dsimp only;rw[be dt,show AO (a,c,b)=some (dU (a,c,b)) from ai hr];simp only[aL,bE,gj];rw[mr (by simp only[au,aa];rw[Rw];omega)];simp only[aL];rw[show aU 0 (au (aa (o9 (dU (a,c,b)) i)) (aa (dU (a,c,b)))) (aa (ci (o9 (dU (a,c,b)) i) (dU (a,c,b))))=some () from ng (by simp[au,aa,ci])];simp only[aL];rw[rF,show((aB D:Nat):Int) - (i:Int) - 1=((aB D:Nat):Int) - ((i+1:Nat):Int) by omega];rfl);(case a2=>dsimp only;rw[aW eB];try simp only[aL,bE]);(case a3=>simp only[Int.natCast_zero,Int.sub_zero];rfl);simp only[bN,GB,kF,aL];cases h
theorem Zl {r:Rg} {L D:U} {m:Int} {R:List U} {ch X A:U} (H:gm D m R) (a:gn R ch) (c:X.length=aB (bw R ch)*ar r) (g:A.length=aB D*ar r): ∀n,n<=aB (bw R ch)->(uY r D R ch X A n).length=A.length
 |0,_=>rfl
 |n+1,h=>by have b:=Zl (L:=L) H a c g n (by omega);have f:=H.Jw a n;have hm:(eF D R ch n+1)*ar r<=aB D*ar r:=IN _ f;have e:(n+1)*ar r<=aB (bw R ch)*ar r:=IN _ h;rw[Pe,zac] at hm e;have d:(fE X (n*ar r) (ar r)).length=ar r:=(by unfold fE;rw[OF,zaA];omega);rw[uY,JI (by rw[d,b];omega),b]
theorem afo {r:Rg} {L D:U} {R K:List U} {l:List Bk} {i:Nat} (h:qb r L D R K l i=none):∀j,qb r L D R K l (i+j)=none
 |0=>h
 |j+1=>by have:=afo h j;rw[<-zbt,qb,this]
theorem afn {r:Rg} {L D:U} {m:Int} {R:List U} {l:List Bk} (H:gm D m R) (hr:dA r=true) (hl:(bD m R).length=l.length):∀i A,i<=l.length->qb r L D R (bD m R) l i=some A->A.length=aB D*ar r
 |0,A,_,h=>by injection h with h;rw[<-h,Rw,AG hr]
 |i+1,A,hi,h=>by rw[qb] at h;split at h;rename_i f a;have c:=afn H hr hl i f (by omega) a;split at h;rename_i d;injection h with h;have g:=vz H (zas (getD_some [] (show i<(bD m R).length by omega)));obtain⟨o1,e,o3,k⟩:=d;have j:f7 r ((l.getD i b0).2.1,(l.getD i b0).2.2.1,(l.getD i b0).2.2.2)=true:=e;obtain⟨_,_,_,_,b,_⟩:=j7 j;rw[k] at b;rw[<-h,Zl (L:=L) H g b c _ (zad _),c];cases h;cases h
theorem afp {r:Rg} {L D:U} {R K:List U} {l:List Bk} {i:Nat} {A:U} (h:qb r L D R K l i=some A) (a:Ge r L R (K.getD i []) (l.getD i b0)):qb r L D R K l (i+1)=some (uY r D R (K.getD i []) (l.getD i b0).2.2.2 A (aB (bw R (K.getD i [])))):=by rw[qb,h];exact ai a
theorem QK {r:Rg} {L D:U} {R K:List U} {l:List Bk} {i:Nat} {A:U} (h:qb r L D R K l i=some A) (a:¬Ge r L R (K.getD i []) (l.getD i b0)):qb r L D R K l (i+1)=none:=by rw[qb,h];exact aq a
def I0 (r:Rg) (L D:U) (R K:List U) (l:List Bk):(U×U×U×U×U×U)⊕(T3×Bool):=
 match qb r L D R K l l.length with
 |some A=>.inl ([],[],[],L,D,A)
 |none=>.inr (([],[],[]),false)
theorem QI {r:Rg} {L D:U} {R K:List U} {l:List Bk} {i:Nat} (hi:i<l.length) (h:qb r L D R K l (i+1)=none):I0 r L D R K l=.inr (([],[],[]),false):=by have:=afo h (l.length - (i+1));rw[show i+1+(l.length - (i+1))=l.length by omega] at this;unfold I0;rw[this]
theorem apd {r:Rg} {L D:U} {R K:List U} {l:List Bk} {A:U} (h:qb r L D R K l l.length=some A):I0 r L D R K l=.inl ([],[],[],L,D,A):=by unfold I0;rw[h]
theorem ZY {a b n:Nat} (h1:a<=b) (h2:b<=n):jP (a:Int) (b:Int) n=some (a,b - a):=by unfold jP;rw[ai ⟨by omega,by omega,by omega⟩];congr 2;omega
variable {m:Int} {L K R:Nat} {X:fI} {d:U}
theorem amA (x:Rg×T3×gV×List Bk) (y:T3×Bool) (h:GS x=some y):Tl bW x=some y:=by obtain⟨⟨k,p,w⟩,⟨L,D,T⟩,⟨m,R⟩,l⟩:=x;simp only[GS,aa1] at h;split at h;rename_i rT;obtain⟨Q,O,Z⟩:=rT;dsimp only at Q O Z;rw[<-h];unfold QJ;simp only[Tl,ah];rw[show CA (k,p,w)=some (dA (k,p,w)) from rfl];simp only[aL];(cases hr:dA (k,p,w) with|false=>rw[be (b:=de false) rfl,aq (by simp)]|true=>rw[aW (b:=de true) rfl,show wJ ((L,D,T),m,R)=some (jQ ((L,D,T),m,R)) from ai Q];simp only[aL];cases hk:jQ ((L,D,T),m,R) with|false=>rw[be (b:=de false) rfl,aq (by simp)]|true=>have H:=A8 hk;have hln:=Lp H;have J:((bD m R).map (gS L R)).length=(bD m R).length:=AI _;rw[aW (b:=de true) rfl,show AH ((L,D,T),m,R)=some ((bD m R).map (gS L R)) from ai hk];simp only[aL];by_cases hl:(bD m R).length=l.length;rw[aW (rB (by rw[nl,nl,J,hl])),ai ⟨trivial,trivial,hl⟩];have hw:=mE hr;have hz:=AG hr;have hL:L.length<=1048576:=Q.1.1;have hDl:=H.eu;have MI:=H.p4;rw[show wL (k,p,w)=some (dU (k,p,w)) from ai hr];simp only[aL,gj];rw[show CC ((k,p,w),L,D,dU (k,p,w))=some (L,D,o9 (dU (k,p,w)) (aB D)) from ai ⟨hL,⟨H.eu,H.d8,H.p4⟩,by dsimp only;omega⟩];simp only[aL,bE];rw[show aU 0 0 (aa ([]:U))=some () from rfl];simp only[aL];rw[aqd (r:=I0 (k,p,w) L D R (bD m R) l) (fun n x=>∃(i:Nat) (A:U),i+n=l.length/\qb (k,p,w) L D R (bD m R) l i=some A/\x=((l,aK (aa ((bD m R).map (gS L R))),(i:Int)),(k,p,w),(L,D,T),(m,R),([]:U),([]:U),([]:U),L,D,A,(bD m R).map (gS L R))) ?a1 l.length _ ?a0 bW dY];(case a0=>exact⟨0,_,by omega,rfl,rfl⟩);(case a1=>rintro n x ⟨i,A,d6,s,rfl⟩;dsimp only;by_cases v:i<l.length;(case neg=>left;have e:i=l.length:=(by omega);subst e;rw[aW (eB (by rw[nl,J];omega)),apd s];try simp only[bE,aL]);obtain⟨n,rfl⟩:∃k,n=k+1:=⟨n - 1,by omega⟩;have z:i<(bD m R).length:=(by omega);have F:=vz H (zas (getD_some [] z));have B:=H.blk F;have hA:=afn H hr hl i A (by omega) s;obtain⟨b,q⟩:∃b,l.getD i b0=b:=⟨_,rfl⟩;have E:l[i]? =some b:=(by rw[<-q];exact getD_some b0 v);obtain⟨c,g,f,a⟩:=b;obtain⟨X,M,S,W⟩:=Z _ (zas E);dsimp only at X M S W;have N:((bD m R).getD i []).length<=1048576:=(by have:=B.cl;omega);have Mq:(bw R ((bD m R).getD i [])).length<=1048576:=(by have:=B.bl;omega);rw[be (dt (by rw[nl,J];omega)),kU (show i<aa ((bD m R).map (gS L R)) by unfold aa;omega)];simp only[aL,gW];rw[show bL ((bD m R).map (gS L R)) i=some ((bD m R).getD i [],L,bw R ((bD m R).getD i []),([]:U)) by show((bD m R).map (gS L R))[i]? =_;rw[zab,getD_some ([]:U) z];rfl];simp only[aL];rw[dw,E];simp only[aL];rw[show tT ((k,p,w),g,f,a)=some (f7 (k,p,w) (g,f,a)) from ai ⟨M,S,W⟩];simp only[aL];by_cases u:f7 (k,p,w) (g,f,a)=true;(case neg=>left;rw[Bool.eq_false_iff.2 u,be (b:=de false) rfl];simp only[bN,GB];rw[QI v (QK s (fun d=>u (by have:=d.2.1;rw[q] at this;exact this)))]);rw[u,aW (b:=de true) rfl,show vi (c,(bD m R).getD i [])=some (decide (c=(bD m R).getD i [])) from ai ⟨X,N⟩];simp only[aL];by_cases G:c=(bD m R).getD i [];(case neg=>left;rw[decide_eq_false G,be (b:=de false) rfl];simp only[bN,GB];rw[QI v (QK s (fun d=>G (by have:=d.1;rw[q] at this;exact this)))]);rw[decide_eq_true G,aW (b:=de true) rfl,show vi (g,L)=some (decide (g=L)) from ai ⟨M,hL⟩];simp only[aL];by_cases I:g=L;(case neg=>left;rw[decide_eq_false I,be (b:=de false) rfl];simp only[bN,GB];rw[QI v (QK s (fun d=>I (by have:=d.2.2.1;rw[q] at this;exact this)))]);rw[decide_eq_true I,aW (b:=de true) rfl];rw[show vi (f,bw R ((bD m R).getD i []))=some (decide (f=bw R ((bD m R).getD i []))) from ai ⟨S,Mq⟩];simp only[aL];by_cases t:f=bw R ((bD m R).getD i []);(case neg=>left;rw[decide_eq_false t,be (b:=de false) rfl];simp only[bN,GB];rw[QI v (QK s (fun d=>t (by have:=d.2.2.2;rw[q] at this;exact this)))]);right;have fM:Ge (k,p,w) L R ((bD m R).getD i []) (l.getD i b0):=(by rw[q];exact⟨G,u,I,t⟩);have P:=afp s fM;rw[q] at P;dsimp only at P;have Xd:=B.pD;have V:a.length=aB (bw R ((bD m R).getD i []))*ar (k,p,w):=(by obtain⟨_,_,_,_,Y,_⟩:=j7 u;rw[t] at Y;exact Y);have o:=Zl (L:=L) H F V hA;rw[decide_eq_true t,aW (b:=de true) rfl];rw[show CB ((L,D,T),(m,R),(bD m R).getD i [],L,bw R ((bD m R).getD i []),([]:U))=some (cE (aB (bw R ((bD m R).getD i []))) fun n=>(eF D R ((bD m R).getD i []) n:Int)) from ai ⟨hk,F,rfl⟩];simp only[bE,aL];rw[gd (fun j=>((l,aK (aa ((bD m R).map (gS L R))),(i:Int),aK (aa (cE (aB (bw R ((bD m R).getD i []))) fun n=>(eF D R ((bD m R).getD i []) n:Int))),(j:Int)),(k,p,w),(L,D,T),(m,R),(c,g,f,a),([]:U),([]:U),([]:U),L,D,uY (k,p,w) D R ((bD m R).getD i []) a A j,(bD m R).map (gS L R),cE (aB (bw R ((bD m R).getD i []))) fun n=>(eF D R ((bD m R).getD i []) n:Int))) (r:=wt (((i:Int),l,aK (aa ((bD m R).map (gS L R)))),(k,p,w),(L,D,T),(m,R),([]:U),([]:U),([]:U),L,D,uY (k,p,w) D R ((bD m R).getD i []) a A (aB (bw R ((bD m R).getD i []))),(bD m R).map (gS L R))) (aB (bw R ((bD m R).getD i []))) ?b1 ?b2 ?b3 dY];(case b3=>rfl);(case b2=>dsimp only;rw[aW (eB (by rw[nl,ff];omega))];try simp only[bE,aL]);(case b1=>intro j K;have d:=H.Jw F j;have hm:(eF D R ((bD m R).getD i []) j+1)*ar (k,p,w)<=aB D*ar (k,p,w):=IN _ d;have iM:(j+1)*ar (k,p,w)<=aB (bw R ((bD m R).getD i []))*ar (k,p,w):=IN _ K;have hm3:aB D*ar (k,p,w)<=4096*6:=IS MI hw.2.2;have fo:=hm;rw[Pe,zac] at hm iM;have hs:(fE a (j*ar (k,p,w)) (ar (k,p,w))).length=ar (k,p,w):=(by unfold fE;rw[OF,zaA];omega);have C:=o j (by omega);have vS:=o (j+1) (by omega);dsimp only;rw[be (dt (by rw[nl,ff];omega)),Ba _ K];simp only[aL,gW];rw[Dd _ K];simp only[aL,gj,bE];rw[show xP ((k,p,w),(L,D,uY (k,p,w) D R ((bD m R).getD i []) a A j),((eF D R ((bD m R).getD i []) j:Nat):Int))=some (((eF D R ((bD m R).getD i []) j*ar (k,p,w):Nat):Int),(((eF D R ((bD m R).getD i []) j+1)*ar (k,p,w):Nat):Int)) from ai ⟨hr,by dsimp only;omega,by dsimp only;rw[C,BY];omega,by dsimp only;rw[C];omega⟩];simp only[aL];rw[ZY (by rw[Pe];omega) (by unfold aa;rw[C];omega)];simp only[aL];rw[show(eF D R ((bD m R).getD i []) j+1)*ar (k,p,w) - eF D R ((bD m R).getD i []) j*ar (k,p,w)=ar (k,p,w) by rw[Pe];omega];rw[show rH ((k,p,w),(g,f,a),(j:Int))=some (fE a (j*ar (k,p,w)) (ar (k,p,w))) from Wl u (show j<aB f by rw[t];exact K)];simp only[aL];rw[za3 (show(fE a (j*ar (k,p,w)) (ar (k,p,w))).length<=ar (k,p,w) by omega)];rw[show vC (uY (k,p,w) D R ((bD m R).getD i []) a A j) (eF D R ((bD m R).getD i []) j*ar (k,p,w)) (ar (k,p,w)) (fE a (j*ar (k,p,w)) (ar (k,p,w)))=some (uY (k,p,w) D R ((bD m R).getD i []) a A (j+1)) by unfold vC;rw[ai (by rw[C];omega)];rfl];simp only[aL];rw[show aU 0 (aa (uY (k,p,w) D R ((bD m R).getD i []) a A j)) (aa (uY (k,p,w) D R ((bD m R).getD i []) a A (j+1)))=some () from ng (C.trans vS.symm)];simp only[aL];rw[dZ];rfl);simp only[bN,GB,bE,aL];rw[dZ];exact⟨n,_,by omega,rfl,i+1,_,by omega,P,rfl⟩);unfold I0;(try dsimp only);(cases hN:qb (k,p,w) L D R (bD m R) l l.length with|none=>simp only[bN,GB]|some A=>simp only[bN,GB,kF,aL]);rw[be (xy (by rw[nl,nl,J];omega)),aq (fun h=>hl h.2.2)]);cases h
end
theorem Ks {w:Nat} {f g:Nat->Int} (h:∀j,j<w->f j=g j):jb w f=jb w g:=zav fun j a=>h j (zae.1 a)
theorem asd {r:Int×Int×Int} (hr:dA r=true) (a b:Int):mT r a b=mT r b a:=by obtain⟨k,p,n⟩:=r;have e1:∀n:Int,mT (6,0,n) a b=((a.toNat|||b.toNat:Nat):Int)/\mT (6,0,n) b a=((b.toNat|||a.toNat:Nat):Int):=fun n=>⟨rfl,rfl⟩;rcases tJ hr with⟨rfl,rfl,rfl⟩|⟨rfl,c,rfl⟩|⟨rfl,c,rfl⟩|⟨rfl,c,rfl⟩|⟨rfl,c,rfl⟩|⟨rfl,rfl,hn⟩|⟨rfl,c,hn⟩|⟨rfl,c,kf,rfl⟩;show((a.toNat|||b.toNat:Nat):Int)=((b.toNat|||a.toNat:Nat):Int);rw[zbD];show(a+b)%p=(b+a)%p;rw[zaV];show min (a+b) p=min (b+a) p;rw[zaV];show min a b=min b a;omega;show max a b=max b a;omega;show((a.toNat|||b.toNat:Nat):Int)=((b.toNat|||a.toNat:Nat):Int);rw[zbD];show(a+b)%p=(b+a)%p;rw[zaV];show(a+b)%p=(b+a)%p;rw[zaV]
theorem asc {r:Int×Int×Int} (hr:dA r=true) {a b c:Int} (ha:0<=a) (hb:0<=b) (hc:0<=c):mT r (mT r a b) c=mT r a (mT r b c):=by obtain⟨k,p,n⟩:=r;have f:((a+b)%p+c)%p=(a+(b+c)%p)%p:=(by rw[Int.emod_add_emod,Int.add_emod_emod,Int.add_assoc]);have d:(((((a.toNat|||b.toNat:Nat):Int).toNat|||c.toNat:Nat)):Int)=((a.toNat|||(((b.toNat|||c.toNat:Nat):Int)).toNat:Nat):Int):=(by rw[BY,BY,Nat.or_assoc]);rcases tJ hr with⟨rfl,rfl,rfl⟩|⟨rfl,e,rfl⟩|⟨rfl,e,rfl⟩|⟨rfl,e,rfl⟩|⟨rfl,e,rfl⟩|⟨rfl,rfl,hn⟩|⟨rfl,e,hn⟩|⟨rfl,e,kf,rfl⟩;exact d;exact f;show min (min (a+b) p+c) p=min (a+min (b+c) p) p;omega;show min (min a b) c=min a (min b c);omega;show max (max a b) c=max a (max b c);omega;exact d;exact f;exact f
def z0 (r:Int×Int×Int):Int:=if r.1=4 then r.2.1 else 0
theorem LW {r:Int×Int×Int} (hr:dA r=true) {j:Nat} (a:j<ar r):cZ (dU r) j=z0 r:=by obtain⟨k,p,n⟩:=r;unfold dU z0;by_cases h:k=4;subst h;have:ar (4,p,n)=1:=rfl;have a:j=0:=(by omega);subst a;rfl;simp only[aq h];simp[cZ,cJ,a]
theorem asf {r:Int×Int×Int} (hr:dA r=true) {a:Int} (c:0<=a/\a<=dz r):mT r a (z0 r)=a:=by obtain⟨k,p,n⟩:=r;rcases tJ hr with⟨rfl,rfl,rfl⟩|⟨rfl,b,rfl⟩|⟨rfl,b,rfl⟩|⟨rfl,b,rfl⟩|⟨rfl,b,rfl⟩|⟨rfl,rfl,hn⟩|⟨rfl,b,hn⟩|⟨rfl,b,kf,rfl⟩;show((a.toNat|||(0:Int).toNat:Nat):Int)=a;rw[show(0:Int).toNat=0 from rfl,zbE];omega;have e:dz (2,p,0)=p - 1:=rfl;show(a+0)%p=a;rw[zbh];exact zaY c.1 (by omega);have e:dz (3,p,0)=p:=rfl;show min (a+0) p=a;omega;have e:dz (4,p,0)=p:=rfl;show min a p=a;omega;show max a 0=a;omega;show((a.toNat|||(0:Int).toNat:Nat):Int)=a;rw[show(0:Int).toNat=0 from rfl,zbE];omega;have e:dz (7,p,n)=p - 1:=rfl;show(a+0)%p=a;rw[zbh];exact zaY c.1 (by omega);have e:dz (8,p,0)=p - 1:=rfl;show(a+0)%p=a;rw[zbh];exact zaY c.1 (by omega)
theorem add_comm {r:Int×Int×Int} (hr:dA r=true) (x y:U):g9 r x y=g9 r y x:=Ks fun j _=>asd hr _ _
theorem add_assoc {r:Int×Int×Int} {x y z:U} (hr:dA r=true) (hx:eD r x=true) (hy:eD r y=true) (b:eD r z=true):g9 r (g9 r x y) z=g9 r x (g9 r y z):=by refine Ks fun j a=>?_;rw[show cZ (g9 r x y) j=_ from LV _ a,show cZ (g9 r y z) j=_ from LV _ a];exact asc hr (wV hx a).1 (wV hy a).1 (wV b a).1
theorem add_zero {r:Int×Int×Int} {x:U} (hr:dA r=true) (hx:eD r x=true):g9 r x (dU r)=x:=by
 have h:g9 r x (dU r)=jb (ar r) (cZ x):=Ks fun j a=>by rw[LW hr a];exact asf hr (wV hx a)
 rw[h,OA (jf hx)]
theorem zero_add {r:Int×Int×Int} {x:U} (hr:dA r=true) (hx:eD r x=true):g9 r (dU r) x=x:=by rw[add_comm hr,add_zero hr hx]
theorem ajL {r:Int×Int×Int} (hr:dA r=true) (a:¬(r.1=7\/r.1=8)):dU r=[z0 r]:=by have h:=OA (x:=dU r) (w:=ar r) (jf (vF hr));rw[KD a] at h;rw[<-h];show[cZ (dU r) 0]=[z0 r];rw[LW hr (by rw[KD a];omega)]
theorem agt {r:Int×Int×Int} (hr:dA r=true) (c:¬(r.1=7\/r.1=8)) {a:Int} (ha:0<=a/\a<=dz r):oC r a (z0 r)=z0 r/\oC r (z0 r) a=z0 r:=by obtain⟨k,p,n⟩:=r;simp only at c;rcases tJ hr with⟨rfl,rfl,rfl⟩|⟨rfl,b,rfl⟩|⟨rfl,b,rfl⟩|⟨rfl,b,rfl⟩|⟨rfl,b,rfl⟩|⟨rfl,rfl,hn⟩|⟨rfl,b,hn⟩|⟨rfl,b,kf,rfl⟩;constructor;show((a.toNat&&&(0:Int).toNat:Nat):Int)=0;rw[show(0:Int).toNat=0 from rfl,zbx];rfl;show(((0:Int).toNat&&&a.toNat:Nat):Int)=0;rw[show(0:Int).toNat=0 from rfl,zby];rfl;constructor;show a*0%p=0;rw[zbi,zaZ];show 0*a%p=0;rw[zbz,zaZ];constructor;show min (a*0) p=0;rw[zbi];omega;show min (0*a) p=0;rw[zbz];omega;constructor;show min (a+p) p=p;omega;show min (p+a) p=p;omega;constructor;show min a 0=0;omega;show min 0 a=0;omega;constructor;show((a.toNat&&&(0:Int).toNat:Nat):Int)=0;rw[show(0:Int).toNat=0 from rfl,zbx];rfl;show(((0:Int).toNat&&&a.toNat:Nat):Int)=0;rw[show(0:Int).toNat=0 from rfl,zby];rfl;exact absurd (.inl rfl) c;exact absurd (.inr rfl) c
theorem afs {om:Bool} {w:Nat} {x y:Nat->Int} (t:Nat) {i j:Nat} (h:x i=0\/y j=0):kW om x y t i j=0:=by unfold kW;have e:x i*y j=0:=(by rcases h with h|h<;>simp[h]);split;exact e;split;rw[e];rfl;rfl
theorem S8 {r:Int×Int×Int} (hk:r.1=7\/r.1=8):z0 r=0:=by unfold z0;rw[aq (by omega)]
theorem SO {r:Int×Int×Int} (hr:dA r=true):jb (ar r) (fun _=>z0 r)=dU r:=by have h:=OA (x:=dU r) (w:=ar r) (jf (vF hr));rw[<-h];exact Ks fun j a=>(LW hr a).symm
theorem mul_zero {r:Int×Int×Int} {x:U} (hr:dA r=true) (hx:eD r x=true):pK r x (dU r)=dU r:=by by_cases a:r.1=7\/r.1=8;rw[EV a,<-SO hr];refine Ks fun t ht=>?_;rw[Gz _ fun i hi=>Gz _ fun j c=>afs (w:=ar r) t (.inr (by rw[SO hr,LW hr c,S8 a])),S8 a];exact zaZ _;have d:=KD a;have b:=Bm hx d;rw[b.1,ajL hr a,uR a,(agt hr a b.2).1]
theorem zero_mul {r:Int×Int×Int} {x:U} (hr:dA r=true) (hx:eD r x=true):pK r (dU r) x=dU r:=by by_cases a:r.1=7\/r.1=8;rw[EV a,<-SO hr];refine Ks fun t ht=>?_;rw[Gz _ fun i d=>Gz _ fun j hj=>afs (w:=ar r) t (.inl (by rw[SO hr,LW hr d,S8 a])),S8 a];exact zaZ _;have c:=KD a;have b:=Bm hx c;rw[b.1,ajL hr a,uR a,(agt hr a b.2).2]
def TQ (NN:Nat):((U×(U×U))×U)->(Option U):=
 (fun((l0,l1,l2),l3)=>
 (j6 (aK (aa l3)) (aK (aa l3)) 8).ae (fun k4=>
 bN ((aU 0 k4 (aa (cJ k4 (0:Int)))).ae (fun _=>
 bS NN (fun((l5,i6,i7),(l8,l9,cP),ed)=>
 aA (gZ (0:Int) i7)
 (bN (bN (ah ed (
 bS NN (fun((eu,ft,f0,dH,fV,gN),(fN,gb,gE),gi)=>
 aA (cH gN fV)
 ((cg dH gN).ae (fun iP=>
 (cg fN f0).ae (fun gv=>
 aA (bH iP gv)
 ((dg gN (aa gi)).ae (fun Ye=>
 (bL gi (au 0 Ye)).ae (fun jo=>
 (aU 0 (aa gi) (aa (br gi (au 0 Ye) ft))).ae (fun _=>
 some (wt ((eu,ft,f0,dH,fV,bt .i64 gN 1),(fN,gb,gE),br gi (au 0 Ye) ft))))))
 (ah gi (
 some (wt ((eu,ft,f0,dH,fV,bt .i64 gN 1),(fN,gb,gE),gi)))))))
 ((ah gi (
 some (wt ((ft,f0,eu),(fN,gb,gE),gi)))).ae (fun fO=>
 some (AT fO))))
 ((l5,i6,i7,l5,aK (aa l5),(0:Int)),(l8,l9,cP),ed)))
 (fun((iF,iT,dW),(fY,fG,jI),gz)=>
 (cg fG iT).ae (fun oN=>
 ah gz (
 some (wt ((iT,dW,ik .i64 iF oN),(fY,fG,jI),gz))))))
 (fun((od,gQ,Du),(ou,nw,kz),kP)=>
 ah kP (
 some (wt ((gQ,Du,lv .i64 od 1),(ou,nw,kz),kP)))))
 ((ah ed (
 some (wt ed))).ae (fun ig=>
 some (AT ig))))
 ((l3,(1:Int),lv .i64 (aK (aa l1)) (1:Int)),(l0,l1,l2),cJ k4 (0:Int))))
 (fun gR=>
 (dO gR (aa gR)).ae (fun iU=>
 some iU))))
theorem ajf {D:U} (h:lH D) {i:Nat} (a:i<=D.length):eV D i<=aB D:=by have:=aaA (D:=D) (i:=0) (j:=i) (zbb i) a;rw[SQ] at this;exact Nat.le_of_dvd (Ax fun x hx=>(h.2 x hx).1) this
theorem ake {L:U} {v:Int} (hn:L.Nodup) {k:Nat} (a:k<L.length):v=L.getD k 0↔aX L v=k:=by constructor;intro e;rw[e,kD hn a];intro e;have d:aX L v<L.length:=(by omega);have:=zba (w:=d);have c:L[aX L v]=v:=of_decide_eq_true this;have b:L.getD k 0=L[k]:=(by rw[co,AN a];rfl);rw[b];subst e;exact c.symm
theorem mP {l:U} {i:Nat} (h:i<l.length:=by omega):l[i]? =some (l.getD i 0):=by rw[co,AN h];rfl
theorem Ru (n:Nat):cJ n (0:Int)=cE n fun _=>0:=by apply zaL;intro i;by_cases a:i<n;rw[qM _ a];show(zbq n (0:Int))[i]? =_;rw[List.getElem?_replicate,ai a];rw[zam (by show(zbq n (0:Int)).length<=i;simp;omega),zam (by rw[ff];omega)]
def pM (L D S:U) (j q:Nat) (i:Nat):Int:=if(i<q/\aX L (S.getD i 0)+1=D.length - j)\/(D.length - j<=aX L (S.getD i 0)/\aX L (S.getD i 0)<D.length) then((eV D (aX L (S.getD i 0)+1):Nat):Int) else 0
theorem amZ (x:T3×U) (y:U) (h:zd x=some y):TQ bW x=some y:=by
 obtain⟨⟨L,D,A⟩,S⟩:=x;simp only[zd] at h;split at h
 ·rename_i a;rw[<-h];obtain⟨g,w,z⟩:=a
  try dsimp only at g w z
  obtain⟨Mc,hl,_⟩:=ku g;have u:=rJ g;have G:=xZ g;have p:lH D:=⟨by omega,fun x hx=>by have:=u x hx;omega⟩;simp only[TQ,ah];rw[si (by simp only[aa,fe];omega)]
  try simp only[aL]
  rw[show aU 0 (aa S) (aa (cJ (aa S) (0:Int)))=some () from ng (by simp[aa,cJ])]
  try simp only[aL]
  rw[gd (r:=wt (sB L D S)) (fun j=>((S,((eV D (D.length - j):Nat):Int),(D.length:Int) - 1 - (j:Int)),(L,D,A),cE S.length (pM L D S j 0))) D.length ?a1 ?a2 ?a3 dY]
  case a3=>
   rw[rF (by show _<=((aa D:Nat):Int) - 1;omega) (by show((aa D:Nat):Int) - 1<=_;unfold aa;omega),Ru];rw[show D.length - 0=D.length from rfl,xI]
   rw[show cE S.length (pM L D S 0 0)=cE (aa S) (fun _=>0) from nB fun i f=>by
    unfold pM;rw[aq (by omega)]]
   show _=((S,((1:Nat):Int),(D.length:Int) - 1 - ((0:Nat):Int)),(L,D,A),_);rw[show(D.length:Int) - 1 - ((0:Nat):Int)=(D.length:Int) - 1 by omega];rfl
  case a2=>
   dsimp only
   rw[show gZ (0:Int) ((D.length:Int) - 1 - (D.length:Int))=false from decide_eq_false (by omega),aW rfl]
   try simp only[bE,aL]
   rw[show cE S.length (pM L D S D.length 0)=sB L D S from nB fun i f=>by
     unfold pM;by_cases a:aX L (S.getD i 0)<L.length
     ·rw[ai (by omega),ai a]
     ·rw[aq (by omega),aq a]]
  case a1=>
   intro j hj;dsimp only
   rw[be qI]
   try simp only[bE,aL]
   have E:((D.length:Int) - 1 - (j:Int))=((D.length - 1 - j:Nat):Int):=by omega
   rw[E];have hdk:=u _ (eX (l:=D) (i:=D.length - 1 - j) (by omega));rw[gd (r:=wt ((((eV D (D.length - j):Nat):Int),((D.length - 1 - j:Nat):Int),S),(L,D,A),cE S.length (pM L D S (j+1) 0))) (fun q=>((S,((eV D (D.length - j):Nat):Int),((D.length - 1 - j:Nat):Int),S,(S.length:Int),(q:Int)),(L,D,A),cE S.length (pM L D S j q))) S.length ?b1 ?b2 ?b3 dY]
   case b3=>rfl
   case b2=>
    dsimp only
    rw[aW eB]
    try simp only[bE,aL]
    rw[show cE S.length (pM L D S j S.length)=cE S.length (pM L D S (j+1) 0) from nB fun i f=>by
     unfold pM;by_cases a:(i<S.length/\aX L (S.getD i 0)+1=D.length - j)\/(D.length - j<=aX L (S.getD i 0)/\aX L (S.getD i 0)<D.length)
     ·rw[ai a,ai (by omega)]
     ·rw[aq a,aq (by omega)]]
   case b1=>
    intro q o;dsimp only
    rw[be dt,dw,dw,mP o,mP (l:=L) (i:=D.length - 1 - j) (by omega)]
    try simp only[aL]
    rw[dZ];have s:=ake (v:=S.getD q 0) G (k:=D.length - 1 - j) (by omega);by_cases c:S.getD q 0=L.getD (D.length - 1 - j) 0
    ·have t:=s.1 c;rw[be (by unfold bH;exact beq_iff_eq.2 c),Ba _ o]
     try simp only[aL,gW]
     rw[Dd _ o]
     try simp only[aL]
     rw[JT,show aU 0 (aa (cE S.length (pM L D S j q))) (aa (cE S.length fun i=>if i=q then((eV D (D.length - j):Nat):Int) else pM L D S j q i))=some () from zH _ _ _]
     try simp only[aL]
     rw[show cE S.length (fun i=>if i=q then((eV D (D.length - j):Nat):Int) else pM L D S j q i)=cE S.length (pM L D S j (q+1)) from nB fun i f=>by
      by_cases b:i=q
      ·subst b;rw[ai rfl];unfold pM;rw[ai (by omega),t,show D.length - 1 - j+1=D.length - j by omega]
      ·rw[aq b];unfold pM;by_cases a:(i<q/\aX L (S.getD i 0)+1=D.length - j)\/(D.length - j<=aX L (S.getD i 0)/\aX L (S.getD i 0)<D.length)
       ·rw[ai a,ai (by omega)]
       ·rw[aq a,aq (by omega)]]
     rfl
    ·have t:aX L (S.getD q 0)≠D.length - 1 - j:=fun e=>c (s.2 e);rw[aW (by simp only[bH,beq_eq_false_iff_ne,ne_eq];exact c)]
     try simp only[bE,aL]
     rw[show cE S.length (pM L D S j (q+1))=cE S.length (pM L D S j q) from nB fun i f=>by
      unfold pM;by_cases a:(i<q/\aX L (S.getD i 0)+1=D.length - j)\/(D.length - j<=aX L (S.getD i 0)/\aX L (S.getD i 0)<D.length)
      ·rw[ai a,ai (by omega)]
      ·rw[aq a,aq (by
        intro F;apply a;rcases F with⟨c1,m⟩|m
        ·left;refine⟨?_,m⟩;have:i≠q:=by intro e;subst e;omega
         omega
        ·exact .inr m)]]
     rfl
   simp only[bN,GB];rw[dw,mP (l:=D) (i:=D.length - 1 - j) (by omega)]
   try simp only[aL,bE]
   obtain⟨d,d1,C,B,d4,d5⟩:=HO p (i:=D.length - 1 - j) (by omega);have n:eV D (D.length - 1 - j)=d*eV D (D.length - 1 - j+1):=by rw[Ee (by omega),B]
   rw[show D.length - 1 - j+1=D.length - j by omega] at n;have jU:=ajf p (i:=D.length - 1 - j) (by omega);rw[C,rA (by rw[<-zan];omega) (by rw[<-zan,zaE,<-n];omega),rF,<-zan,zaE,<-n];show some (wt _)=some (wt ((S,((eV D (D.length - (j+1)):Nat):Int),(D.length:Int) - 1 - ((j+1:Nat):Int)),(L,D,A),cE S.length (pM L D S (j+1) 0)));rw[show D.length - (j+1)=D.length - 1 - j by omega,show(D.length:Int) - 1 - ((j+1:Nat):Int)=((D.length - 1 - j:Nat):Int) - 1 by omega]
  simp only[bN,GB,kF,aL]
 ·cases h
def aiA (s:CM):Prop:=(0<=s.1/\s.1<=4096)/\(0<=s.2.1/\s.2.1<=4096)/\(0<=s.2.2.1/\s.2.2.1<=4096)
instance (s:CM):Decidable (aiA s):=by unfold aiA;infer_instance
def abI (m:Int) (s t:CM) (x:Int×Int×U):Prop:=x.1=s.2.1*t.2.1/\x.2.1=s.2.1*t.2.1/\s.1*s.2.1<=64/\t.2.1*t.2.2.1<=64
instance (m:Int) (s t:CM) (x:Int×Int×U):Decidable (abI m s t x):=by unfold abI;infer_instance
section
variable {A1 A2 A3 A4 A5 X Y Z T ρ:Type} {p:Int} {n N k:Nat} {a b:U} {ms:List oF}
end
theorem Kv {r:Rg} {L D A:U} (h:f7 r (L,D,A)=true):mh L D=true/\fA D<=4096:=by simp only[f7,IT,decide_eq_true_eq] at h;obtain⟨h1,a,h3,h4⟩:=h;by_cases b:mh L D=true/\fA D<=4096;exact b;have e:fF L D= -1:=aq b;rw[e] at a;exact absurd a (by decide)
theorem sL {l a:U} (hl:l.length=a.length) (h:∀k,k<l.length->l.getD k 0=a.getD k 0):l=a:= List.ext_getElem hl fun k b c=>by have:=h k b;rw[co,co,AN b,AN c] at this;exact this
theorem atk {f:U} {v:Int} (h:aX f v<f.length):f[aX f v]? =some v:=by rw[AN h];have:=zba (w:=h);congr 1;exact of_decide_eq_true this
theorem bM {α β:Type} (x:α) (f:α->Option β):(some x).ae f=f x:=by
 have h:∀o:Option α,o=some x->o.ae f=f x:=by intro o h;subst h;rfl
 exact h _ rfl
theorem mJ {α:Type} (x y:α):aA true x y=x:=rfl
theorem jR {α:Type} (x y:α):aA false x y=y:=rfl
def jL (a b:U):U:=a++b.filter fun x=> !decide (x∈a)
def jd (La Da Lb Db:U) (v:Int):Int:=if aX La v<La.length then Da.getD (aX La v) 0 else Db.getD (aX Lb v) 0
theorem sn {l:U} {v:Int}:aX l v<l.length↔v∈l:=by constructor;intro h;exact zas (atk h);exact eZ
theorem th {a b:U} {v:Int} (h:v∈jL a b):v∈a\/v∈b:=by unfold jL at h;rcases zaF.1 h with h|h;exact .inl h;exact .inr (zaf.1 h).1
theorem atv (a b:U):aB (a++b)=aB a*aB b:=by induction a with|nil=>simp[aB]|cons x a c=>simp only[zbj,aB,c,zaR]
def rC (D ix:U):Nat:=kl D ix D.length
theorem NQ {D:U} (a:lH D) {n:Nat} (hn:n<aB D):rC D (aD D n)=n:=by unfold rC;rw[YU a hn _ (zad _),xI,zbB]
def ui (J I:U) (v:Int):Int:=I.getD (aX J v) 0
theorem ajb {L J:U} (hL:L.Nodup) (i:J.Nodup) (d:∀v∈L,v∈J) {g:Int->Nat} (e:∀v,v∉L->g v=0):(J.map g).sum=(L.map g).sum:=by have f:∀l:U,(l.map g).sum=((l.filter fun v=>decide (v∈L)).map g).sum:=(by intro l;induction l with|nil=>rfl|cons a l c=>by_cases b:a∈L;rw[zaJ (by simpa using b),zaH,zbd,zaH,zbd,c];rw[zaK (by simpa using b),zaH,zbd,c,e a b,zbg]);rw[f J];refine List.Perm.sum_nat (List.Perm.map g ((zaT (i.filter _) hL).2 fun v=>?_));rw[zaf];exact⟨fun h=>by simpa using h.2,fun h=>⟨d v h,by simpa using h⟩⟩
def nf (L D J I:U):Nat:=sN (fun i=>(I.getD i 0).toNat*((sB L D J).getD i 0).toNat) (sB L D J).length
theorem Pl {L D J I:U} (hL:L.Nodup) (c:J.Nodup) (d:∀v∈L,v∈J) (hl:L.length=D.length) (hI:I.length=J.length):nf L D J I=rC D (L.map (ui J I)):=by
 have b:(sB L D J).length=J.length:=ff _ _;let g:Int->Nat:=fun v=>(ui J I v).toNat*(if aX L v<L.length then eV D (aX L v+1) else 0)
 have f:nf L D J I=(J.map g).sum:=by
  unfold nf;rw[b,<-RP g J];refine RO _ fun i a=>?_;show _=(I.getD (aX J (J.getD i 0)) 0).toNat*_;rw[kD c a];congr 1;unfold sB;rw[co,qM _ a];show(if aX L (J.getD i 0)<L.length then((eV D (aX L (J.getD i 0)+1):Nat):Int) else 0).toNat=_
  split
  ·exact BY _
  ·rfl
 have j:rC D (L.map (ui J I))=(L.map g).sum:=by
  unfold rC;have:=YV (D:=D) (ix:=L.map (ui J I)) D.length (zad _);rw[xI,zbc] at this;rw[this,<-RP g L,<-hl];refine RO _ fun i a=>?_;show _=(ui J I (L.getD i 0)).toNat*(if aX L (L.getD i 0)<L.length then eV D (aX L (L.getD i 0)+1) else 0)
  rw[kD hL a,ai a];congr 1;rw[co,zab,mP a];rfl
 rw[f,j];refine ajb hL c d fun v e=>?_;show _*_=0;rw[aq fun h=>e (sn.1 h),Nat.mul_zero]
theorem QZ {D ix:U} (h:∀k,k<D.length->(ix.getD k 0).toNat<(D.getD k 0).toNat):rC D ix<aB D:=by have:=Q0 h D.length (zad _);rw[xI,zbc] at this;unfold rC;omega
theorem QG {a b:U} (c:a.Nodup) (d:b.Nodup):(jL a b).Nodup:=by unfold jL;rw[zaM];refine⟨c,d.filter _,fun x hx y hy=>?_⟩;have:=(zaf.1 hy).2;intro e;subst e;simp[hx] at this
theorem xm {a b:U}:∀v∈a,v∈jL a b:=fun v c=>za9 _ c
theorem Ac {a b:U}:∀v∈b,v∈jL a b:=fun v c=>by by_cases h:v∈a;exact xm v h;exact List.mem_append_right _ (zaf.2 ⟨c,by simp[h]⟩)
structure Sub (L D J DJ:U):Prop where
 nL:L.Nodup
 nJ:J.Nodup
 s:∀v∈L,v∈J
 l:L.length=D.length
 lJ:DJ.length=J.length
 d:∀i,i<L.length->DJ.getD (aX J (L.getD i 0)) 0=D.getD i 0
 pos:∀x∈DJ,1<=x
theorem Sub.lt {L D J a:U} (h:Sub L D J a) (k:Nat):nf L D J (aD a k)<aB D:=by
 have hl:(aD a k).length=J.length:=by unfold aD;rw[ff,h.lJ]
 rw[Pl h.nL h.nJ h.s h.l hl];refine QZ fun i hi=>?_;have hi':i<L.length:=by have:=h.l;omega
 have b:aX J (L.getD i 0)<a.length:=by rw[h.lJ];exact eZ (h.s _ (eX hi'))
 have e:(L.map (ui J (aD a k))).getD i 0=fD a k (aX J (L.getD i 0)):=by
  rw[co,zab,mP hi'];exact BT b
 rw[e,<-h.d i hi'];unfold fD;rw[BY];refine za8 _ ?_;have:=h.pos _ (eX b);omega
theorem aw9 {α:Type} {xs:List α} {lo n:Nat} (h:lo+n<=aa xs):cr xs lo n=some ((xs.drop lo).take n):=ai h
theorem awH {α:Type} {xs:List α} {n:Nat} (h:xs.length=n):dO xs n=some xs:=by subst h;exact kF xs
theorem h9 {l:U} {f:Int->Int} {i:Nat} (a:i<l.length):(l.map f).getD i 0=f (l.getD i 0):=by rw[co,zab,mP a];rfl
theorem agn {D ix:U} (h:∀k,k<D.length->(ix.getD k 0).toNat<(D.getD k 0).toNat):∀t i,i+t=D.length->∃q,kl D ix D.length=kl D ix i*eV D i+q/\q<eV D i
 |0,i,hi=>by have:i=D.length:=(by omega);subst this;exact⟨0,by rw[xI];omega,by rw[xI];omega⟩
 |t+1,i,hi=>by obtain⟨q,c,h2⟩:=agn h t (i+1) (by omega);have b:=h i (by omega);have a:=Ee (D:=D) (i:=i) (by omega);refine⟨(ix.getD i 0).toNat*eV D (i+1)+q,?_,?_⟩;rw[c,a];simp only[kl];rw[Pe,zaR,zbt];rw[a];have:((ix.getD i 0).toNat+1)*eV D (i+1)<=(D.getD i 0).toNat*eV D (i+1):=IN _ b;rw[Pe,zac] at this;omega
theorem Nk {D ix:U} (hl:ix.length=D.length) (h:∀k,k<D.length->0<=ix.getD k 0/\ix.getD k 0<D.getD k 0):aD D (rC D ix)=ix:=by
 have h':∀k,k<D.length->(ix.getD k 0).toNat<(D.getD k 0).toNat:=fun k a=>by have:=h k a;omega
 refine sL (by unfold aD;rw[ff,hl]) fun k a=>?_;have a:k<D.length:=by unfold aD at a;rw[ff] at a;exact a
 obtain⟨q,c,b⟩:=agn h' (D.length - (k+1)) (k+1) (by omega);rw[BT a];unfold fD rC;rw[c,zaE,Nat.mul_add_div (by omega),zbk b,Nat.add_zero];simp only[kl];have cM:=h k a;rw[zaE,Nat.mul_add_mod,zbl (h' k a)];omega
def SL (r:Rg) (h:Nat->U):List Nat->U
 |[]=>dU r
 |k::l=>g9 r (h k) (SL r h l)
section
variable {r:Rg} {h g:Nat->U}
theorem AW (hr:dA r=true) (a:∀k,eD r (h k)=true):∀l,eD r (SL r h l)=true
 |[]=>vF hr
 |k::l=>acr hr (a k) (AW hr a l)
theorem Uv (hr:dA r=true) (b:∀k,eD r (h k)=true) (a:List Nat):∀l,SL r h (l++a)=g9 r (SL r h l) (SL r h a)
 |[]=>(zero_add hr (AW hr b a)).symm
 |k::l=>by show g9 r (h k) (SL r h (l++a))=g9 r (g9 r (h k) (SL r h l)) (SL r h a);rw[Uv hr b a l,add_assoc hr (b k) (AW hr b l) (AW hr b a)]
theorem abi:∀(l:List Nat),(∀k∈l,h k=g k)->SL r h l=SL r g l
 |[],_=>rfl
 |k::l,H=>by show g9 r (h k) (SL r h l)=g9 r (g k) (SL r g l);rw[H k (by simp),abi l fun q a=>H q (by simp[a])]
theorem abk (e:Nat->Nat):∀l:List Nat,SL r h (l.map e)=SL r (fun k=>h (e k)) l
 |[]=>rfl
 |k::l=>by show g9 r (h (e k)) (SL r h (l.map e))=g9 r (h (e k)) (SL r (fun k=>h (e k)) l);rw[abk e l]
theorem Uw (hr:dA r=true):∀(l:List Nat),(∀k∈l,h k=dU r)->SL r h l=dU r
 |[],_=>rfl
 |k::l,H=>by show g9 r (h k) (SL r h l)=dU r;rw[H k (by simp),Uw hr l fun q a=>H q (by simp[a]),add_zero hr (vF hr)]
theorem aj0 (hr:dA r=true) (c:∀k,eD r (h k)=true) {l d:List Nat} (p:l.Perm d):SL r h l=SL r h d:=by induction p with|nil=>rfl|cons k _ g=>show g9 r (h k) _=g9 r (h k) _;rw[g]|swap a b l=>show g9 r (h b) (g9 r (h a) (SL r h l))=g9 r (h a) (g9 r (h b) (SL r h l));have hl:=AW hr c l;rw[<-add_assoc hr (c b) (c a) hl,<-add_assoc hr (c a) (c b) hl,add_comm hr (h b) (h a)]|trans _ _ f e=>rw[f,e]
theorem abj (hr:dA r=true) (b:∀k,eD r (h k)=true) (p:Nat->Bool):∀(l:List Nat),(∀k∈l,p k=false->h k=dU r)->SL r h (l.filter p)=SL r h l
 |[],_=>rfl
 |k::l,H=>by have a:=abj hr b p l fun q c=>H q (by simp[c]);cases hp:p k with|true=>rw[zaJ hp];show g9 r (h k) _=g9 r (h k) _;rw[a]|false=>rw[zaK (by rw[hp];exact Bool.false_ne_true),a];show SL r h l=g9 r (h k) (SL r h l);rw[H k (by simp) hp,zero_add hr (AW hr b l)]
theorem ajZ (hr:dA r=true) (b:∀k,eD r (h k)=true) {L:List Nat} {P:Nat} (hn:L.Nodup) (hl:∀k∈L,k<P) (d:∀k,k<P->k∉L->h k=dU r):SL r h L=SL r h (zaC P):=by rw[<-abj hr b (fun k=>decide (k∈L)) (zaC P) fun k a c=>d k (zae.1 a) (by simpa using c)];refine aj0 hr b ((zaT hn (zbm.filter _)).2 fun k=>?_);rw[zaf,zae];exact⟨fun a=>⟨hl k a,decide_eq_true a⟩,fun a=>of_decide_eq_true a.2⟩
end
def kV (r:Rg) (f:Nat->U) (oc:Nat->Nat) (n:Nat):Nat->U
 |0=>dU r
 |k+1=>if oc k=n then g9 r (kV r f oc n k) (f k) else kV r f oc n k
def vQ (r:Rg) (f:Nat->U) (oc:Nat->Nat) (n:Nat) (k:Nat):U:=if oc k=n then f k else dU r
theorem MD {r:Rg} {f:Nat->U} (hr:dA r=true) (b:∀k,eD r (f k)=true) (a:Nat->Nat) (n k:Nat):eD r (vQ r f a n k)=true:=by unfold vQ;split;exact b k;exact vF hr
theorem HI {r:Rg} {f:Nat->U} (hr:dA r=true) (b:∀k,eD r (f k)=true) (a:Nat->Nat) (n:Nat):∀k,kV r f a n k=SL r (vQ r f a n) (zaC k)
 |0=>rfl
 |k+1=>by
  have hh:=MD hr b a n;rw[za4,Uv hr hh,<-HI hr b a n k];show(if a k=n then g9 r (kV r f a n k) (f k) else kV r f a n k)=g9 r _ (g9 r (vQ r f a n k) (dU r))
  rw[add_zero hr (hh k)];unfold vQ;split
  ·rfl
  ·rw[add_zero hr];rw[HI hr b a n k];exact AW hr hh _
theorem ER {r:Rg} {f:Nat->U} (hr:dA r=true) (b:∀k,eD r (f k)=true) (a:Nat->Nat) (n k:Nat):eD r (kV r f a n k)=true:=by rw[HI hr b];exact AW hr (MD hr b a n) _
def fw (g:Nat->U):Nat->U
 |0=>[]
 |n+1=>fw g n++g n
theorem zt {g:Nat->U} {w:Nat}:∀{n},(∀i,i<n->(g i).length=w)->(fw g n).length=n*w
 |0,_=>by simp[fw]
 |n+1,h=>by rw[fw,By,zt fun i hi=>h i (by omega),h n (by omega),Pe,zac]
theorem CX {g h:Nat->U}:∀{n},(∀i,i<n->g i=h i)->fw g n=fw h n
 |0,_=>rfl
 |n+1,e=>by rw[fw,fw,CX fun i hi=>e i (by omega),e n (by omega)]
theorem Kc {g:Nat->U} {w:Nat}:∀{n},(∀i,i<n->(g i).length=w)->∀{i},i<n->fE (fw g n) (i*w) w=g i
 |n+1,h,i,a=>by have hl:=zt (n:=n) fun i a=>h i (by omega);unfold fE;by_cases e:i=n;subst e;rw[fw,List.drop_append,za2 (by omega),List.nil_append,hl,za6,List.drop_zero,za3 (by rw[h i (by omega)];exact zad _)];have hm:(i+1)*w<=n*w:=IN _ (by omega);rw[Pe,zac] at hm;rw[fw,zaz (by omega),zaP (by rw[zaA];omega)];exact Kc (fun i a=>h i (by omega)) (by omega)
theorem N0 {g:Nat->U} {w:Nat} {x:U} (hx:x.length=w):∀{n},(∀i,i<n->(g i).length=w)->∀{i},i<n->gf (fw g n) (i*w) x=fw (fun j=>if j=i then x else g j) n
 |n+1,h,i,a=>by have hl:=zt (n:=n) fun i a=>h i (by omega);have hn:=h n (by omega);rw[fw,fw];by_cases e:i=n;subst e;rw[ai rfl,CX (n:=i) (h:=g) fun j hj=>aq (by omega)];unfold gf;rw[<-hl,List.take_left,hx,<-zbr,List.drop_left,<-hn,List.drop_length,za7];have hm:(i+1)*w<=n*w:=IN _ (by omega);rw[Pe,zac] at hm;rw[aq (Ne.symm e),<-N0 hx (fun i a=>h i (by omega)) (show i<n by omega)];unfold gf;rw[zaP (by omega),zaz (by rw[hx];omega),zah,zah,zah]
theorem Rv (x:U):∀n,o9 x n=fw (fun _=>x) n
 |0=>rfl
 |n+1=>by rw[o9,fw,Rv x n]
theorem U7 (r:Rg) (A:U) (off:Nat->Nat):∀n,nZ r A off n=fw (fun i=>fE A (off i*ar r) (ar r)) n
 |0=>rfl
 |n+1=>by rw[nZ,fw,U7 r A off n]
def kH (r:Rg) (A:U) (i:Nat):U:=fE A (i*ar r) (ar r)
theorem zB {r:Rg} {L D A:U} (h:f7 r (L,D,A)=true) {i:Nat} (b:i<aB D):eD r (kH r A i)=true:=by obtain⟨hr,_,_,⟨mQ,kf⟩,hA,_,_,_,a⟩:=j7 h;have hm:(i+1)*ar r<=aB D*ar r:=IN _ b;rw[Pe,zac] at hm;unfold eD;rw[IT,decide_eq_true_eq];refine⟨by unfold kH fE;rw[OF,zaA];omega,zaj.2 fun x hx=>?_⟩;exact zaj.1 a x (List.mem_of_mem_drop (List.mem_of_mem_take hx))
section
variable {J DJ:U} {f:Int->U}
theorem JS {n k:Nat} (f:Nat->Int) (h:k<n):(cE n f).getD k 0=f k:=by rw[co,qM _ h];rfl
def fL (f:Int->U) (v:Int):Int:=((f v).length:Int)
def zb (J:U) (f:Int->U) (I:U):U:=J.map fun v=>(f v).getD (ui J I v).toNat 0
def rM (J DJ:U) (f:Int->U) (j:Nat):Nat:=rC DJ (zb J f (aD (J.map (fL f)) j))
structure Jn (J DJ:U) (f:Int->U):Prop where
 nJ:J.Nodup
 lJ:DJ.length=J.length
 g:lH DJ
 p:∀v∈J,1<=(f v).length/\(f v).length<=1048576
 nd:∀v∈J,(f v).Nodup
 b:∀i,i<J.length->∀t∈f (J.getD i 0),0<=t/\t<DJ.getD i 0
theorem Jn.gF (h:Jn J DJ f):lH (J.map (fL f)):=by have:=h.g.1;have:=h.lJ;refine⟨by rw[AI];omega,fun x hx=>?_⟩;obtain⟨v,a,rfl⟩:=zaa.1 hx;have:=h.p v a;unfold fL;omega
theorem Jn.dF (h:Jn J DJ f) {i:Nat} (a:i<J.length):(J.map (fL f)).getD i 0=((f (J.getD i 0)).length:Int):=by rw[h9 a];rfl
theorem Jn.ix (h:Jn J DJ f) (j:Nat) {i:Nat} (a:i<J.length):0<=(aD (J.map (fL f)) j).getD i 0/\((aD (J.map (fL f)) j).getD i 0).toNat<(f (J.getD i 0)).length:=by have:=Nj h.gF j (i:=i) (by rw[AI];exact a);rw[h.dF a] at this;omega
theorem FM (J:U) (f:Int->U) (j:Nat):(aD (J.map (fL f)) j).length=J.length:=by unfold aD;rw[ff,AI]
theorem OI (J:U) (f:Int->U) (I:U):(zb J f I).length=J.length:=AI ..
theorem Jn.w (h:Jn J DJ f) (I:U) {i:Nat} (a:i<J.length):(zb J f I).getD i 0=(f (J.getD i 0)).getD (I.getD i 0).toNat 0:=by unfold zb;rw[co,zab,getD_some 0 a];show(f (J.getD i 0)).getD (ui J I (J.getD i 0)).toNat 0=_;unfold ui;rw[kD h.nJ a]
theorem Jn.aaT (h:Jn J DJ f) (j:Nat) {i:Nat} (a:i<J.length):(zb J f (aD (J.map (fL f)) j)).getD i 0∈f (J.getD i 0):=by rw[h.w _ a];exact eX (h.ix j a).2
theorem Jn.w_b (h:Jn J DJ f) (j:Nat):∀i,i<DJ.length->0<=(zb J f (aD (J.map (fL f)) j)).getD i 0/\(zb J f (aD (J.map (fL f)) j)).getD i 0<DJ.getD i 0:=fun i hi=>by
 have hi':i<J.length:=by have:=h.lJ;omega
 exact h.b i hi' _ (h.aaT j hi')
theorem Jn.idx (h:Jn J DJ f) (j:Nat):aD DJ (rM J DJ f j)=zb J f (aD (J.map (fL f)) j):=Nk (by rw[OI,h.lJ]) (h.w_b j)
theorem Jn.lt (h:Jn J DJ f) (j:Nat):rM J DJ f j<aB DJ:=QZ fun k a=>by have:=h.w_b j k a;omega
theorem Jn.off (h:Jn J DJ f) {L D:U} (hL:L.Nodup) (b:∀v∈L,v∈J) (hl:L.length=D.length) (j:Nat): nf L D J (aD DJ (rM J DJ f j))=rC D (AY (L.map f) (aD (L.map (fL f)) (nf L (L.map (fL f)) J (aD (J.map (fL f)) j)))):=by have d:=FM J f j;rw[h.idx,Pl hL h.nJ b hl (OI _ _ _),Pl hL h.nJ b (by rw[AI]) d];have hd:∀k,k<L.length->0<=(L.map (ui J (aD (J.map (fL f)) j))).getD k 0/\(L.map (ui J (aD (J.map (fL f)) j))).getD k 0<(L.map (fL f)).getD k 0:=fun k a=>(by have c:=eZ (b _ (eX a));have:=h.ix j c;rw[jp (b _ (eX a))] at this;rw[h9 a,h9 a];show 0<=(aD (J.map (fL f)) j).getD (aX J (L.getD k 0)) 0/\(aD (J.map (fL f)) j).getD (aX J (L.getD k 0)) 0<((f (L.getD k 0)).length:Int);omega);rw[Nk (by rw[AI,AI]) (by rw[AI];exact hd)];congr 1;unfold AY;refine sL (by rw[AI,ff,AI]) fun k a=>?_;rw[AI] at a;have c:=eZ (b _ (eX a));rw[h9 a,JS _ (by rw[AI];exact a),h9 a];rw[show(L.map f).getD k []=f (L.getD k 0) by rw[co,zab,getD_some 0 a];rfl];unfold ui;rw[h.w _ c,jp (b _ (eX a))]
theorem getD_inj {l:U} (hn:l.Nodup) {i j:Nat} (c:i<l.length) (a:j<l.length) (e:l.getD i 0=l.getD j 0):i=j:=by have b:=kD hn c;have h2:=kD hn a;rw[e] at b;omega
theorem Jn.inj (h:Jn J DJ f) {j k:Nat} (c:j<aB (J.map (fL f))) (b:k<aB (J.map (fL f))) (e:rM J DJ f j=rM J DJ f k):j=k:=by have d:zb J f (aD (J.map (fL f)) j)=zb J f (aD (J.map (fL f)) k):=(by rw[<-h.idx,<-h.idx,e]);have l:aD (J.map (fL f)) j=aD (J.map (fL f)) k:=sL (by rw[FM,FM]) fun i a=>(by rw[FM] at a;have m:=h.ix j a;have g:=h.ix k a;have:=getD_inj (h.nd _ (eX a)) m.2 g.2 (by rw[<-h.w _ a,<-h.w _ a,d]);omega);rw[<-NQ h.gF c,l,NQ h.gF b]
theorem Jn.sur (h:Jn J DJ f) {k:Nat} (e:k<aB DJ) (hm:∀i,i<J.length->(aD DJ k).getD i 0∈f (J.getD i 0)):∃j,j<aB (J.map (fL f))/\rM J DJ f j=k:=by let I:U:=cE J.length fun i=>(aX (f (J.getD i 0)) ((aD DJ k).getD i 0):Int);have d:I.length=(J.map (fL f)).length:=(by rw[ff,AI]);have b:∀i,i<J.length->I.getD i 0=(aX (f (J.getD i 0)) ((aD DJ k).getD i 0):Int):=fun i a=>(by rw[co,qM _ a];rfl);have c:∀i,i<(J.map (fL f)).length->0<=I.getD i 0/\I.getD i 0<(J.map (fL f)).getD i 0:=fun i a=>(by rw[AI] at a;rw[b i a,h.dF a];have:=eZ (hm i a);omega);refine⟨rC (J.map (fL f)) I,QZ fun i a=>by have:=c i a;omega,?_⟩;unfold rM;rw[Nk d c];have:zb J f I=aD DJ k:=sL (by rw[OI];unfold aD;rw[ff,h.lJ]) fun i a=>(by rw[OI] at a;rw[h.w _ a,b i a,BY,jp (hm i a)]);rw[this,NQ h.g e]
end
theorem aaN (of:U) (x:Int):∀n,(pO of x n).Nodup
 |0=>zbs
 |n+1=>by simp only[pO];split;rw[zaM];refine⟨aaN of x n,by simp,fun a c b d e=>?_⟩;obtain⟨i,hi,h1,_⟩:=OG of x n a c;rw[zaU] at d;omega;exact aaN of x n
theorem Jo {of:U} {x t:Int}:t∈vals of x↔∃i:Nat,i<of.length/\t=(i:Int)/\of.getD i 0=x:= ⟨OG of x _ t,fun⟨i,b,a,c⟩=>by rw[a];exact aaO b c⟩
theorem ajz {of b:U} {x y:Int}:∀n,(∀i,i<n->(of.getD i 0=x↔b.getD i 0=y))->pO of x n=pO b y n
 |0,_=>rfl
 |n+1,h=>by simp only[pO];rw[ajz n fun i hi=>h i (by omega)];by_cases a:of.getD n 0=x;rw[ai a,ai ((h n (by omega)).1 a)];rw[aq a,aq fun e=>a ((h n (by omega)).2 e)]
theorem aw2 {of a:U} {x y:Int} (hl:of.length=a.length) (h:∀i,i<of.length->(of.getD i 0=x↔a.getD i 0=y)):vals of x=vals a y:=by unfold vals;rw[hl];exact ajz _ fun i hi=>h i (by omega)
theorem af6 {m a b c:Int} (hb:0<=b/\b<m) (hc:0<=c/\c<m) (g:(a+b)%m=0) (d:(a+c)%m=0):b=c:=by
 obtain⟨x,hx⟩:=za0 g;obtain⟨y,hy⟩:=za0 d;have e:b - c=m*(x - y):=by rw[Int.mul_sub];omega
 have hm:0<m:=by omega
 have h3:x - y<1:=zaX (a:=m) (by omega) (by omega);have h4: -1<x - y:=zaX (a:=m) (by omega) (by omega);have f:x - y=0:=by omega
 rw[f,zbi] at e;omega
theorem Zd (of:U):∀n,(sq of n).Nodup
 |0=>zbs
 |n+1=>by simp only[sq];split;rw[zaM];refine⟨Zd of n,by simp,fun a c b d e=>?_⟩;obtain⟨i,hi,h1,_⟩:=(NY of a n).1 c;rw[zaU] at d;omega;exact Zd of n
theorem abp (m:Int):∀(k:Nat) (R:List U),R.length=k->(vo m R).Nodup/\∀l∈vo m R,l.length=R.length
 |0,R,h=>by rw[zap h];exact⟨by simp[vo],fun l hl=>by simp[vo] at hl;rw[hl];rfl⟩
 |k+1,R,h=>by obtain⟨R,of,rfl⟩:∃j of,R=j++[of]:=⟨R.dropLast,R.getLast (by intro e;rw[e] at h;simp at h),(zaq _).symm⟩;obtain⟨o,d⟩:=abp m k R (by simpa using h);rw[UD];refine⟨?_,fun l hl=>?_⟩;rw[zbH,zaN];refine⟨fun a c=>?_,zat (fun{a b} c g f=>?_) o⟩;rw[zbe];refine zbI (fun{x y} i e=>i ?_) (Zd of m.toNat);have:=List.append_cancel_left e;simpa using this;intro x hx y hy e;obtain⟨u,_,rfl⟩:=zaa.1 hx;obtain⟨w,_,n⟩:=zaa.1 hy;rw[<-n] at e;exact f (List.append_inj_left e (by rw[d a c,d b g]));obtain⟨a,c,hl⟩:=zaB.1 hl;obtain⟨u,_,rfl⟩:=zaa.1 hl;rw[By,By,d a c];rfl
theorem abo (m:Int):∀(k:Nat) (R:List U),R.length=k->∀l:U,l.length=R.length->(∀i,i<R.length->l.getD i 0∈fi m (R.getD i []))->l∈vo m R
 |0,R,h,l,hl,hm=>by rw[zap h] at hl⊢;rw[zap hl];simp[vo]
 |k+1,R,h,l,hl,hm=>by obtain⟨R,of,rfl⟩:∃b of,R=b++[of]:=⟨R.dropLast,R.getLast (by intro e;rw[e] at h;simp at h),(zaq _).symm⟩;rw[By,If] at hl;obtain⟨l,x,rfl⟩:∃a x,l=a++[x]:=⟨l.dropLast,l.getLast (by intro e;rw[e] at hl;simp at hl),(zaq _).symm⟩;rw[By,If] at hl;rw[By,If] at hm;rw[UD];refine zaB.2 ⟨l,abo m k R (by simpa using h) l (by omega) fun i hi=>?_,zaa.2 ⟨x,?_,rfl⟩⟩;have:=hm i (by omega);rw[co,co,zaI (by omega),zaI (by omega),<-co,<-co] at this;exact this;have:=hm R.length (by omega);rw[co,co,zal (by omega),zal (by omega),za6,show R.length - l.length=0 by omega] at this;exact this
theorem abO (m:Int) (R:List U):(bD m R).Nodup:=(abp m R.length R rfl).1.filter _
theorem YH {D:U} {m:Int} {R:List U} (H:gm D m R) {ch:U} (a:gn R ch) (c:mX ch%m=0):ch∈bD m R:=by refine zaf.2 ⟨abo m R.length R rfl ch a.1 fun i d=>?_,decide_eq_true c⟩;have b:=a.2 i d;have h2:=H.al i (by have:=H.rl;omega) _ b;exact(NY _ _ _).2 ⟨(ch.getD i 0).toNat,by omega,by omega,b⟩
structure fR (La Da:U) (Ra:List U) (Lb Db:U) (Rb:List U) (m:Int):Prop where
 HA:gm Da m Ra
 HB:gm Db m Rb
 na:La.Nodup
 nb:Lb.Nodup
 la:La.length=Da.length
 lb:Lb.length=Db.length
 Q3:∀v,v∈La->v∈Lb->Da.getD (aX La v) 0=Db.getD (aX Lb v) 0/\∀t,t<(Ra.getD (aX La v) []).length->((Ra.getD (aX La v) []).getD t 0+(Rb.getD (aX Lb v) []).getD t 0)%m=0
def nz (La Lb:U) (m:Int) (x y:U):Prop:=∀v∈La,v∈Lb->(x.getD (aX La v) 0+y.getD (aX Lb v) 0)%m=0
instance (La Lb:U) (m:Int) (x y:U):Decidable (nz La Lb m x y):=by unfold nz;infer_instance
def j0 (La:U) (Ra:List U) (Lb:U) (Rb:List U) (x y:U) (v:Int):U:=
 if v∈La then vals (Ra.getD (aX La v) []) (x.getD (aX La v) 0) else vals (Rb.getD (aX Lb v) []) (y.getD (aX Lb v) 0)
def cC (La Da Lb Db:U):U:=(jL La Lb).map (jd La Da Lb Db)
def nG (L:U) (R:List U) (J K:U):U:=cE L.length fun i=>(R.getD i []).getD (K.getD (aX J (L.getD i 0)) 0).toNat 0
theorem Be (L:U) (R:List U) (J K:U):(nG L R J K).length=L.length:=ff _ _
theorem zy {L:U} {R:List U} {J K:U} {i:Nat} (a:i<L.length:=by omega):(nG L R J K).getD i 0=(R.getD i []).getD (K.getD (aX J (L.getD i 0)) 0).toNat 0:=by rw[co,nG,qM _ a];rfl
section
variable {La Da:U} {Ra:List U} {Lb Db:U} {Rb:List U} {m:Int}
theorem fR.yG (H:fR La Da Ra Lb Db Rb m) {v:Int} (a:v∈La):jd La Da Lb Db v=Da.getD (aX La v) 0:=ai (eZ a)
theorem fR.BV (H:fR La Da Ra Lb Db Rb m) {v:Int} (a:v∈Lb):jd La Da Lb Db v=Db.getD (aX Lb v) 0:=by by_cases h:v∈La;rw[H.yG h,(H.Q3 v h a).1];exact aq fun q=>h (sn.1 q)
theorem fR.dv (H:fR La Da Ra Lb Db Rb m) {v:Int} (a:v∈jL La Lb):1<=jd La Da Lb Db v/\jd La Da Lb Db v<=8:=by have h1:=H.la;have h2:=H.lb;rcases th a with h|h;rw[H.yG h];exact H.HA.uj (by have:=eZ h;omega);rw[H.BV h];exact H.HB.uj (by have:=eZ h;omega)
theorem fR.nJ (H:fR La Da Ra Lb Db Rb m):(jL La Lb).Nodup:=QG H.na H.nb
theorem QF (La Lb:U):(jL La Lb).length<=La.length+Lb.length:=by unfold jL;rw[By];have:=zag (fun x=> !decide (x∈La)) Lb;omega
theorem fR.lJ (H:fR La Da Ra Lb Db Rb m):(jL La Lb).length<=24:=by have:=QF La Lb;have:=H.la;have:=H.lb;have:=H.HA.eu;have:=H.HB.eu;omega
theorem fR.gJ (H:fR La Da Ra Lb Db Rb m):lH (cC La Da Lb Db):=by have:=H.lJ;refine⟨by unfold cC;rw[AI];omega,fun x hx=>?_⟩;obtain⟨v,a,rfl⟩:=zaa.1 hx;have:=H.dv a;omega
theorem fR.vc (H:fR La Da Ra Lb Db Rb m):Sub La Da (jL La Lb) (cC La Da Lb Db):= ⟨H.na,H.nJ,xm,H.la,AI ..,fun i c=>by have a:=xm (b:=Lb) _ (eX c);unfold cC;rw[h9 (eZ a),jp a,H.yG (eX c),kD H.na c],fun x hx=>by obtain⟨v,a,rfl⟩:=zaa.1 hx;exact(H.dv a).1⟩
theorem fR.vd (H:fR La Da Ra Lb Db Rb m):Sub Lb Db (jL La Lb) (cC La Da Lb Db):= ⟨H.nb,H.nJ,Ac,H.lb,AI ..,fun i c=>by have b:=Ac (a:=La) _ (eX c);unfold cC;rw[h9 (eZ b),jp b,H.BV (eX c),kD H.nb c],fun x hx=>by obtain⟨v,b,rfl⟩:=zaa.1 hx;exact(H.dv b).1⟩
theorem fR.kb (H:fR La Da Ra Lb Db Rb m) (k:Nat) {v:Int} (a:v∈jL La Lb):0<=(aD (cC La Da Lb Db) k).getD (aX (jL La Lb) v) 0/\(aD (cC La Da Lb Db) k).getD (aX (jL La Lb) v) 0<jd La Da Lb Db v:=by have b:=eZ a;have:=Nj H.gJ k (i:=aX (jL La Lb) v) (by unfold cC;rw[AI];exact b);rw[show(cC La Da Lb Db).getD (aX (jL La Lb) v) 0=jd La Da Lb Db v by unfold cC;rw[h9 b,jp a]] at this;exact this
theorem fR.ab2 (H:fR La Da Ra Lb Db Rb m) (k:Nat):gn Ra (nG La Ra (jL La Lb) (aD (cC La Da Lb Db) k)):=by have h1:=H.la;have h2:=H.HA.rl;refine⟨by rw[Be];omega,fun i hi=>?_⟩;rw[zy];have a:La.getD i 0∈La:=eX (by omega);have:=H.kb k (xm (b:=Lb) _ a);rw[H.yG a,kD H.na (by omega)] at this;have:=H.HA.row i (by omega);exact eX (by omega)
theorem fR.ab3 (H:fR La Da Ra Lb Db Rb m) (k:Nat):gn Rb (nG Lb Rb (jL La Lb) (aD (cC La Da Lb Db) k)):=by have h1:=H.lb;have h2:=H.HB.rl;refine⟨by rw[Be];omega,fun i hi=>?_⟩;rw[zy];have b:Lb.getD i 0∈Lb:=eX (by omega);have:=H.kb k (Ac (a:=La) _ b);rw[H.BV b,kD H.nb (by omega)] at this;have:=H.HB.row i (by omega);exact eX (by omega)
theorem fR.ab4 (H:fR La Da Ra Lb Db Rb m) (k:Nat):nz La Lb m (nG La Ra (jL La Lb) (aD (cC La Da Lb Db) k)) (nG Lb Rb (jL La Lb) (aD (cC La Da Lb Db) k)):=fun v a c=>by rw[zy (eZ a),zy (eZ c),jp a,jp c];have d:=H.kb k (xm (b:=Lb) _ a);rw[H.yG a] at d;have:=H.HA.row (aX La v) (by have:=eZ a;have:=H.la;omega);exact(H.Q3 v a c).2 _ (by omega)
section
variable {x y:U}
theorem fR.f_b (H:fR La Da Ra Lb Db Rb m) (hx:gn Ra x) (hy:gn Rb y) (hm:nz La Lb m x y) {v:Int} (c:v∈Lb):j0 La Ra Lb Rb x y v=vals (Rb.getD (aX Lb v) []) (y.getD (aX Lb v) 0):=by unfold j0;by_cases b:v∈La;rw[ai b];have p1:=eZ b;have p2:=eZ c;have l1:=H.la;have l2:=H.lb;have l3:=H.HA.rl;have l4:=H.HB.rl;have r1:=H.HA.row (aX La v) (by omega);have r2:=H.HB.row (aX Lb v) (by omega);obtain⟨o1,j⟩:=H.Q3 v b c;have d:=hm v b c;have n:=H.HA.al _ (by omega) _ (hx.2 (aX La v) (by omega));have g:=H.HB.al _ (by omega) _ (hy.2 (aX Lb v) (by omega));refine aw2 (by omega) fun i f=>?_;have a:=j i f;have h:=H.HA.al _ (by omega) _ (eX f);have k:=H.HB.al _ (by omega) _ (eX (l:=Rb.getD (aX Lb v) []) (i:=i) (by omega));constructor;intro e;rw[e] at a;exact af6 k g a d;intro e;rw[e] at a;rw[zaV] at a d;exact af6 h n a d;rw[aq b]
theorem fR.jn (H:fR La Da Ra Lb Db Rb m) (hx:gn Ra x) (hy:gn Rb y) (hm:nz La Lb m x y):Jn (jL La Lb) (cC La Da Lb Db) (j0 La Ra Lb Rb x y):=by have l1:=H.la;have l2:=H.lb;have l3:=H.HA.rl;have l4:=H.HB.rl;have e:∀v∈jL La Lb,∃of c,j0 La Ra Lb Rb x y v=vals of c/\c∈of/\(of.length:Int)=jd La Da Lb Db v:=fun v a=>(by by_cases d:v∈La;have p1:=eZ d;exact⟨_,_,ai d,hx.2 _ (by omega),by rw[H.yG d];exact H.HA.row _ (by omega)⟩;have g:=(th a).resolve_left d;have p1:=eZ g;exact⟨_,_,aq d,hy.2 _ (by omega),by rw[H.BV g];exact H.HB.row _ (by omega)⟩);refine⟨H.nJ,AI ..,H.gJ,fun v a=>?_,fun v a=>?_,fun i j t k=>?_⟩;obtain⟨of,c,b,f,h⟩:=e v a;rw[b];have:=H.dv a;have:=ajA f;have:=OH of c;omega;obtain⟨of,c,b,f,h⟩:=e v a;rw[b];exact aaN _ _ _;obtain⟨of,c,b,f,h⟩:=e _ (eX j);rw[b] at k;obtain⟨q,q1,q2,_⟩:=Jo.1 k;have:(cC La Da Lb Db).getD i 0=jd La Da Lb Db ((jL La Lb).getD i 0):=(by unfold cC;rw[h9 j]);omega
theorem fR.YA (H:fR La Da Ra Lb Db Rb m) (hx:gn Ra x):La.map (j0 La Ra Lb Rb x y)=m6 Ra x/\La.map (fL (j0 La Ra Lb Rb x y))=bw Ra x:=by have l1:=H.la;have l3:=H.HA.rl;have hl:=hx.1;have e:∀i,i<La.length->j0 La Ra Lb Rb x y (La.getD i 0)=vals (Ra.getD i []) (x.getD i 0):=fun i a=>(by unfold j0;rw[ai (eX a),kD H.na a]);constructor;rw[<-Ib (j0 La Ra Lb Rb x y) La 0,show La.length=x.length by omega];exact rP fun i a=>e i (by omega);refine sL (by rw[AI,Vy];omega) fun i a=>?_;rw[AI] at a;rw[h9 a,EX];unfold fL;rw[e i a]
theorem fR.YB (H:fR La Da Ra Lb Db Rb m) (hx:gn Ra x) (hy:gn Rb y) (hm:nz La Lb m x y):Lb.map (j0 La Ra Lb Rb x y)=m6 Rb y/\Lb.map (fL (j0 La Ra Lb Rb x y))=bw Rb y:=by have l1:=H.lb;have l3:=H.HB.rl;have hl:=hy.1;have e:∀i,i<Lb.length->j0 La Ra Lb Rb x y (Lb.getD i 0)=vals (Rb.getD i []) (y.getD i 0):=fun i a=>(by rw[H.f_b hx hy hm (eX a),kD H.nb a]);constructor;rw[<-Ib (j0 La Ra Lb Rb x y) Lb 0,show Lb.length=y.length by omega];exact rP fun i a=>e i (by omega);refine sL (by rw[AI,Vy];omega) fun i a=>?_;rw[AI] at a;rw[h9 a,EX];unfold fL;rw[e i a]
theorem fR.dJ (H:fR La Da Ra Lb Db Rb m) (hx:gn Ra x) (hy:gn Rb y) (hm:nz La Lb m x y):cC La (bw Ra x) Lb (bw Rb y)=(jL La Lb).map (fL (j0 La Ra Lb Rb x y)):=by refine zav fun v c=>?_;have l1:=H.la;have l2:=H.lb;have l3:=H.HA.rl;have l4:=H.HB.rl;have h1:=hx.1;have h2:=hy.1;unfold jd fL;by_cases a:v∈La;have p1:=eZ a;rw[ai p1,EX];unfold j0;rw[ai a];have b:=(th c).resolve_left a;have p1:=eZ b;rw[aq fun q=>a (sn.1 q),EX];unfold j0;rw[aq a]
theorem fR.ala (H:fR La Da Ra Lb Db Rb m) (hx:gn Ra x) (hy:gn Rb y) (hm:nz La Lb m x y) (j:Nat): nG La Ra (jL La Lb) (aD (cC La Da Lb Db) (rM (jL La Lb) (cC La Da Lb Db) (j0 La Ra Lb Rb x y) j))=x/\nG Lb Rb (jL La Lb) (aD (cC La Da Lb Db) (rM (jL La Lb) (cC La Da Lb Db) (j0 La Ra Lb Rb x y) j))=y:=by have N:=H.jn hx hy hm;have l1:=H.la;have l2:=H.lb;have l3:=H.HA.rl;have l4:=H.HB.rl;have h1:=hx.1;have h2:=hy.1;rw[N.idx];constructor;refine sL (by rw[Be];omega) fun i c=>?_;rw[Be] at c;have d:La.getD i 0∈La:=eX c;have e:=N.aaT j (eZ (xm (b:=Lb) _ d));rw[jp (xm _ d)] at e;rw[show j0 La Ra Lb Rb x y (La.getD i 0)=_ from ai d,kD H.na c] at e;obtain⟨q,h,f,g⟩:=Jo.1 e;rw[zy c,f,BY,g];refine sL (by rw[Be];omega) fun i c=>?_;rw[Be] at c;have d:Lb.getD i 0∈Lb:=eX c;have e:=N.aaT j (eZ (Ac (a:=La) _ d));rw[jp (Ac _ d)] at e;rw[H.f_b hx hy hm d,kD H.nb c] at e;obtain⟨q,h,f,g⟩:=Jo.1 e;rw[zy c,f,BY,g]
end
theorem fR.apl (H:fR La Da Ra Lb Db Rb m) (k:Nat) {i:Nat} (b:i<(jL La Lb).length): (aD (cC La Da Lb Db) k).getD i 0∈j0 La Ra Lb Rb (nG La Ra (jL La Lb) (aD (cC La Da Lb Db) k)) (nG Lb Rb (jL La Lb) (aD (cC La Da Lb Db) k)) ((jL La Lb).getD i 0):=by have e:=eX b;have c:=H.kb k e;rw[kD H.nJ b] at c;have l1:=H.la;have l2:=H.lb;unfold j0;by_cases a:(jL La Lb).getD i 0∈La;rw[ai a];have p1:=eZ a;have:=H.HA.row _ (show aX La ((jL La Lb).getD i 0)<Da.length by omega);rw[H.yG a] at c;refine Jo.2 ⟨((aD (cC La Da Lb Db) k).getD i 0).toNat,by omega,by omega,?_⟩;rw[zy p1,jp a,kD H.nJ b];rw[aq a];have d:=(th e).resolve_left a;have p1:=eZ d;have:=H.HB.row _ (show aX Lb ((jL La Lb).getD i 0)<Db.length by omega);rw[H.BV d] at c;refine Jo.2 ⟨((aD (cC La Da Lb Db) k).getD i 0).toNat,by omega,by omega,?_⟩;rw[zy p1,jp d,kD H.nJ b]
def vK (La Da:U) (Ra:List U) (Lb Db:U) (Rb:List U) (m:Int) (x y:U):List Nat:=
 if nz La Lb m x y then(zaC (aB ((jL La Lb).map (fL (j0 La Ra Lb Rb x y))))).map (rM (jL La Lb) (cC La Da Lb Db) (j0 La Ra Lb Rb x y)) else[]
def vJ (La Da:U) (Ra:List U) (Lb Db:U) (Rb:List U) (m:Int) (Y:List U) (x:U):List Nat:=Y.flatMap (vK La Da Ra Lb Db Rb m x)
def mG (La Da:U) (Ra:List U) (Lb Db:U) (Rb:List U) (m:Int) (X Y:List U):List Nat:=X.flatMap (vJ La Da Ra Lb Db Rb m Y)
theorem af1 {X Y:List U} {k:Nat}:k∈mG La Da Ra Lb Db Rb m X Y↔∃x∈X,∃y∈Y,nz La Lb m x y/\∃j,j<aB ((jL La Lb).map (fL (j0 La Ra Lb Rb x y)))/\rM (jL La Lb) (cC La Da Lb Db) (j0 La Ra Lb Rb x y) j=k:=by unfold mG;rw[zaB];refine exists_congr fun x=>and_congr_right fun _=>?_;unfold vJ;rw[zaB];refine exists_congr fun y=>and_congr_right fun _=>?_;unfold vK;by_cases h:nz La Lb m x y;rw[ai h,zaa];simp only[zae];exact⟨fun⟨j,b,a⟩=>⟨h,j,b,a⟩,fun⟨_,j,b,a⟩=>⟨j,b,a⟩⟩;rw[aq h];exact⟨fun h=>(zbn h).elim,fun⟨h',_⟩=>absurd h' h⟩
theorem fR.abc (H:fR La Da Ra Lb Db Rb m) {k:Nat} (h:k∈mG La Da Ra Lb Db Rb m (bD m Ra) (bD m Rb)):k<aB (cC La Da Lb Db):=by obtain⟨x,hx,y,hy,hm,j,_,rfl⟩:=af1.1 h;exact(H.jn (vz H.HA hx) (vz H.HB hy) hm).lt j
theorem fR.abd (H:fR La Da Ra Lb Db Rb m):(mG La Da Ra Lb Db Rb m (bD m Ra) (bD m Rb)).Nodup:=by unfold mG;rw[zbH,zaN];have one:∀x∈bD m Ra,∀y∈bD m Rb,∀k∈vK La Da Ra Lb Db Rb m x y,nG La Ra (jL La Lb) (aD (cC La Da Lb Db) k)=x/\nG Lb Rb (jL La Lb) (aD (cC La Da Lb Db) k)=y:=fun x hx y hy k c=>(by unfold vK at c;split at c;rename_i hm;obtain⟨j,_,rfl⟩:=zaa.1 c;exact H.ala (vz H.HA hx) (vz H.HB hy) hm j;cases c);refine⟨fun x hx=>?_,zat (fun{a b} h f d=>?_) (abO m Ra)⟩;unfold vJ;rw[zaN];refine⟨fun y hy=>?_,zat (fun{a b} h f d=>?_) (abO m Rb)⟩;unfold vK;split;rename_i hm;rw[zbe];have N:=H.jn (vz H.HA hx) (vz H.HB hy) hm;exact zat (fun{a b} h f d e=>d (N.inj (zae.1 h) (zae.1 f) e)) zbm;exact zbJ;intro k c l hl e;have i:=(one x hx a h k c).2;have g:=(one x hx b f l hl).2;rw[<-e] at g;exact d (i.symm.trans g);intro k c l hl e;obtain⟨y,hy,c⟩:=zaB.1 c;obtain⟨z,n,hl⟩:=zaB.1 hl;have i:=(one a h y hy k c).1;have g:=(one b f z n l hl).1;rw[<-e] at g;exact d (i.symm.trans g)
theorem fR.ajQ (H:fR La Da Ra Lb Db Rb m) {k:Nat} (a:k<aB (cC La Da Lb Db)) (hn:k∉mG La Da Ra Lb Db Rb m (bD m Ra) (bD m Rb)): ¬mX (nG La Ra (jL La Lb) (aD (cC La Da Lb Db) k))%m=0\/¬mX (nG Lb Rb (jL La Lb) (aD (cC La Da Lb Db) k))%m=0:=by rw[<-Decidable.not_and_iff_or_not];rintro⟨c,b⟩;refine hn (af1.2 ⟨_,YH H.HA (H.ab2 k) c,_,YH H.HB (H.ab3 k) b,H.ab4 k,?_⟩);exact(H.jn (H.ab2 k) (H.ab3 k) (H.ab4 k)).sur a fun i d=>H.apl k d
theorem fR.abb (H:fR La Da Ra Lb Db Rb m):(mG La Da Ra Lb Db Rb m (bD m Ra) (bD m Rb)).length<=aB (cC La Da Lb Db):=by have:=zau H.abd (l₂:=zaC (aB (cC La Da Lb Db))) fun k a=>zae.2 (H.abc a);rw[zar] at this;exact this
end
theorem Z0 {f g:Nat->Int}:∀n,(∀i,i<n->f i=g i)->sm n f=sm n g
 |0,_=>rfl
 |n+1,h=>by simp only[sm];rw[Z0 n fun i hi=>h i (by omega),h n (by omega)]
theorem LD {r:Rg} {L D A:U} {m:Int} {R:List U} (h:qq r (L,D,A) (m,R)=true) {n:Nat} (hn:n<aB D) (d:qm D (m,R) n=true):kH r A n=dU r:=by obtain⟨a,h2,b⟩:=of_decide_eq_true h;obtain⟨hr,_,_,_,c,_,_,_,_⟩:=j7 a;exact(Pf hr c).1 b n hn d
theorem Lu {L D J a:U} {R:List U} (S:Sub L D J a) (hR:R.length=D.length) (gJ:lH a) (k:Nat): sm D.length (hH R (aD D (nf L D J (aD a k))))=mX (nG L R J (aD a k)):=by have c:(aD a k).length=J.length:=(by unfold aD;rw[ff,S.lJ]);have hl:=S.l;have hd:∀i,i<D.length->0<=(L.map (ui J (aD a k))).getD i 0/\(L.map (ui J (aD a k))).getD i 0<D.getD i 0:=fun i f=>(by have e:=S.s _ (eX (l:=L) (i:=i) (by omega));have g:=eZ e;have b:=Nj gJ k (i:=aX J (L.getD i 0)) (by rw[S.lJ];exact g);rw[S.d i (by omega)] at b;rw[h9 (by omega)];exact b);rw[Pl S.nL S.nJ S.s S.l c,Nk (by rw[AI];exact S.l) hd];unfold mX;rw[Be,hl];refine Z0 _ fun i f=>?_;rw[zy];unfold hH;rw[h9 (by omega)];rfl
def GM (r:Rg) (A B:U) (oa ob:Nat->Nat) (k:Nat):U:=pK r (kH r A (oa k)) (kH r B (ob k))
def qP (r:Rg) (La Da A Lb Db B:U):Nat->U:=GM r A B (fun k=>nf La Da (jL La Lb) (aD (cC La Da Lb Db) k)) (fun k=>nf Lb Db (jL La Lb) (aD (cC La Da Lb Db) k))
def uT (La Da Lb Db S DS:U) (k:Nat):Nat:=nf S DS (jL La Lb) (aD (cC La Da Lb Db) k)
section
variable {r:Rg} {La Da A Lb Db B:U} {Ra Rb:List U} {m:Int}
theorem Kx (a:Sub La Da (jL La Lb) (cC La Da Lb Db)) (SB:Sub Lb Db (jL La Lb) (cC La Da Lb Db)) (ta:f7 r (La,Da,A)=true) (tb:f7 r (Lb,Db,B)=true) (k:Nat):eD r (qP r La Da A Lb Db B k)=true:= alH (j7 ta).1 (zB ta (a.lt k)) (zB tb (SB.lt k))
theorem fR.awP (H:fR La Da Ra Lb Db Rb m) (ca:qq r (La,Da,A) (m,Ra)=true) (cb:qq r (Lb,Db,B) (m,Rb)=true) {k:Nat} (a:k<aB (cC La Da Lb Db)) (hn:k∉mG La Da Ra Lb Db Rb m (bD m Ra) (bD m Rb)):qP r La Da A Lb Db B k=dU r:=by have ta:=(of_decide_eq_true ca).1;have tb:=(of_decide_eq_true cb).1;have hr:=(j7 ta).1;unfold qP GM;rcases H.ajQ a hn with h|h;rw[LD ca (H.vc.lt k) (decide_eq_true (by rw[Lu H.vc H.HA.rl H.gJ k];exact h)),zero_mul hr (zB tb (H.vd.lt k))];rw[LD cb (H.vd.lt k) (decide_eq_true (by rw[Lu H.vd H.HB.rl H.gJ k];exact h)),mul_zero hr (zB ta (H.vc.lt k))]
theorem fR.sum (H:fR La Da Ra Lb Db Rb m) (ca:qq r (La,Da,A) (m,Ra)=true) (cb:qq r (Lb,Db,B) (m,Rb)=true) (b:Nat->Nat) (n:Nat): SL r (vQ r (qP r La Da A Lb Db B) b n) (mG La Da Ra Lb Db Rb m (bD m Ra) (bD m Rb))=kV r (qP r La Da A Lb Db B) b n (aB (cC La Da Lb Db)):=by have ta:=(of_decide_eq_true ca).1;have tb:=(of_decide_eq_true cb).1;have hr:=(j7 ta).1;have c:=Kx H.vc H.vd ta tb;rw[HI hr c];refine ajZ hr (MD hr c b n) H.abd (fun k a=>H.abc a) fun k a hn=>?_;unfold vQ;split;exact H.awP ca cb a hn;rfl
end
def CP (r:Rg) (g t:Nat->U) (off:Nat->Nat):Nat->Nat->U
 |0=>g
 |n+1=>fun a=>if a=off n then g9 r (CP r g t off n a) (t n) else CP r g t off n a
theorem UA {r:Rg} {g t:Nat->U} {off:Nat->Nat} {a:Nat}:∀n,(∀i,i<n->off i≠a)->CP r g t off n a=g a
 |0,_=>rfl
 |n+1,h=>by
  show(if a=off n then _ else CP r g t off n a)=g a
  rw[aq (Ne.symm (h n (by omega))),UA n fun i hi=>h i (by omega)]
theorem abm {r:Rg} {g t:Nat->U} {off:Nat->Nat} {N:Nat} (a:∀i j,i<N->j<N->off i=off j->i=j) {i:Nat}:∀n,n<=N->i<n->CP r g t off n (off i)=g9 r (g (off i)) (t i)
 |n+1,hn,h=>by
  show(if off i=off n then g9 r (CP r g t off n (off i)) (t n) else CP r g t off n (off i))=_
  by_cases e:i=n
  ·subst e;rw[ai rfl,UA i fun j hj e=>by have:=a j i (by omega) (by omega) e;omega]
  ·rw[aq fun q=>e (a i n (by omega) (by omega) q)];exact abm a n (by omega) (by omega)
theorem Em {α:Type} (x:α):cr [x] 0 1=some [x]:=rfl
theorem VR {P:Int->Bool} (l:U) (i:Nat):((l.take i).filter P).length<=l.length:=by have:=zag P (l.take i);rw[OF] at this;omega
theorem VS {P:Int->Bool} {l:U} {i:Nat} (h:i<l.length):(l.take (i+1)).filter P=if P (l.getD i 0)=true then(l.take i).filter P++[l.getD i 0] else(l.take i).filter P:=by have e:l.take (i+1)=l.take i++[l.getD i 0]:=(by rw[zbf,mP h];rfl);rw[e,List.filter_append];clear e;generalize l.getD i 0=x;cases hp:P x with|true=>rw[ai rfl];simp[zbF,hp]|false=>rw[aq (by simp)];simp[zbF,hp]
theorem Yw {X Y:Type} {f:X->Option (X⊕Y)} (P:Nat->Prop) [DecidablePred P] (c:Nat) (mk:Nat->X) (a fm:Y) (h:∀i,i<c->f (mk i)=some (if P i then .inl (mk (i+1)) else .inr a))
  (k:f (mk c)=some (.inr fm)) {g:X} (l:g=mk 0) {N:Nat} (hN:c<N):bS N f g=some (if∀i,i<c->P i then fm else a):=by
 obtain⟨n,hn,b,j⟩:=GG P c;rw[gd mk (r:=if∀i,i<c->P i then fm else a) n (fun i m=>by rw[h i (by omega),ai (b i m)]) ?_ l (by omega)]
 by_cases e:n=c
 ·subst e;rw[ai b,k]
 ·have d:=j.resolve_left e;rw[aq fun q=>d (q n (by omega)),h n (by omega),aq d]
theorem HY {l:U} {v:Int} (h:v∈l):mO l v=((aX l v:Nat):Int):=ai (eZ h)
theorem LS {l:U} {v:Int} (h:v∉l):mO l v= -1:=aq fun q=>h (sn.1 q)
theorem aqh {La Da Lb Db:U} (hn:La.Nodup) (hl:La.length=Da.length):La.map (jd La Da Lb Db)=Da:=by refine sL (by rw[AI,hl]) fun i a=>?_;rw[AI] at a;rw[h9 a];unfold jd;rw[kD hn a,ai a]
theorem aue {n:Nat} (f:Nat->Int) (i:Nat) (x:Int) (hx:x=f i):br (cE n (fun q=>if q<i then f q else 0)) i x=cE n (fun q=>if q<i+1 then f q else 0):=by rw[JT];refine nB fun q _=>?_;by_cases e:q=i;rw[ai e,ai (by omega),hx,e];rw[aq e];by_cases a:q<i;rw[ai a,ai (by omega)];rw[aq a,aq (by omega)]
def TG (NN:Nat):(U×U)->(Option U):=
 (fun(l0,l1)=>
 bN ((aU 0 0 (aa (([]:U)))).ae (fun _=>
 bS NN (fun((l2,l3,i4,i5),l6)=>
 aA (cH i5 i4)
 ((cg l3 i5).ae (fun i7=>
 (tV (l2,i7)).ae (fun b8=>
 aA (b8)
 (ah l6 (
 (cr ((i7::[])) 0 1).ae (fun l9=>
 (jT (au (aa l6) (aa l9)) 8).ae (fun _=>
 (aU 0 (au (aa l6) (aa l9)) (aa (ci l6 l9))).ae (fun _=>
 some (wt ((l2,l3,i4,bt .i64 i5 1),ci l6 l9)))))))
 (ah l6 (
 some (wt ((l2,l3,i4,bt .i64 i5 1),l6)))))))
 ((ah l6 (
 some (wt l6))).ae (fun cP=>
 some (AT cP))))
 ((l1,l0,aK (aa l0),(0:Int)),([]:U))))
 (fun ed=>
 (dO ed (aa ed)).ae (fun eu=>
 some eu)))
def KM:=TG bW
theorem apr (l d9:U) (h:l.length<=1000) (hk:d9.length<=1000):KM (l,d9)=some (l.filter fun x=>decide (x∈d9)):=by simp only[KM,TG,ah];rw[show aU 0 0 (aa ([]:U))=some () from rfl];(try simp only[bM]);rw[gd (fun i=>((d9,l,aK (aa l),(i:Int)),(l.take i).filter fun x=>decide (x∈d9))) l.length ?a1 ?a2 ?a3 dY];(case a1=>intro i b;dsimp only;have hlen:=VR (P:=fun x=>decide (x∈d9)) l i;rw[be (dt (by show(i:Int)<(l.length:Int);omega)),dw,mP b];(try simp only[bM]);rw[show tV (d9,l.getD i 0)=some (decide (l.getD i 0∈d9)) from ai (by dsimp only;omega),VS b,nY];(try simp only[bM]);by_cases a:l.getD i 0∈d9;rw[decide_eq_true a,mJ,ai rfl];(try simp only[bE,bM]);rw[Em];(try simp only[bM]);rw[mr (by simp only[au,aa,zak,zao,fe];omega)];(try simp only[bM]);rw[sM];rfl;rw[decide_eq_false a,jR,aq (by simp)];try simp only[bE,bM]);(case a2=>dsimp only;rw[aW (eB (by show(l.length:Int)<=(l.length:Int);omega)),zay];(try simp only[bE,bM]);try rfl);(case a3=>rfl);simp only[bN,GB,kF,bM]
def TF (NN:Nat):(U×U)->(Option U):=
 (fun(l0,l1)=>
 (pP l0).ae (fun l2=>
 bN (ah l2 (
 bS NN (fun((l3,l4,i5,i6),l7)=>
 aA (cH i6 i5)
 ((cg l4 i6).ae (fun i8=>
 (tV (l3,i8)).ae (fun b9=>
 aA (de b9)
 (ah l7 (
 (cr ((i8::[])) 0 1).ae (fun cP=>
 (jT (au (aa l7) (aa cP)) 8).ae (fun _=>
 (aU 0 (au (aa l7) (aa cP)) (aa (ci l7 cP))).ae (fun _=>
 some (wt ((l3,l4,i5,bt .i64 i6 1),ci l7 cP)))))))
 (ah l7 (
 some (wt ((l3,l4,i5,bt .i64 i6 1),l7)))))))
 ((ah l7 (
 some (wt l7))).ae (fun ed=>
 some (AT ed))))
 ((l0,l1,aK (aa l1),(0:Int)),l2)))
 (fun eu=>
 (dO eu (aa eu)).ae (fun eY=>
 some eY))))
def GX:=TF bW
theorem afq (a b:U) (h:a.length<=1000) (hb:b.length<=1000):GX (a,b)=some (jL a b):=by simp only[GX,TF,ah];rw[show pP a=some a from ai (by omega)];(try simp only[bM,bE]);rw[gd (fun i=>((a,b,aK (aa b),(i:Int)),a++(b.take i).filter fun x=> !decide (x∈a))) b.length ?a1 ?a2 ?a3 dY];(case a1=>intro i d;dsimp only;have hlen:=VR (P:=fun x=> !decide (x∈a)) b i;rw[be (dt (by show(i:Int)<(b.length:Int);omega)),dw,mP d];(try simp only[bM]);rw[show tV (a,b.getD i 0)=some (decide (b.getD i 0∈a)) from ai (by dsimp only;omega),VS d,nY];(try simp only[bM]);by_cases c:b.getD i 0∈a;rw[decide_eq_true c,show de true=false from rfl,jR,aq (by simp)];(try simp only[bE,bM]);rw[decide_eq_false c,show de false=true from rfl,mJ,ai (show(!false)=true from rfl)];(try simp only[bE,bM]);rw[Em];(try simp only[bM]);rw[mr (by simp only[au,aa,zak,zao,By,fe];omega)];(try simp only[bM]);rw[sM];simp only[bM,ci,zah]);(case a2=>dsimp only;rw[aW (eB (by show(b.length:Int)<=(b.length:Int);omega)),zay];(try simp only[bE,bM]);try rfl);(case a3=>rw[List.take_zero,List.filter_nil,za7];rfl);simp only[bN,GB,kF,bM];try rfl
def TE (NN:Nat):((U×(U×U))×(U×(U×U)))->(Option (U×(U×Bool))):=
 (fun((l0,l1,l2),l3,l4,l5)=>
 (GX (l0,l3)).ae (fun l6=>
 (j6 (aK (aa l6)) (aK (aa l6)) 8).ae (fun k7=>
 bN (ah l6 (
 (aU 0 k7 (aa (cJ k7 (0:Int)))).ae (fun _=>
 ah l6 (
 bS NN (fun((i8,i9),(cP,ed,eu),(eY,dh,dH),dM,dj)=>
 aA (cH i9 i8)
 ((dg i9 (aa dM)).ae (fun Ad=>
 (bL dM (au 0 Ad)).ae (fun gD=>
 (rG ((cP,ed,eu),gD)).ae (fun eO=>
 (rG ((eY,dh,dH),gD)).ae (fun ga=>
 aA (gZ (0:Int) eO)
 (aA (gZ (0:Int) ga)
 ((cg ed eO).ae (fun iP=>
 (cg dh ga).ae (fun gv=>
 aA (iQ iP gv)
 (some (AT (AT (([]:U),([]:U),false))))
 (aA (gZ (0:Int) eO)
 ((cg ed eO).ae (fun ky=>
 (dg i9 (aa dj)).ae (fun FQ=>
 (bL dj (au 0 FQ)).ae (fun ld=>
 ah dM (
 (aU 0 (aa dj) (aa (br dj (au 0 FQ) ky))).ae (fun _=>
 ah dM (
 some (wt ((i8,bt .i64 i9 1),(cP,ed,eu),(eY,dh,dH),dM,br dj (au 0 FQ) ky)))))))))
 ((cg dh ga).ae (fun iF=>
 (dg i9 (aa dj)).ae (fun Ns=>
 (bL dj (au 0 Ns)).ae (fun te=>
 ah dM (
 (aU 0 (aa dj) (aa (br dj (au 0 Ns) iF))).ae (fun _=>
 ah dM (
 some (wt ((i8,bt .i64 i9 1),(cP,ed,eu),(eY,dh,dH),dM,br dj (au 0 Ns) iF)))))))))))))
 (aA (gZ (0:Int) eO)
 ((cg ed eO).ae (fun np=>
 (dg i9 (aa dj)).ae (fun FT=>
 (bL dj (au 0 FT)).ae (fun rk=>
 ah dM (
 (aU 0 (aa dj) (aa (br dj (au 0 FT) np))).ae (fun _=>
 ah dM (
 some (wt ((i8,bt .i64 i9 1),(cP,ed,eu),(eY,dh,dH),dM,br dj (au 0 FT) np)))))))))
 ((cg dh ga).ae (fun Dt=>
 (dg i9 (aa dj)).ae (fun tj=>
 (bL dj (au 0 tj)).ae (fun od=>
 ah dM (
 (aU 0 (aa dj) (aa (br dj (au 0 tj) Dt))).ae (fun _=>
 ah dM (
 some (wt ((i8,bt .i64 i9 1),(cP,ed,eu),(eY,dh,dH),dM,br dj (au 0 tj) Dt)))))))))))
 (aA (gZ (0:Int) eO)
 ((cg ed eO).ae (fun nO=>
 (dg i9 (aa dj)).ae (fun wb=>
 (bL dj (au 0 wb)).ae (fun nq=>
 ah dM (
 (aU 0 (aa dj) (aa (br dj (au 0 wb) nO))).ae (fun _=>
 ah dM (
 some (wt ((i8,bt .i64 i9 1),(cP,ed,eu),(eY,dh,dH),dM,br dj (au 0 wb) nO)))))))))
 ((cg dh ga).ae (fun uy=>
 (dg i9 (aa dj)).ae (fun I2=>
 (bL dj (au 0 I2)).ae (fun lf=>
 ah dM (
 (aU 0 (aa dj) (aa (br dj (au 0 I2) uy))).ae (fun _=>
 ah dM (
 some (wt ((i8,bt .i64 i9 1),(cP,ed,eu),(eY,dh,dH),dM,br dj (au 0 I2) uy)))))))))))))))
 ((ah dM (
 ah dj (
 some (wt (dM,dj))))).ae (fun ig=>
 some (AT ig))))
 ((aK (aa l6),(0:Int)),(l0,l1,l2),(l3,l4,l5),l6,cJ k7 (0:Int))))))
 (fun(gR,iU)=>
 (dO gR (aa gR)).ae (fun wj=>
 (dO iU (aa iU)).ae (fun pI=>
 some (wj,pI,true)))))))
def Eu:=TE bW
theorem ape {La Da A Lb Db B:U} (ha:La.length=Da.length) (hb:Lb.length=Db.length) (Mc:La.length<=12) (axl:Lb.length<=12) (s:∀v,v∈La->v∈Lb->Da.getD (aX La v) 0=Db.getD (aX Lb v) 0):
  Eu ((La,Da,A),Lb,Db,B)=some (jL La Lb,(jL La Lb).map (jd La Da Lb Db),true):=by
 simp only[Eu,TE,ah];rw[afq La Lb (by omega) (by omega)]
 try simp only[bM]
 have hl:(jL La Lb).length<=24:=by
  unfold jL;rw[By];have:=zag (fun x=> !decide (x∈La)) Lb;omega
 have p:∀q,q<(jL La Lb).length->(jL La Lb).getD q 0∈La\/(jL La Lb).getD q 0∈Lb:=fun q m=>th (eX m);generalize jL La Lb=S at hl p;rw[si (by simp only[aa,fe];omega)]
 try simp only[bM,bE]
 rw[show aU 0 (aa S) (aa (cJ (aa S) (0:Int)))=some () from ng (by simp[aa,cJ])]
 try simp only[bM]
 rw[gd (fun i=>((aK (aa S),(i:Int)),(La,Da,A),(Lb,Db,B),S,cE S.length (fun q=>if q<i then jd La Da Lb Db (S.getD q 0) else 0))) S.length ?a1 ?a2 ?a3 dY]
 case a1=>
  intro i a;dsimp only
  rw[be (dt (by show(i:Int)<(S.length:Int);omega)),kU (by show i<S.length;omega)]
  try simp only[bM]
  rw[gW,show bL S i=some (S.getD i 0) from mP a]
  try simp only[bM]
  generalize hv:S.getD i 0=v;rw[show rG ((La,Da,A),v)=some (mO La v) from ai (by dsimp only;omega),show rG ((Lb,Db,B),v)=some (mO Lb v) from ai (by dsimp only;omega)]
  try simp only[bM]
  have n:∀x,x=jd La Da Lb Db v->br (cE S.length (fun q=>if q<i then jd La Da Lb Db (S.getD q 0) else 0)) (au 0 i) x=cE S.length (fun q=>if q<i+1 then jd La Da Lb Db (S.getD q 0) else 0):=fun x hx=>by
   rw[gW];exact aue (fun q=>jd La Da Lb Db (S.getD q 0)) i x (by rw[hx,hv])
  have l:∀x:Int,bL (cE S.length (fun q=>if q<i then jd La Da Lb Db (S.getD q 0) else 0)) (au 0 i)=some (if i<i then jd La Da Lb Db (S.getD i 0) else 0):=fun _=>by rw[gW];exact Dd _ a
  have hm:=p i a;rw[hv] at hm;by_cases g:v∈La
  ·have p1:=sn.2 g;have j:mO La v=((aX La v:Nat):Int):=ai p1;have o:cg Da ((aX La v:Nat):Int)=some (Da.getD (aX La v) 0):=by rw[dw,mP]
   have f:jd La Da Lb Db v=Da.getD (aX La v) 0:=ai p1;have r:gZ 0 ((aX La v:Nat):Int)=true:=qI;rw[j,r,mJ];by_cases d:v∈Lb
   ·have b:=sn.2 d;have c:mO Lb v=((aX Lb v:Nat):Int):=ai b;have k:cg Db ((aX Lb v:Nat):Int)=some (Db.getD (aX Lb v) 0):=by rw[dw,mP]
    rw[c,show gZ 0 ((aX Lb v:Nat):Int)=true from qI,mJ,o]
    try simp only[bM]
    rw[k]
    try simp only[bM]
    rw[aW (rB (s v g d)),mJ,Ba _ a]
    try simp only[bM]
    rw[l 0]
    try simp only[bM]
    rw[n _ f.symm,zH]
    try simp only[bM,bE]
    rw[nY]
   ·have b:¬aX Lb v<Lb.length:=fun h=>d (sn.1 h);have c:mO Lb v= -1:=aq b;rw[c,show gZ 0 (-1:Int)=false from rfl,jR,mJ,o]
    try simp only[bM]
    rw[Ba _ a]
    try simp only[bM]
    rw[l 0]
    try simp only[bM]
    rw[n _ f.symm,zH]
    try simp only[bM,bE]
    rw[nY]
  ·have p1:¬aX La v<La.length:=fun h=>g (sn.1 h);have j:mO La v= -1:=aq p1;have d:v∈Lb:=hm.resolve_left g;have b:=sn.2 d;have c:mO Lb v=((aX Lb v:Nat):Int):=ai b;have k:cg Db ((aX Lb v:Nat):Int)=some (Db.getD (aX Lb v) 0):=by rw[dw,mP]
   have f:jd La Da Lb Db v=Db.getD (aX Lb v) 0:=aq p1;rw[j,c,show gZ 0 (-1:Int)=false from rfl,jR,jR,k]
   try simp only[bM]
   rw[Ba _ a]
   try simp only[bM]
   rw[l 0]
   try simp only[bM]
   rw[n _ f.symm,zH]
   try simp only[bM,bE]
   rw[nY]
 case a2=>
  dsimp only
  rw[aW (eB (by show(S.length:Int)<=(S.length:Int);omega))]
  try simp only[bE,bM]
  try rfl
 case a3=>
  rw[Ru];rfl
 have e:cE S.length (fun q=>if q<S.length then jd La Da Lb Db (S.getD q 0) else 0)=S.map (jd La Da Lb Db):=by
  rw[<-aua];exact nB fun q m=>ai m
 rw[e];simp only[bN,GB,kF,bM]
theorem agM {D:U} (h:∀x∈D,1<=x/\x<=8) (hl:D.length<=1000) (a:aB D<=1073741824):tW D=some (aB D:Int):=by rw[<-tE (D:=D) fun x hx=>(h x hx).1];exact ai ⟨.inr ⟨hl,a⟩,h⟩
theorem agY {f:Int->Int} {p:Int->Bool}:∀{l:U},(∀v∈l,1<=f v)->aB ((l.filter p).map f)<=aB (l.map f)
 |[],_=>zad _
 |v::l,h=>by
  have a:=agY (f:=f) (p:=p) (l:=l) fun v b=>h v (by simp[b]);have h1:=h v (by simp);cases hp:p v with
  |true=>rw[zaJ hp];simp only[zaH,aB];exact Nat.mul_le_mul_left _ a
  |false=>
   rw[zaK (by rw[hp];decide)];simp only[zaH,aB]
   calc aB ((l.filter p).map f)<=aB (l.map f):=a
    _=1*aB (l.map f):=(zac _).symm
    _<=(f v).toNat*aB (l.map f):=IN _ (by omega)
structure j8 (La Da Lb Db:U):Prop where
 xa:mh La Da=true
 xb:mh Lb Db=true
 pa:aB Da<=4096
 pb:aB Db<=4096
 c:∀v,v∈La->v∈Lb->Da.getD (aX La v) 0=Db.getD (aX Lb v) 0
section
variable {La Da Lb Db:U}
theorem j8.dv (H:j8 La Da Lb Db) {v:Int} (b:v∈jL La Lb):1<=jd La Da Lb Db v/\jd La Da Lb Db v<=8:=by have l1:=(ku H.xa).2.1;have l2:=(ku H.xb).2.1;unfold jd;by_cases a:v∈La;have:=eZ a;rw[ai this];exact rJ H.xa _ (eX (by omega));have:=eZ ((th b).resolve_left a);rw[aq fun q=>a (sn.1 q)];exact rJ H.xb _ (eX (by omega))
theorem j8.d8 (H:j8 La Da Lb Db):∀x∈cC La Da Lb Db,1<=x/\x<=8:=fun x hx=>by obtain⟨v,a,rfl⟩:=zaa.1 hx;exact H.dv a
theorem j8.dN (H:j8 La Da Lb Db):(jL La Lb).length<=24:=by have:=QF La Lb;have:=(ku H.xa).1;have:=(ku H.xb).1;omega
theorem DD (La Da Lb Db:U):(cC La Da Lb Db).length=(jL La Lb).length:=AI ..
theorem j8.p24 (H:j8 La Da Lb Db):aB (cC La Da Lb Db)<=16777216:=by have l1:=(ku H.xa).2.1;have l2:=(ku H.xb).2.1;have e:cC La Da Lb Db=La.map (jd La Da Lb Db)++((Lb.filter fun x=> !decide (x∈La)).map (jd La Da Lb Db)):=(by unfold cC jL;rw[zaD]);rw[e,atv,aqh (xZ H.xa) l1];have g:(Lb.filter fun x=> !decide (x∈La)).map (jd La Da Lb Db)=(Lb.filter fun x=> !decide (x∈La)).map fun v=>Db.getD (aX Lb v) 0:=zav fun v a=>(by have:=(zaf.1 a).2;unfold jd;rw[aq fun q=>by simp[sn.1 q] at this]);have d:Lb.map (fun v=>Db.getD (aX Lb v) 0)=Db:=(by refine sL (by rw[AI];exact l2) fun i b=>?_;rw[AI] at b;rw[h9 b,kD (xZ H.xb) b]);have c:=agY (f:=fun v=>Db.getD (aX Lb v) 0) (p:=fun x=> !decide (x∈La)) (l:=Lb) fun v a=>(rJ H.xb _ (eX (by have:=eZ a;omega))).1;rw[d] at c;rw[g];have:=IS H.pa (Pd c H.pb);omega
theorem j8.awQ (H:j8 La Da Lb Db):fF La Da=(aB Da:Int):=by have a:=tE (D:=Da) fun x hx=>(rJ H.xa x hx).1;rw[<-a];exact ai ⟨H.xa,by have:=H.pa;omega⟩
theorem j8.awR (H:j8 La Da Lb Db):fF Lb Db=(aB Db:Int):=by have a:=tE (D:=Db) fun x hx=>(rJ H.xb x hx).1;rw[<-a];exact ai ⟨H.xb,by have:=H.pb;omega⟩
theorem j8.ae1 (H:j8 La Da Lb Db) (A B:U):Eu ((La,Da,A),Lb,Db,B)=some (jL La Lb,cC La Da Lb Db,true):= ape (ku H.xa).2.1 (ku H.xb).2.1 (ku H.xa).1 (ku H.xb).1 H.c
end
def Tm (NN:Nat):((U×(U×U))×(U×(U×U)))->(Option Int):=
 (fun((l0,l1,l2),l3,l4,l5)=>
 (tU (l0,l1,l2)).ae (fun i6=>
 aA (bH i6 ((-1:Int)))
 (some ((-1:Int)))
 ((tU (l3,l4,l5)).ae (fun i7=>
 aA (bH i7 ((-1:Int)))
 (some ((-1:Int)))
 ((Eu ((l0,l1,l2),l3,l4,l5)).ae (fun(l8,l9,pR)=>
 aA (de pR)
 (some ((-1:Int)))
 ((cr l9 0 (aa l9)).ae (fun ed=>
 (tW ed).ae (fun eA=>
 some (jM eA (65537:Int)))))))))))
def GU:=Tm bW
theorem j8.afj {La Da Lb Db:U} (H:j8 La Da Lb Db) (A B:U):GU ((La,Da,A),Lb,Db,B)=some (min (aB (cC La Da Lb Db):Int) 65537):=by have l1:=ku H.xa;have l2:=ku H.xb;have l3:=H.dN;simp only[GU,Tm];rw[show tU (La,Da,A)=some (fF La Da) from ai ⟨by dsimp only;omega,by dsimp only;omega⟩,H.awQ];(try simp only[bM]);rw[aW qw,show tU (Lb,Db,B)=some (fF Lb Db) from ai ⟨by dsimp only;omega,by dsimp only;omega⟩,H.awR];(try simp only[bM]);rw[aW qw,H.ae1];(try simp only[bM,gj]);rw[show de true=false from rfl,jR,agM H.d8 (by rw[DD];omega) (by have:=H.p24;omega)];(try simp only[bM]);rw[F9]
def Tt (NN:Nat):((U×(U×(U×U)))×((U×(U×(U×U)))×Int))->(Option Bool):=
 (fun((l0,l1,l2,l3),(l4,l5,l6,l7),i8)=>
 bN (bS NN (fun((i9,cP,fU,eA),(eY,dh,dH,dM),dj,fN,gb,gE)=>
 aA (cH eA fU)
 ((cg cP eA).ae (fun ga=>
 (rG ((fN,gb,gE),ga)).ae (fun iP=>
 aA (gZ (0:Int) iP)
 ((cg eY eA).ae (fun gv=>
 (cg dj iP).ae (fun ky=>
 (ja (bt .i64 gv ky) i9).ae (fun jo=>
 aA (iQ jo (0:Int))
 (some (AT (AT false)))
 (some (wt ((i9,cP,fU,bt .i64 eA 1),(eY,dh,dH,dM),dj,fN,gb,gE)))))))
 (some (wt ((i9,cP,fU,bt .i64 eA 1),(eY,dh,dH,dM),dj,fN,gb,gE))))))
 (some (AT (wt ()))))
 ((i8,l1,aK (aa l1),(0:Int)),(l0,l1,l2,l3),l4,l5,l6,l7))
 (fun _=>
 some true))
def KL:=Tt bW
def Ap (La Lb:U) (m:Int) (x y:U) (i:Nat):Prop:=La.getD i 0∈Lb->(x.getD i 0+y.getD (aX Lb (La.getD i 0)) 0)%m=0
instance (La Lb:U) (m:Int) (x y:U):DecidablePred (Ap La Lb m x y):=fun i=>by unfold Ap;infer_instance
theorem aqk {La Lb:U} {m:Int} {x y:U} {i:Nat} (c:La.getD i 0∈Lb) {α:Type} {a b:α}:some (if Ap La Lb m x y i then a else b)=aA (iQ ((x.getD i 0+y.getD (aX Lb (La.getD i 0)) 0)%m) 0) (some b) (some a):=by by_cases h:(x.getD i 0+y.getD (aX Lb (La.getD i 0)) 0)%m=0;rw[ai (show Ap La Lb m x y i from fun _=>h),aW (rB h)];rw[aq (show¬Ap La Lb m x y i from fun q=>h (q c)),be (xy h)]
theorem af0 {La Lb:U} {m:Int} {x y:U} (hn:La.Nodup):nz La Lb m x y↔∀i,i<La.length->Ap La Lb m x y i:=by constructor;intro h i c a;have:=h _ (eX c) a;rw[kD hn c] at this;exact this;intro h v b a;have:=h _ (eZ b);unfold Ap at this;rw[jp b] at this;exact this a
theorem aql {La Lb:U} {m:Int} {x y:U} (na:La.Nodup):bN (some (if∀i,i<La.length->Ap La Lb m x y i then wt () else AT false)) (fun _=>some true)=some (decide (nz La Lb m x y)):=by by_cases h:nz La Lb m x y;rw[ai ((af0 na).1 h),decide_eq_true h];rfl;rw[aq (fun q=>h ((af0 na).2 q)),decide_eq_false h];rfl
section
variable {La Da Lb Db x y:U} {Ra Rb:List U} {m:Int}
theorem aoU (A B:U) (b c:U) (HA:gm Da m Ra) (HB:gm Db m Rb) (na:La.Nodup) (la:La.length=Da.length) (lb:Lb.length=Db.length) (hx:gn Ra x) (hy:gn Rb y): KL ((x,La,b,A),(y,Lb,c,B),m)=some (decide (nz La Lb m x y)):=by have l1:=HA.eu;have l2:=HB.eu;have l3:=HA.rl;have l4:=HB.rl;have x1:=hx.1;have y1:=hy.1;have hm:=HA.m1;have dk:=HA.NF;simp only[KL,Tt];rw[Yw (Ap La Lb m x y) La.length (fun i=>((m,La,aK (aa La),(i:Int)),(x,La,b,A),y,Lb,c,B)) (.inr false) (.inl ()) ?d ?a3 ?a0 dY];(case a0=>rfl);(case a3=>dsimp only;rw[aW (o7 La)]);(case d=>intro i e;dsimp only;rw[be (dt (by rw[nl];omega)),dw,mP e];(try simp only[bM]);rw[show rG ((Lb,c,B),La.getD i 0)=some (mO Lb (La.getD i 0)) from ai (by dsimp only;omega),nY];(try simp only[bM]);by_cases a:La.getD i 0∈Lb;have hq:=eZ a;have d:=HA.al i (by omega) _ (hx.2 i (by omega));have a2:=HB.al (aX Lb (La.getD i 0)) (by omega) _ (hy.2 _ (by omega));rw[HY a,be qI,dw,mP];(try simp only[bM]);rw[dw,mP];(try simp only[bM]);rw[dZ,rD];(try simp only[bM]);exact(aqk a).symm;rw[LS a,ai (show Ap La Lb m x y i from fun q=>absurd q a)];rfl);exact aql na
end
def TK (NN:Nat):((U×(U×U))×((Int×(List U))×((U×(U×U))×(Int×(List U)))))->(Option Bool):=
 (fun((l0,l1,l2),(i3,l4),(l5,l6,l7),i8,l9)=>
 bN (bS NN (fun((cP,fU,eA),(eY,dh,dH),(fV,dj),(fN,gb,gE),ga,ef)=>
 aA (cH eA fU)
 (bN ((cg cP eA).ae (fun gv=>
 (rG ((fN,gb,gE),gv)).ae (fun ky=>
 aA (cH ky (0:Int))
 (some (wt ((eA,cP,fU),(eY,dh,dH),(fV,dj),(fN,gb,gE),ga,ef)))
 ((cg dh eA).ae (fun jo=>
 (cg gb ky).ae (fun ld=>
 aA (iQ jo ld)
 (some (AT (AT (AT false))))
 ((cg dj eA).ae (fun gw=>
 bS NN (fun((iT,dW,np,qD,jI,Dt,oN),(iG,gQ,jJ),(nq,nw),(kz,kP,ig),nt,iU)=>
 aA (cH oN Dt)
 ((cg jI oN).ae (fun nP=>
 (cg iU iT).ae (fun pI=>
 (cg pI oN).ae (fun tg=>
 (ja (bt .i64 nP tg) nq).ae (fun qa=>
 aA (iQ qa (0:Int))
 (some (AT (AT (AT (AT false)))))
 (some (wt ((iT,dW,np,qD,jI,Dt,bt .i64 oN 1),(iG,gQ,jJ),(nq,nw),(kz,kP,ig),nt,iU))))))))
 (some (AT (wt ((qD,dW,np),(iG,gQ,jJ),(nq,nw),(kz,kP,ig),nt,iU)))))
 ((ky,cP,fU,eA,gw,aK (aa gw),(0:Int)),(eY,dh,dH),(fV,dj),(fN,gb,gE),ga,ef)))))))))
 (fun((uz,jK,zZ),(jV,qc,tu),(IL,iV),(iz,lg,iW),xk,iY)=>
 some (wt ((jK,zZ,bt .i64 uz 1),(jV,qc,tu),(IL,iV),(iz,lg,iW),xk,iY))))
 (some (AT (wt ()))))
 ((l0,aK (aa l0),(0:Int)),(l0,l1,l2),(i3,l4),(l5,l6,l7),i8,l9))
 (fun _=>
 some true))
def KN:=TK bW
def tB (La Da:U) (Ra:List U) (Lb Db:U) (Rb:List U) (m:Int) (i:Nat):Prop:=
 La.getD i 0∈Lb->Da.getD i 0=Db.getD (aX Lb (La.getD i 0)) 0/\∀t,t<(Ra.getD i []).length->((Ra.getD i []).getD t 0+(Rb.getD (aX Lb (La.getD i 0)) []).getD t 0)%m=0
instance (La Da:U) (Ra:List U) (Lb Db:U) (Rb:List U) (m:Int):DecidablePred (tB La Da Ra Lb Db Rb m):=fun i=>by unfold tB;infer_instance
theorem asj {La Da:U} {Ra:List U} {Lb Db:U} {Rb:List U} {m:Int}:bN (some (if∀i,i<La.length->tB La Da Ra Lb Db Rb m i then wt () else AT false)) (fun _=>some true)=some (decide (∀i,i<La.length->tB La Da Ra Lb Db Rb m i)):=by by_cases h:∀i,i<La.length->tB La Da Ra Lb Db Rb m i;rw[ai h,decide_eq_true h];rfl;rw[aq h,decide_eq_false h];rfl
section
variable {La Da Lb Db:U} {Ra Rb:List U} {m:Int}
theorem asl (HA:gm Da m Ra) (HB:gm Db m Rb) (la:La.length=Da.length) (lb:Lb.length=Db.length) {i t:Nat} (hi:i<La.length) (b:La.getD i 0∈Lb) (a:t<(Ra.getD i []).length) (c:t<(Rb.getD (aX Lb (La.getD i 0)) []).length): ja (bt .i64 ((Ra.getD i []).getD t 0) ((Rb.getD (aX Lb (La.getD i 0)) []).getD t 0)) m=some (((Ra.getD i []).getD t 0+(Rb.getD (aX Lb (La.getD i 0)) []).getD t 0)%m):=by have hq:=eZ b;have hm:=HA.m1;have dk:=HA.NF;have a1:=HA.al i (by omega) _ (eX a);have a2:=HB.al _ (by omega) _ (eX c);rw[dZ,rD]
theorem ao9 (A B:U) (b:Int) (HA:gm Da m Ra) (HB:gm Db m Rb) (la:La.length=Da.length) (lb:Lb.length=Db.length): KN ((La,Da,A),(m,Ra),(Lb,Db,B),b,Rb)=some (decide (∀i,i<La.length->tB La Da Ra Lb Db Rb m i)):=by have l1:=HA.eu;have l2:=HB.eu;have l3:=HA.rl;have l4:=HB.rl;simp only[KN,TK];rw[Yw (tB La Da Ra Lb Db Rb m) La.length (fun i=>((La,aK (aa La),(i:Int)),(La,Da,A),(m,Ra),(Lb,Db,B),b,Rb)) (.inr false) (.inl ()) ?a1 ?a3 ?a0 dY];(case a0=>rfl);(case a3=>dsimp only;rw[aW (o7 La)]);(case a1=>intro i c;dsimp only;have WJ:=HA.uj (i:=i) (by omega);have r1:=HA.row i (by omega);rw[be (dt (by rw[nl];omega)),dw,mP c];(try simp only[bM]);rw[show rG ((Lb,Db,B),La.getD i 0)=some (mO Lb (La.getD i 0)) from ai (by dsimp only;omega)];(try simp only[bM]);by_cases a:La.getD i 0∈Lb;rotate_left;rw[LS a,be dt,ai (show tB La Da Ra Lb Db Rb m i from fun q=>absurd q a),ic,nY];(·have hq:=eZ a;have r2:=HB.row (aX Lb (La.getD i 0)) (by omega);rw[HY a,aW eB,dw,mP];(try simp only[bM]);rw[dw,mP];(try simp only[bM]);by_cases hd:Da.getD i 0=Db.getD (aX Lb (La.getD i 0)) 0;rotate_left;rw[be (xy hd),aq fun o=>hd (o a).1];rfl;rw[aW (rB hd),dw,getD_some [] (show i<Ra.length by omega)];(try simp only[bM]);rw[Yw (fun t=>((Ra.getD i []).getD t 0+(Rb.getD (aX Lb (La.getD i 0)) []).getD t 0)%m=0) (Ra.getD i []).length (fun t=>((((aX Lb (La.getD i 0):Nat):Int),La,aK (aa La),(i:Int),Ra.getD i [],aK (aa (Ra.getD i [])),(t:Int)),(La,Da,A),(m,Ra),(Lb,Db,B),b,Rb)) (.inr (.inr (.inr false))) (.inl (((i:Int),La,aK (aa La)),(La,Da,A),(m,Ra),(Lb,Db,B),b,Rb)) ?b1 ?b3 ?b0 dY];(case b0=>rfl);(case b3=>dsimp only;rw[aW (o7 _)]);(case b1=>intro t d;dsimp only;rw[be (dt (by rw[nl];omega)),dw,mP d];(try simp only[bM]);rw[dw,getD_some [] (show aX Lb (La.getD i 0)<Rb.length by omega)];(try simp only[bM]);rw[dw,mP (show t<(Rb.getD (aX Lb (La.getD i 0)) []).length by omega)];(try simp only[bM]);rw[asl HA HB la lb c a d (by omega)];(try simp only[bM]);by_cases h:((Ra.getD i []).getD t 0+(Rb.getD (aX Lb (La.getD i 0)) []).getD t 0)%m=0;rw[ai h,aW (rB h),nY];rw[aq h,be (xy h)]);by_cases h:∀t,t<(Ra.getD i []).length->((Ra.getD i []).getD t 0+(Rb.getD (aX Lb (La.getD i 0)) []).getD t 0)%m=0;rw[ai h,ai (show tB La Da Ra Lb Db Rb m i from fun _=>⟨hd,h⟩),ic,nY];rw[aq h,aq (show¬tB La Da Ra Lb Db Rb m i from fun o=>h (o a).2)];rfl));exact asj
end
def abE:bu:=[(.agg,[.int .i64,.int .i64,.int .i64]),(.one,[.list [.int .i64]]),(.one,[.list [.int .i64]])]
def CI (NN:Nat):(Int×(Int×((Int×(Int×Int))×(U×U))))->(Option U):=
 (fun(i0,i1,(i2,i3,i4),l5,l6)=>
 (jP i0 i1 (aa l5)).ae (fun(k7,k8)=>
 bN (aA (bH i2 (1:Int))
 (some (wt ((true,i2,(k7,k8),l6),l5,i2,i3,i4)))
 (some (wt ((bH i2 (5:Int),i2,(k7,k8),l6),l5,i2,i3,i4))))
 (fun((b9,gM,(oS,rp),eY),dh,jz,fV,gN)=>
 aA (b9)
 ((dg (0:Int) rp).ae (fun Ad=>
 (bL dh (au oS Ad)).ae (fun gD=>
 (cg eY (0:Int)).ae (fun eO=>
 (dg (0:Int) rp).ae (fun wa=>
 (bL dh (au oS wa)).ae (fun iP=>
 (lm (aa (br dh (au oS wa) (sf gD eO))) (aa l5)).ae (fun _=>
 some (br dh (au oS wa) (sf gD eO)))))))))
 (aA (bH gM (3:Int))
 ((dg (0:Int) rp).ae (fun k23=>
 (bL dh (au oS k23)).ae (fun ky=>
 (cg eY (0:Int)).ae (fun jo=>
 (dg (0:Int) rp).ae (fun FR=>
 (bL dh (au oS FR)).ae (fun iF=>
 (lm (aa (br dh (au oS FR) (jM (bt .i64 ky jo) fV))) (aa l5)).ae (fun _=>
 some (br dh (au oS FR) (jM (bt .i64 ky jo) fV)))))))))
 (aA (bH gM (4:Int))
 ((dg (0:Int) rp).ae (fun Ns=>
 (bL dh (au oS Ns)).ae (fun te=>
 (cg eY (0:Int)).ae (fun np=>
 (dg (0:Int) rp).ae (fun FT=>
 (bL dh (au oS FT)).ae (fun rk=>
 (lm (aa (br dh (au oS FT) (jM te np))) (aa l5)).ae (fun _=>
 some (br dh (au oS FT) (jM te np)))))))))
 (aA (bH gM (6:Int))
 ((dg (0:Int) rp).ae (fun Nu=>
 (bL dh (au oS Nu)).ae (fun oN=>
 (cg eY (0:Int)).ae (fun od=>
 (dg (0:Int) rp).ae (fun Yf=>
 (bL dh (au oS Yf)).ae (fun Du=>
 (lm (aa (br dh (au oS Yf) (Jx .i64 oN od))) (aa l5)).ae (fun _=>
 some (br dh (au oS Yf) (Jx .i64 oN od)))))))))
 (bS NN (fun(((DE,FU),kz,lf,tf),gR,rY,nP,oO)=>
 aA (cH tf lf)
 ((dg tf FU).ae (fun k47=>
 (bL gR (au DE k47)).ae (fun qa=>
 (cg kz tf).ae (fun uz=>
 (ja (bt .i64 qa uz) nP).ae (fun yB=>
 (dg tf FU).ae (fun k51=>
 (bL gR (au DE k51)).ae (fun FC=>
 some (wt (((DE,FU),kz,lf,bt .i64 tf 1),br gR (au DE k51) yB,rY,nP,oO)))))))))
 (((lm (aa gR) (aa l5)).ae (fun _=>
 some gR)).ae (fun qc=>
 some (AT qc))))
 (((oS,rp),eY,aK rp,(0:Int)),dh,jz,fV,gN))))))))
def qR:=CI bW
theorem aep {xs u:U} {o i:Nat} (ho:o+u.length<=xs.length) (a:i<u.length):bL (gf xs o u) (au o i)=some (u.getD i 0):=by show(gf xs o u)[o+i]? =_;unfold gf;rw[zah,zal (by rw[OF];omega),OF,zbo (by omega),zaw,zaI a,getD_some 0 a]
theorem ahT {xs u:U} {o i:Nat} (ho:o+u.length<=xs.length) (a:i<u.length) (v:Int):br (gf xs o u) (au o i) v=gf xs o (br u i v):=by show(gf xs o u).set (o+i) v=gf xs o (u.set i v);unfold gf;rw[zah,List.set_append_right _ _ (by rw[OF];omega),OF,zbo (by omega),zaw,List.set_append_left _ _ a,zbp,zah]
theorem atF {xs:U} {o w:Nat} (ho:o+w<=xs.length):gf xs o (fE xs o w)=xs:=by
 have hl:(fE xs o w).length=w:=by unfold fE;rw[OF,zaA];omega
 unfold gf;rw[hl];unfold fE;rw[zah,<-zbr,zaG,zaG]
theorem atE {xs u:U} {o:Nat} (ho:o+u.length<=xs.length):(gf xs o u).length=xs.length:=by unfold gf;rw[By,By,OF,zaA];omega
theorem aj4 {r:Rg} {xs y:U} {lo:Nat} (hr:dA r=true) (t:lo+ar r<=xs.length) (hx:eD r (fE xs lo (ar r))=true) (hy:eD r y=true): qR ((lo:Int),((lo+ar r:Nat):Int),r,xs,y)=some (gf xs lo (g9 r (fE xs lo (ar r)) y)):=by obtain⟨k,p,n⟩:=r;have F:=Eg hr;have A:=atF (xs:=xs) (o:=lo) (w:=ar (k,p,n)) t;have D:=jf hx;have one:ar (k,p,n)=1->∃a b,fE xs lo (ar (k,p,n))=[a]/\y=[b]/\(0<=a/\a<=dz (k,p,n))/\(0<=b/\b<=dz (k,p,n))/\xs[lo]? =some a/\∀v,gf xs lo [v]=br xs lo v:=(by intro C;obtain⟨c,x⟩:=Bm hx C;obtain⟨d,z⟩:=Bm hy C;have g:=aep (xs:=xs) (u:=fE xs lo (ar (k,p,n))) (o:=lo) (i:=0) (by omega) (by omega);rw[A,au] at g;refine⟨_,_,c,d,x,z,?_,fun v=>?_⟩;have:(fE xs lo (ar (k,p,n))).getD 0 0=cZ (fE xs lo (ar (k,p,n))) 0:=(by unfold cZ;rfl);rw[<-this];exact g;have s:=ahT (xs:=xs) (u:=fE xs lo (ar (k,p,n))) (o:=lo) (i:=0) (by omega) (by omega) v;rw[A] at s;have:br (fE xs lo (ar (k,p,n))) 0 v=[v]:=(by rw[c];rfl);rw[this] at s;exact s.symm);have m:jP (lo:Int) ((lo+ar (k,p,n):Nat):Int) (aa xs)=some (lo,ar (k,p,n)):=(by rw[ZY (by omega) (by show lo+ar (k,p,n)<=xs.length;omega),zaw]);have loop:∀k,(k=2\/k=7\/k=8)->jA p=true->dA (k,p,n)=true->jP (lo:Int) ((lo+ar (k,p,n):Nat):Int) (aa xs)=some (lo,ar (k,p,n))->lo+ar (k,p,n)<=xs.length->gf xs lo (fE xs lo (ar (k,p,n)))=xs-> eD (k,p,n) (fE xs lo (ar (k,p,n)))=true->eD (k,p,n) y=true->qR ((lo:Int),((lo+ar (k,p,n):Nat):Int),(k,p,n),xs,y)=some (gf xs lo (g9 (k,p,n) (fE xs lo (ar (k,p,n))) y)):=(by intro k hk l hr m t A hx hy;have hm:=oe l;have D:=jf hx;have W0:=jf hy;have C:=mE hr;have F:=Eg hr;have G:∀a b,mT (k,p,n) a b=(a+b)%p:=(by intro a b;simp only[mT];rw[aq (by omega),aq (by omega),aq (by omega),aq (by omega)]);have rW:dz (k,p,n)=p - 1:=(by simp only[dz];rw[aq (by omega),aq (by omega),aq (by omega)]);generalize hX:fE xs lo (ar (k,p,n))=X at*;simp only[qR,CI,HH];rw[m];simp only[bM];rw[aq (by omega),qw (a:=k) (b:=5) (by omega),ic];simp only;rw[aW rfl,aq (by omega),aq (by omega),aq (by omega)];have tl:∀f,(jb (ar (k,p,n)) f).length=ar (k,p,n):=fun f=>Al _ f;have H:∀f,(gf xs lo (jb (ar (k,p,n)) f)).length=xs.length:=fun f=>atE (by rw[tl];exact t);rw[gd (fun i=>(((lo,ar (k,p,n)),y,aK (ar (k,p,n)),(i:Int)),gf xs lo (jb (ar (k,p,n)) (y9 (fun j=>mT (k,p,n) (cZ X j) (cZ y j)) (cZ X) i)),k,p,n)) (ar (k,p,n)) ?a1 ?a2 ?a3 dY];(case a3=>rw[awU,OA D,A];rfl);(case a2=>simp only;rw[aW (eB (by simp only[aK];omega)),awW];rw[yX (show aa (gf xs lo _)=aa xs from H _),bM,bM];rfl);case a1=>intro i B;have x:=wV hx B;have z:=wV hy B;simp only;have E:bL (gf xs lo (jb (ar (k,p,n)) (y9 (fun j=>mT (k,p,n) (cZ X j) (cZ y j)) (cZ X) i))) (au lo i)=some (cZ X i):=(by rw[aep (by rw[tl];exact t) (by rw[tl];exact B)];have:=aer (w:=ar (k,p,n)) (y9 (fun j=>mT (k,p,n) (cZ X j) (cZ y j)) (cZ X) i) B;rw[awV,gW] at this;have e:bL (jb (ar (k,p,n)) (y9 (fun j=>mT (k,p,n) (cZ X j) (cZ y j)) (cZ X) i)) i=some ((jb (ar (k,p,n)) (y9 (fun j=>mT (k,p,n) (cZ X j) (cZ y j)) (cZ X) i)).getD i 0):=getD_some 0 (by rw[tl];exact B);rw[<-e,this]);rw[be (dt (by simp only[aK];omega)),kU B,bM,E,bM,Wk,bM,dZ,rD,bM,bM,E,bM];have hn:=awX (f:=fun j=>mT (k,p,n) (cZ X j) (cZ y j)) (g:=cZ X) (w:=ar (k,p,n)) (i:=i);rw[gW] at hn;rw[<-G,ahT (by rw[tl];exact t) (by rw[tl];exact B),hn,dZ];rfl);rcases tJ hr with⟨rfl,rfl,rfl⟩|⟨rfl,l,rfl⟩|⟨rfl,l,rfl⟩|⟨rfl,l,rfl⟩|⟨rfl,l,rfl⟩|⟨rfl,rfl,hn⟩|⟨rfl,l,hn⟩|⟨rfl,l,kf,rfl⟩;obtain⟨a,b,c,d,x,z,g,q⟩:=one rfl;rw[c,d,Lf rfl,q];have h:qR ((lo:Int),((lo+1:Nat):Int),((1:Int),(0:Int),(0:Int)),xs,[b])=some (br xs lo (sf a b)):=(by simp only[qR,CI];rw[show jP (lo:Int) ((lo+1:Nat):Int) (aa xs)=some (lo,1) from m];simp only[bM];rw[show bH (1:Int) 1=true from rfl,mJ];simp only[bN,GB,mJ];rw[show dg (0:Int) 1=some 0 from rfl];simp only[bM];rw[show bL xs (au lo 0)=some a from g,show cg [b] (0:Int)=some b from rfl];simp only[bM];rw[yX (by show(br xs (au lo 0) _).length=_;simp[br,aa])];rfl);rw[show ar ((1:Int),(0:Int),(0:Int))=1 from rfl] at*;rw[h,aqj x z];rfl;exact loop 2 (.inl rfl) l hr m t A hx hy;obtain⟨a,b,c,d,x,z,g,q⟩:=one rfl;rw[c,d,Lf rfl,q];have h:qR ((lo:Int),((lo+1:Nat):Int),((3:Int),p,(0:Int)),xs,[b])=some (br xs lo (jM (bt .i64 a b) p)):=(by simp only[qR,CI];rw[show jP (lo:Int) ((lo+1:Nat):Int) (aa xs)=some (lo,1) from m];simp only[bM];rw[show bH (3:Int) 1=false from rfl,jR];simp only[bN,GB];rw[show bH (3:Int) 5=false from rfl,jR,show bH (3:Int) 3=true from rfl,mJ];rw[show dg (0:Int) 1=some 0 from rfl];simp only[bM];rw[show bL xs (au lo 0)=some a from g,show cg [b] (0:Int)=some b from rfl];simp only[bM];rw[yX (by show(br xs (au lo 0) _).length=_;simp[br,aa])];rfl);rw[show ar ((3:Int),p,(0:Int))=1 from rfl] at*;rw[h,dZ,F9];rfl;obtain⟨a,b,c,d,x,z,g,q⟩:=one rfl;rw[c,d,Lf rfl,q];have h:qR ((lo:Int),((lo+1:Nat):Int),((4:Int),p,(0:Int)),xs,[b])=some (br xs lo (jM a b)):=(by simp only[qR,CI];rw[show jP (lo:Int) ((lo+1:Nat):Int) (aa xs)=some (lo,1) from m];simp only[bM];rw[show bH (4:Int) 1=false from rfl,jR];simp only[bN,GB];rw[show bH (4:Int) 5=false from rfl,jR,show bH (4:Int) 3=false from rfl,jR,show bH (4:Int) 4=true from rfl,mJ];rw[show dg (0:Int) 1=some 0 from rfl];simp only[bM];rw[show bL xs (au lo 0)=some a from g,show cg [b] (0:Int)=some b from rfl];simp only[bM];rw[yX (by show(br xs (au lo 0) _).length=_;simp[br,aa])];rfl);rw[show ar ((4:Int),p,(0:Int))=1 from rfl] at*;rw[h,F9];rfl;obtain⟨a,b,c,d,x,z,g,q⟩:=one rfl;rw[c,d,Lf rfl,q];have h:qR ((lo:Int),((lo+1:Nat):Int),((5:Int),p,(0:Int)),xs,[b])=some (br xs lo (sf a b)):=(by simp only[qR,CI];rw[show jP (lo:Int) ((lo+1:Nat):Int) (aa xs)=some (lo,1) from m];simp only[bM];rw[show bH (5:Int) 1=false from rfl,jR];simp only[bN,GB];rw[show bH (5:Int) 5=true from rfl,mJ];rw[show dg (0:Int) 1=some 0 from rfl];simp only[bM];rw[show bL xs (au lo 0)=some a from g,show cg [b] (0:Int)=some b from rfl];simp only[bM];rw[yX (by show(br xs (au lo 0) _).length=_;simp[br,aa])];rfl);rw[show ar ((5:Int),p,(0:Int))=1 from rfl] at*;rw[h,aqi];rfl;obtain⟨a,b,c,d,x,z,g,q⟩:=one rfl;rw[c,d,Lf rfl,q];have h:qR ((lo:Int),((lo+1:Nat):Int),((6:Int),(0:Int),n),xs,[b])=some (br xs lo (Jx .i64 a b)):=(by simp only[qR,CI];rw[show jP (lo:Int) ((lo+1:Nat):Int) (aa xs)=some (lo,1) from m];simp only[bM];rw[show bH (6:Int) 1=false from rfl,jR];simp only[bN,GB];rw[show bH (6:Int) 5=false from rfl,jR,show bH (6:Int) 3=false from rfl,jR,show bH (6:Int) 4=false from rfl,jR,show bH (6:Int) 6=true from rfl,mJ];rw[show dg (0:Int) 1=some 0 from rfl];simp only[bM];rw[show bL xs (au lo 0)=some a from g,show cg [b] (0:Int)=some b from rfl];simp only[bM];rw[yX (by show(br xs (au lo 0) _).length=_;simp[br,aa])];rfl);rw[show ar ((6:Int),(0:Int),n)=1 from rfl] at*;rw[h,asn];rfl;exact loop 7 (.inr (.inl rfl)) l hr m t A hx hy;exact loop 8 (.inr (.inr rfl)) l hr m t A hx hy
def Tj (NN:Nat):((Int×(Int×Int))×((U×(U×U))×((U×(U×U))×U)))->(Option ((U×(U×U))×Bool)):=
 (fun((i0,i1,i2),(l3,l4,l5),(l6,l7,l8),l9)=>
 (tT ((i0,i1,i2),l3,l4,l5)).ae (fun pR=>
 aA (de pR)
 (some ((([]:U),([]:U),([]:U)),false))
 ((tT ((i0,i1,i2),l6,l7,l8)).ae (fun Hp=>
 aA (de Hp)
 (some ((([]:U),([]:U),([]:U)),false))
 ((Eu ((l3,l4,l5),l6,l7,l8)).ae (fun(eu,eY,UL)=>
 aA (de UL)
 (some ((([]:U),([]:U),([]:U)),false))
 ((cr eY 0 (aa eY)).ae (fun dH=>
 (tW dH).ae (fun fV=>
 aA (cH (65536:Int) fV)
 (some ((([]:U),([]:U),([]:U)),false))
 ((cr eu 0 (aa eu)).ae (fun dj=>
 (KM (dj,l9)).ae (fun fN=>
 (j6 (aK (aa fN)) (aK (aa fN)) 8).ae (fun Yd=>
 bN (ah eu (
 ah eY (
 ah fN (
 (aU 0 0 (aa (([]:U)))).ae (fun _=>
 (aU 0 0 (aa (([]:U)))).ae (fun _=>
 (aU 0 0 (aa (([]:U)))).ae (fun _=>
 ah fN (
 (aU 0 Yd (aa (cJ Yd (0:Int)))).ae (fun _=>
 (aU 0 0 (aa (([]:U)))).ae (fun _=>
 bS NN (fun((eO,ga),(iP,gv,ky),(gG,fO,gw),(ji,dW,fY),fG,jI,gz,jB,iG,gQ,jJ,ou)=>
 aA (cH ga eO)
 (bN ((dg ga (aa jB)).ae (fun FU=>
 (bL jB (au 0 FU)).ae (fun v5=>
 ah jJ (
 ah ou (
 ah jB (
 ah jJ (
 ah fG (
 ah jI (
 ah gz (
 ah jB (
 ah iG (
 ah gQ (
 bS NN (fun((lf,tf,nt,rY,nP,oO),(tg,qa,uz),(jK,kA,jV),(qc,tu,kB),iV,iz,lg,iW,lU,iY,gH,lV)=>
 aA (cH oO nP)
 ((dg oO (aa gH)).ae (fun k64=>
 (bL gH (au 0 k64)).ae (fun i65=>
 aA (bH i65 tf)
 ((dg oO (aa lV)).ae (fun FW=>
 (bL lV (au 0 FW)).ae (fun yC=>
 (dg lf (aa lU)).ae (fun FX=>
 (bL lU (au 0 FX)).ae (fun uC=>
 ah gH (
 ah lV (
 ah iW (
 ah gH (
 ah iV (
 ah iz (
 ah lg (
 ah iW (
 (aU 0 (aa lU) (aa (br lU (au 0 FX) yC))).ae (fun _=>
 ah iY (
 some (wt ((lf,tf,nt,rY,nP,bt .i64 oO 1),(tg,qa,uz),(jK,kA,jV),(qc,tu,kB),iV,iz,lg,iW,br lU (au 0 FX) yC,iY,gH,lV)))))))))))))))))
 (ah gH (
 ah lV (
 ah iW (
 ah gH (
 ah iV (
 ah iz (
 ah lg (
 ah iW (
 ah lU (
 ah iY (
 some (wt ((lf,tf,nt,rY,nP,bt .i64 oO 1),(tg,qa,uz),(jK,kA,jV),(qc,tu,kB),iV,iz,lg,iW,lU,iY,gH,lV))))))))))))))))
 ((ah gH (
 ah lV (
 ah iW (
 ah iV (
 ah iz (
 ah lg (
 ah iW (
 ah lU (
 ah iY (
 some (wt ((rY,nt),(tg,qa,uz),(jK,kA,jV),(qc,tu,kB),iV,iz,lg,iW,lU,iY,gH,lV)))))))))))).ae (fun mA=>
 some (AT mA))))
 ((ga,v5,eO,ga,aK (aa jJ),(0:Int)),(iP,gv,ky),(gG,fO,gw),(ji,dW,fY),fG,jI,gz,jB,iG,gQ,jJ,ou))))))))))))))
 (fun((Qv,Dw),(IM,IP,Dx),(yR,se,ox),(oU,Aj,oy),tv,xr,oV,ry,qd,wq,B6,yS)=>
 ah B6 (
 ah yS (
 ah ry (
 ah tv (
 ah xr (
 ah oV (
 ah ry (
 ah qd (
 ah wq (
 some (wt ((Dw,bt .i64 Qv 1),(IM,IP,Dx),(yR,se,ox),(oU,Aj,oy),tv,xr,oV,ry,qd,wq,B6,yS)))))))))))))
 ((ah jJ (
 ah ou (
 ah fG (
 ah jI (
 ah gz (
 ah jB (
 ah iG (
 ah gQ (
 some (wt ((iP,gv,ky),(gG,fO,gw),(ji,dW,fY),fG,jI,gz,jB,iG,gQ,jJ,ou))))))))))).ae (fun lW=>
 some (AT lW))))
 ((aK (aa fN),(0:Int)),(i0,i1,i2),(l3,l4,l5),(l6,l7,l8),([]:U),([]:U),([]:U),fN,cJ Yd (0:Int),([]:U),eu,eY)))))))))))
 (fun((Qx,IU,Qy),(lk,qf,oz),(oA,j5,oW),rq,oh,r7,tm,Nw,wc,pE,r8)=>
 (cr tm 0 (aa tm)).ae (fun wg=>
 (cr Nw 0 (aa Nw)).ae (fun I3=>
 (cr wc 0 (aa wc)).ae (fun wh=>
 (tU (wg,I3,wh)).ae (fun Fy=>
 aA (bH Fy ((-1:Int)))
 (some ((([]:U),([]:U),([]:U)),false))
 ((wL (Qx,IU,Qy)).ae (fun uG=>
 (cr tm 0 (aa tm)).ae (fun yI=>
 (cr Nw 0 (aa Nw)).ae (fun yJ=>
 (cr uG 0 (aa uG)).ae (fun yK=>
 (CC ((Qx,IU,Qy),yI,yJ,yK)).ae (fun(uH,yL,yM)=>
 (cr pE 0 (aa pE)).ae (fun xn=>
 (zd ((lk,qf,oz),xn)).ae (fun xo=>
 (cr pE 0 (aa pE)).ae (fun Af=>
 (zd ((oA,j5,oW),Af)).ae (fun tn=>
 (cr uH 0 (aa uH)).ae (fun r9=>
 (cr yL 0 (aa yL)).ae (fun xp=>
 (cr yM 0 (aa yM)).ae (fun B1=>
 (cr pE 0 (aa pE)).ae (fun yN=>
 (zd ((r9,xp,B1),yN)).ae (fun mw=>
 (j6 (aK (aa pE)) (aK (aa pE)) 8).ae (fun X8=>
 (tY (Qx,IU,Qy)).ae (fun aeW=>
 (j6 aeW aeW 8).ae (fun Ya=>
 ah r8 (
 ah xo (
 ah tn (
 ah mw (
 (aU 0 X8 (aa (cJ X8 (0:Int)))).ae (fun _=>
 (aU 0 Ya (aa (cJ Ya (0:Int)))).ae (fun _=>
 ah rq (
 ah oh (
 ah r7 (
 ah uH (
 ah yL (
 ah yM (
 bS NN (fun((IH,II,IJ),(F3,wi,yO),(DF,xq,I4),I5,I6,I7,I8,Ag,tp,uI,uJ,pG,Ah,pH,sa)=>
 (cr uJ 0 (aa uJ)).ae (fun ru=>
 (cr pH 0 (aa pH)).ae (fun rv=>
 (AJ (ru,rv)).ae (fun IK=>
 (rH ((IH,II,IJ),(F3,wi,yO),IK)).ae (fun DG=>
 (cr pG 0 (aa pG)).ae (fun I9=>
 (cr pH 0 (aa pH)).ae (fun B2=>
 (AJ (I9,B2)).ae (fun Nc=>
 (rH ((IH,II,IJ),(DF,xq,I4),Nc)).ae (fun B3=>
 ah sa (
 (GY ((IH,II,IJ),sa,DG,B3)).ae (fun uK=>
 (cr Ah 0 (aa Ah)).ae (fun tq=>
 (cr pH 0 (aa pH)).ae (fun tr=>
 (AJ (tq,tr)).ae (fun aoB=>
 (cr I8 0 (aa I8)).ae (fun DH=>
 (cr Ag 0 (aa Ag)).ae (fun QN=>
 ah tp (
 (xP ((IH,II,IJ),(DH,QN,tp),aoB)).ae (fun(aoC,Nd)=>
 (jP aoC Nd (aa tp)).ae (fun(QL,afr)=>
 (bL tp QL).ae (fun axL=>
 (cr tp QL afr).ae (fun Yl=>
 ah tp (
 (cr uK 0 (aa sa)).ae (fun apt=>
 (qR (aK QL,aK (au QL afr),(IH,II,IJ),tp,apt)).ae (fun Nz=>
 (cr uI 0 (aa uI)).ae (fun Ym=>
 ah pH (
 (vj (Ym,pH)).ae (fun(akm,DK)=>
 aA (de akm)
 (((dO I8 (aa I8)).ae (fun F4=>
 (dO Ag (aa Ag)).ae (fun F5=>
 (dO Nz (aa tp)).ae (fun Yn=>
 some ((F4,F5,Yn),true))))).ae (fun(((NA,NB,NC),akn):((U×(U×U))×Bool))=>
 some (AT ((NA,NB,NC),akn))))
 (ah uI (
 ah uJ (
 ah pG (
 ah Ah (
 (aU 0 (aa pH) (aa DK)).ae (fun _=>
 (aU 0 (aa sa) (aa uK)).ae (fun _=>
 ah I5 (
 ah I6 (
 ah I7 (
 ah I8 (
 ah Ag (
 (aU 0 (aa tp) (aa Nz)).ae (fun _=>
 some (wt ((IH,II,IJ),(F3,wi,yO),(DF,xq,I4),I5,I6,I7,I8,Ag,Nz,uI,uJ,pG,Ah,DK,uK))))))))))))))))))))))))))))))))))))))))))
 ((Qx,IU,Qy),(lk,qf,oz),(oA,j5,oW),rq,oh,r7,uH,yL,yM,r8,xo,tn,mw,cJ X8 (0:Int),cJ Ya (0:Int))))))))))))))))))))))))))))))))))))))))))))))))))
def Er:=Tj bW
def ug (J DS S:U) (k i q:Nat):Int:=if q<k\/(q=k/\aX J (S.getD k 0)<i) then DS.getD q 0 else 0
def Nv (La Lb d9:U):U:=(jL La Lb).filter fun x=>decide (x∈d9)
def zz (r:Rg) (La Da A Lb Db B S:U):T3:=(S,S.map (jd La Da Lb Db),fw (fun n=>kV r (qP r La Da A Lb Db B) (uT La Da Lb Db S (S.map (jd La Da Lb Db))) n (aB (cC La Da Lb Db))) (aB (S.map (jd La Da Lb Db))))
def EQ (r:Rg) (La Da A Lb Db B S:U):T3×Bool:=
 if aB (cC La Da Lb Db)<=65536/\0<=fF S (S.map (jd La Da Lb Db)) then(zz r La Da A Lb Db B S,true) else(([],[],[]),false)
theorem j8.vc {La Da Lb Db:U} (H:j8 La Da Lb Db):Sub La Da (jL La Lb) (cC La Da Lb Db):=by have na:=xZ H.xa;refine⟨na,QG na (xZ H.xb),xm,(ku H.xa).2.1,DD ..,fun i a=>?_,fun x hx=>(H.d8 x hx).1⟩;have c:=xm (b:=Lb) _ (eX a);unfold cC;rw[h9 (eZ c),jp c];unfold jd;rw[kD na a,ai a]
theorem j8.vd {La Da Lb Db:U} (H:j8 La Da Lb Db):Sub Lb Db (jL La Lb) (cC La Da Lb Db):=by have na:=xZ H.xa;have nb:=xZ H.xb;refine⟨nb,QG na nb,Ac,(ku H.xb).2.1,DD ..,fun i b=>?_,fun x hx=>(H.d8 x hx).1⟩;have d:=Ac (a:=La) _ (eX b);unfold cC;rw[h9 (eZ d),jp d];unfold jd;by_cases h:Lb.getD i 0∈La;rw[ai (eZ h),H.c _ h (eX b),kD nb b];rw[aq (fun q=>h (sn.1 q)),kD nb b]
theorem j8.ai6 {La Da Lb Db:U} (H:j8 La Da Lb Db) (p:Int->Bool):Sub ((jL La Lb).filter p) (((jL La Lb).filter p).map (jd La Da Lb Db)) (jL La Lb) (cC La Da Lb Db):=by have nJ:=QG (xZ H.xa) (xZ H.xb);refine⟨nJ.filter _,nJ,fun v a=>(zaf.1 a).1,(AI ..).symm,DD ..,fun i b=>?_,fun x hx=>(H.d8 x hx).1⟩;have a:=(zaf.1 (eX b)).1;unfold cC;rw[h9 (eZ a),jp a,h9 b]
theorem j8.gJ {La Da Lb Db:U} (H:j8 La Da Lb Db):lH (cC La Da Lb Db):=⟨by have:=H.dN;rw[DD];omega,fun x hx=>by have:=H.d8 x hx;omega⟩
theorem j8.dot {La Da Lb Db:U} (H:j8 La Da Lb Db) {L D:U} (h1:aB D<=4096) (h2:∀x∈D,1<=x/\x<=8) (b:Sub L D (jL La Lb) (cC La Da Lb Db)) (k:Nat): AJ (sB L D (jL La Lb),aD (cC La Da Lb Db) k)=some ((nf L D (jL La Lb) (aD (cC La Da Lb Db) k):Nat):Int):=by have dN:=H.dN;have c:=H.d8;have QP:=DD La Da Lb Db;have d:lH D:=⟨by have:=b.l;have:=zau b.nL (l₂:=jL La Lb) b.s;omega,fun x hx=>by grind⟩;refine ai ⟨⟨by show(cE (jL La Lb).length _).length<=24;rw[ff];omega,fun x hx=>?_⟩,⟨by unfold aD;rw[ff];omega,fun x hx=>?_⟩,by simp_all [ff,sB,aD]⟩;obtain⟨i,a,rfl⟩:=zaa.1 hx;(try dsimp only);split;rename_i h;have:=ajf d (i:=aX L ((jL La Lb).getD i 0)+1) (by have:=b.l;omega);omega;omega;obtain⟨i,a,rfl⟩:=zaa.1 hx;have a:=zae.1 a;have:=c _ (eX (l:=cC La Da Lb Db) a);have h3:((cC La Da Lb Db).getD i 0).toNat<=8:=(by omega);have h4:=za8 (k/eV (cC La Da Lb Db) (i+1)) (show((cC La Da Lb Db).getD i 0).toNat>0 by omega);unfold fD;omega
theorem j8.next {La Da Lb Db:U} (H:j8 La Da Lb Db) (hp:aB (cC La Da Lb Db)<=65536) {k:Nat} (a:k<aB (cC La Da Lb Db)):vj (cC La Da Lb Db,aD (cC La Da Lb Db) k)=some (decide (k+1<aB (cC La Da Lb Db)),aD (cC La Da Lb Db) (k+1)):=by have e:kl (cC La Da Lb Db) (aD (cC La Da Lb Db) k) (cC La Da Lb Db).length=k:=NQ H.gJ a;have:=show vj (cC La Da Lb Db,aD (cC La Da Lb Db) k)=_ from ai ⟨H.gJ,by rw[e],by simp_all,by grind⟩;rw[this,e]
theorem ajt {S a:U} (h:0<=fF S a):mh S a=true/\aB a<=4096/\(∀x∈a,1<=x/\x<=8)/\fF S a=(aB a:Int):=by unfold fF at h;split at h;rename_i b;have c:=tE (D:=a) fun x hx=>(rJ b.1 x hx).1;exact⟨b.1,by omega,rJ b.1,by rw[<-c];exact ai b⟩;omega
theorem awS {S a:U} (h:¬0<=fF S a):fF S a= -1:=by unfold fF at h⊢;split at h;rename_i b;have hI:=tE (D:=a) fun x hx=>(rJ b.1 x hx).1;omega;grind
theorem acq {r:Rg} {L D A:U} (a:f7 r (L,D,A)=true) {o:Nat} (b:o<aB D):KW (r,(L,D,A),(o:Int))=some (kH r A o):=Wl a b
theorem alf {r:Rg} {f:Nat->U} {a:Nat->Nat} (hr:dA r=true) (b:∀k,eD r (f k)=true) {N k:Nat} (c:a k<N):
  gf (fw (fun n=>kV r f a n k) N) (a k*ar r) (g9 r (kV r f a (a k) k) (f k))=fw (fun n=>kV r f a n (k+1)) N:=by
 rw[N0 (jf (acr hr (ER hr b a _ k) (b k))) (fun i _=>jf (ER hr b a i k)) c];refine CX fun n _=>?_;show(if n=a k then _ else _)=if a k=n then _ else _
 grind
set_option maxHeartbeats 4000000 in
theorem ab6 {r:Rg} {La Da A Lb Db d d9 S:U} (N:f7 r (La,Da,A)=true) (F:f7 r (Lb,Db,d)=true) (H:j8 La Da Lb Db) (Y:d9.length<=1000) (hS:Nv La Lb d9=S):
  Er (r,(La,Da,A),(Lb,Db,d),d9)=some (EQ r La Da A Lb Db d S):=by
 obtain⟨o,⟨a12,ad⟩,hta,⟨ap1,Lh⟩,hA,aG,aT⟩:=j7 N;obtain⟨Xl,⟨CS,bd⟩,Xq,⟨bp1,Lm⟩,hB,bG,bT⟩:=j7 F;have P:=mE o;have lea:=(ku H.xa).2.1;have leb:=(ku H.xb).2.1;have G:=H.dN;have LH:=H.d8;have QP:=DD La Da Lb Db;have E:=H.vc;have W:=H.vd;have u:=H.ai6 fun x=>decide (x∈d9);rw[show(jL La Lb).filter (fun x=>decide (x∈d9))=S from hS] at u
 have nJ:=E.nJ;have axt:∀v∈S,v∈jL La Lb:=u.s;have K:=Kx E W N F;simp only[Er,Tj,ah];obtain⟨f,l,j⟩:=r;generalize Xn:(f,l,j)=r at*
 have hAl:A.length<=24576:=by rw[hA];exact Pd (IS Lh P.2.2) (by omega)
 have hBl:d.length<=24576:=by rw[hB];exact Pd (IS Lm P.2.2) (by omega)
 rw[show tT (r,La,Da,A)=some (f7 r (La,Da,A)) from ai ⟨by grind,by grind,by grind⟩,N]
 try simp only[bM]
 rw[show de true=false from rfl,jR,show tT (r,Lb,Db,d)=some (f7 r (Lb,Db,d)) from ai ⟨by grind,by grind,by grind⟩,F]
 try simp only[bM]
 rw[show de true=false from rfl,jR,H.ae1]
 try simp only[bM,gj]
 rw[show de true=false from rfl,jR,agM LH (by omega) (by have:=H.p24;omega)]
 try simp only[bM,gj]
 unfold EQ;by_cases R:aB (cC La Da Lb Db)<=65536
 rotate_left
 ·rw[be dt,aq fun q=>R q.1]
 have hSl:S.length<=24:=by
  rw[<-hS];exact Pd (zag _ _) G
 rw[aW eB,apr (jL La Lb) d9 (by omega) Y,show(jL La Lb).filter (fun x=>decide (x∈d9))=S from hS]
 try simp only[bM,gj,bE]
 rw[si (by simp only[aa,fe];omega)]
 try simp only[bM,bE]
 rw[show aU 0 0 (aa ([]:U))=some () from rfl,show aU 0 (aa S) (aa (cJ (aa S) (0:Int)))=some () from ng (by simp[aa,cJ])]
 try simp only[bM,bE]
 obtain⟨J,y⟩:∃J,jL La Lb=J:=⟨_,rfl⟩;obtain⟨b,m⟩:∃b,cC La Da Lb Db=b:=⟨_,rfl⟩;obtain⟨a,Q⟩:∃a,S.map (jd La Da Lb Db)=a:=⟨_,rfl⟩;have WK:∀{L D:U},aB D<=4096->(∀x∈D,1<=x/\x<=8)->Sub L D J b->∀k,AJ (sB L D J,aD b k)=some ((nf L D J (aD b k):Nat):Int):=by
  rw[<-y,<-m];exact fun w h2 hs k=>H.dot w h2 hs k
 have xc:∀k,k<aB b->vj (b,aD b k)=some (decide (k+1<aB b),aD b (k+1)):=by
  rw[<-m];exact fun k Y=>H.next R Y
 have gdJ:∀v,v∈J->b.getD (aX J v) 0=jd La Da Lb Db v:=fun v C=>by
  rw[<-m,<-y];unfold cC;rw[h9 (eZ (by simp_all)),jp (by simp_all)]
 have axm:∀q,q<S.length->a.getD q 0=jd La Da Lb Db (S.getD q 0):=fun q p=>by rw[<-Q,h9 p]
 have leS:S.length=a.length:=by rw[<-Q,AI]
 have sS:=u.s;have M:qP r La Da A Lb Db d=GM r A d (fun k=>nf La Da J (aD b k)) (fun k=>nf Lb Db J (aD b k)):=by
  unfold qP;rw[y,m]
 have hfC:uT La Da Lb Db S a=fun k=>nf S a J (aD b k):=by
  unfold uT;rw[y,m]
 rw[Q] at u⊢;rw[y] at QP G nJ sS⊢;rw[m] at QP R LH⊢;rw[y,m] at E W u;rw[gd (fun k=>(((S.length:Int),(k:Int)),r,(La,Da,A),(Lb,Db,d),([]:U),([]:U),([]:U),S,cE S.length (ug J a S k 0),([]:U),J,b)) S.length ?a1 ?a2 ?a3 dY]
 case a1=>
  intro k t;dsimp only
  rw[be dt,kU (by show k<S.length;omega)]
  try simp only[bM]
  rw[gW,show bL S k=some (S.getD k 0) from mP t]
  try simp only[bM,bE]
  have d6:=eZ (sS _ (eX t));rw[gd (fun i=>(((k:Int),S.getD k 0,(S.length:Int),(k:Int),(J.length:Int),(i:Int)),r,(La,Da,A),(Lb,Db,d),([]:U),([]:U),([]:U),S,cE S.length (ug J a S k i),([]:U),J,b)) J.length ?b1 ?b2 ?b3 dY]
  case b1=>
   intro i hi;dsimp only
   rw[be dt,kU (by show i<J.length;omega)]
   try simp only[bM]
   rw[gW,show bL J i=some (J.getD i 0) from mP hi]
   try simp only[bM]
   by_cases C:J.getD i 0=S.getD k 0
   ·have fZ:aX J (S.getD k 0)=i:=by rw[<-C];exact kD nJ hi
    rw[be (rN C),kU (by show i<b.length;omega)]
    try simp only[bM]
    rw[gW,show bL b i=some (b.getD i 0) from mP]
    try simp only[bM]
    rw[Ba _ t]
    try simp only[bM]
    rw[gW,Dd _ t]
    try simp only[bM]
    have s7:br (cE S.length (ug J a S k i)) k (b.getD i 0)=cE S.length (ug J a S k (i+1)):=by
     rw[JT];refine nB fun q p=>?_;unfold ug;by_cases e:q=k
     ·grind
     ·omega
    rw[s7,zH]
    try simp only[bM,bE]
    rw[nY]
   ·rw[aW (qw C)]
    try simp only[bM,bE]
    rw[nY];have:cE S.length (ug J a S k i)=cE S.length (ug J a S k (i+1)):=nB fun q p=>by
     unfold ug;refine Nl ⟨fun h=>h.imp id fun h=>⟨h.1,by omega⟩,fun h=>h.imp id fun h=>⟨h.1,?_⟩⟩ _ _;have bm:aX J (S.getD k 0)≠i:=fun e=>C (by rw[<-e];exact jp (sS _ (eX t)));omega
    rw[this]
  case b2=>
   dsimp only
   rw[aW eB]
   try simp only[bM,bE]
   try rfl
  case b3=>rfl
  simp only[bN,GB]
  try simp only[bM,bE]
  rw[nY];have:cE S.length (ug J a S k J.length)=cE S.length (ug J a S (k+1) 0):=nB fun q p=>by
   unfold ug;omega
  rw[this]
 case a2=>
  dsimp only
  rw[aW eB]
  try simp only[bM,bE]
  try rfl
 case a3=>
  rw[Ru];have:cE (aa S) (fun _=>(0:Int))=cE S.length (ug J a S 0 0):=nB fun q _=>by
   simp_all [ug]
  rw[this];rfl
 have sR:cE S.length (ug J a S S.length 0)=a:=by
  refine sL (by rw[ff];exact leS) fun q p=>?_;rw[ff] at p;rw[co,qM _ p];exact ai (.inl p)
 rw[sR];simp only[bN,GB]
 try simp only[bM,gj]
 rw[show tU (S,a,([]:U))=some (fF S a) from ai ⟨by grind,by grind⟩]
 try simp only[bM,gj]
 by_cases X:0<=fF S a
 rotate_left
 ·rw[be (rN (awS X)),aq fun q=>X q.2]
 rw[ai ⟨R,X⟩];obtain⟨xs,O,dS,s9⟩:=ajt X;have s12:=(ku xs).1;have axo:1<=aB a:=Ax fun x hx=>(dS x hx).1;rw[aW qw,show wL r=some (dU r) from ai o]
 try simp only[bM,gj]
 have hzl:=jf (vF o);rw[show CC (r,S,a,dU r)=some (S,a,o9 (dU r) (aB a)) from ai ⟨by grind,⟨by simp_all,dS,O⟩,by simp_all⟩]
 try simp only[bM,gj]
 rw[show zd ((La,Da,A),J)=some (sB La Da J) from ai ⟨H.xa,by grind,Lh⟩]
 try simp only[bM,gj]
 rw[show zd ((Lb,Db,d),J)=some (sB Lb Db J) from ai ⟨H.xb,by grind,Lm⟩]
 try simp only[bM,gj]
 rw[show zd ((S,a,o9 (dU r) (aB a)),J)=some (sB S a J) from ai ⟨xs,by grind,O⟩]
 try simp only[bM,gj]
 rw[si (by simp only[aa,fe];omega)]
 try simp only[bM,gj]
 rw[show tY r=some (lB r) from rfl,P.1]
 try simp only[bM,gj]
 rw[show j6 ((ar r:Nat):Int) ((ar r:Nat):Int) 8=some (ar r) from si (by simp only[fe];omega)]
 try simp only[bM,bE]
 rw[show aU 0 (aa J) (aa (cJ (aa J) (0:Int)))=some () from ng (by simp[aa,cJ]),show aU 0 (ar r) (aa (cJ (ar r) (0:Int)))=some () from ng (by simp[aa,cJ])]
 try simp only[bM,bE]
 have anA:1<=aB b:=Ax fun x hx=>(LH x hx).1;have oa:∀k,nf La Da J (aD b k)<aB Da:=fun k=>E.lt k;have ob:∀k,nf Lb Db J (aD b k)<aB Db:=fun k=>W.lt k;have Z:∀k,nf S a J (aD b k)<aB a:=fun k=>u.lt k;have da:=WK Lh ad E;have db:=WK Lm bd W;have dc:=WK O dS u;unfold zz;rw[Q,M,hfC,m];rw[M] at K;generalize hoa:(fun k=>nf La Da J (aD b k))=z at*
 generalize hob:(fun k=>nf Lb Db J (aD b k))=B at*
 generalize Xb:(fun k=>nf S a J (aD b k))=c at*
 have eoa:∀k,nf La Da J (aD b k)=z k:=fun k=>by rw[<-hoa]
 have eob:∀k,nf Lb Db J (aD b k)=B k:=fun k=>by rw[<-hob]
 have eoc:∀k,nf S a J (aD b k)=c k:=fun k=>by rw[<-Xb]
 simp only[eoa] at da oa;simp only[eob] at db ob;simp only[eoc] at dc Z;generalize hT:GM r A d z B=T at*
 have eT:∀k,pK r (kH r A (z k)) (kH r d (B k))=T k:=fun k=>by rw[<-hT];rfl
 have I:=fun n k=>ER o K c n k;have g:∀k,(fw (fun n=>kV r T c n k) (aB a)).length=aB a*ar r:=fun k=>zt fun n _=>jf (I n k);have hm:∀k,(c k+1)*ar r<=aB a*ar r:=fun k=>IN _ (Z k);have iM:aB a*ar r<=4096*6:=IS O P.2.2;have ri:∀k,qR (aK (c k*ar r),aK (au (c k*ar r) (ar r)),r,fw (fun n=>kV r T c n k) (aB a),T k)=some (fw (fun n=>kV r T c n (k+1)) (aB a)):=by
  intro k;have w:=hm k;rw[Pe,zac] at w;have hs:=Kc (fun i _=>jf (I i k)) (Z k);rw[show aK (c k*ar r)=((c k*ar r:Nat):Int) from rfl,show aK (au (c k*ar r) (ar r))=((c k*ar r+ar r:Nat):Int) from rfl,aj4 o (by rw[g];omega) (by grind) (K k),hs,alf o K (Z k)]
 have kJ:∀k,xP (r,(S,a,fw (fun n=>kV r T c n k) (aB a)),((c k:Nat):Int))=some (((c k*ar r:Nat):Int),(((c k+1)*ar r:Nat):Int)):=fun k=>by
  have:=show xP (r,(S,a,fw (fun n=>kV r T c n k) (aB a)),((c k:Nat):Int))=_ from ai ⟨o,by grind,by dsimp only;rw[BY,g];exact hm k,by dsimp only;rw[g];omega⟩
  rw[this];simp only[BY]
 have hga:∀k,rH (r,(La,Da,A),((z k:Nat):Int))=some (kH r A (z k)):=fun k=>acq N (oa k);have hgb:∀k,rH (r,(Lb,Db,d),((B k:Nat):Int))=some (kH r d (B k)):=fun k=>acq F (ob k);have W6:∀k (x:U),x.length=ar r->GY (r,x,kH r A (z k),kH r d (B k))=some (T k):=fun k x hx=>by
  rw[<-eT];exact ai ⟨o,hx,zB N (oa k),zB F (ob k)⟩
 have Wr:∀k,(T k).length=ar r:=fun k=>jf (K k);have yl:∀k,(if k=0 then cJ (ar r) (0:Int) else T (k - 1)).length=ar r:=fun k=>by
  split
  ·simp[cJ]
  ·exact Wr _
 have anC:∀k,k<aB b->jP ((c k*ar r:Nat):Int) (((c k+1)*ar r:Nat):Int) (aa (fw (fun n=>kV r T c n k) (aB a)))=some (c k*ar r,ar r)/\
   (∃v,bL (fw (fun n=>kV r T c n k) (aB a)) (c k*ar r)=some v)/\(∃v,cr (fw (fun n=>kV r T c n k) (aB a)) (c k*ar r) (ar r)=some v)/\
   cr (T k) 0 (aa (if k=0 then cJ (ar r) (0:Int) else T (k - 1)))=some (T k):=fun k Y=>by
  have w:=hm k;have h2:=w;rw[Pe,zac] at w;refine⟨?_,⟨_,getD_some 0 (by rw[g];omega)⟩,⟨_,aw9 (by show _<=(fw _ _).length;rw[g];omega)⟩,?_⟩
  ·rw[ZY (by rw[Pe,zac];omega) (by show _<=(fw _ _).length;rw[g];omega),Pe,zac,zaw]
  ·rw[show aa (if k=0 then cJ (ar r) (0:Int) else T (k - 1))=aa (T k) from(yl k).trans (Wr k).symm]
   exact gj _
 subst Xn
 try dsimp only
 rw[afT (aB b) (fun k=>((f,l,j),(La,Da,A),(Lb,Db,d),([]:U),([]:U),([]:U),S,a,fw (fun n=>kV (f,l,j) T c n k) (aB a),b,sB La Da J,sB Lb Db J,sB S a J,aD b k,if k=0 then cJ (ar (f,l,j)) (0:Int) else T (k - 1))) anA ?c1 ?c3 (zbw dY)]
 case c1=>
  intro k t;dsimp only
  obtain⟨q1,⟨v1,q2⟩,⟨v2,q3⟩,q4⟩:=anC k (by omega);simp only[bM,gj,bE,da k,hga k,db k,hgb k,W6 k _ (yl k),dc k,kJ k,q1,q2,q3,q4,ri k,xc k t];by_cases V:k+1<aB b
  ·rw[ai V,decide_eq_true V,show de true=false from rfl,jR]
   rw[show aU 0 (aa (aD b k)) (aa (aD b (k+1)))=some () from zH _ _ _,show aU 0 (aa (if k=0 then cJ (ar (f,l,j)) (0:Int) else T (k - 1))) (aa (T k))=some () from ng ((yl k).trans (Wr k).symm)]
   rw[show aU 0 (aa (fw (fun n=>kV (f,l,j) T c n k) (aB a))) (aa (fw (fun n=>kV (f,l,j) T c n (k+1)) (aB a)))=some () from ng ((g _).trans (g _).symm)]
   try simp only[bM]
   rw[aq (show k+1≠0 by omega),Nat.add_sub_cancel]
  ·rw[aq V,decide_eq_false V,show de false=true from rfl,mJ]
   try simp only[kF,bM]
   rw[show dO (fw (fun n=>kV (f,l,j) T c n (k+1)) (aB a)) (aa (fw (fun n=>kV (f,l,j) T c n k) (aB a)))=some (fw (fun n=>kV (f,l,j) T c n (k+1)) (aB a)) from awH ((g _).trans (g _).symm)]
   try simp only[bM]
   rw[show k+1=aB b by omega]
   try rfl
 case c3=>
  rw[Ru];have e0:aD b 0=cE (aa J) fun _=>0:=by
   unfold aD;rw[QP];refine nB fun i _=>?_;unfold fD;rw[Nat.zero_div,Nat.zero_mod];rfl
  rw[<-e0,Rv];rfl
 try rfl

def fu (La Lb:U):U:=(jL La Lb).filter fun v=> !(decide (v∈La)&&decide (v∈Lb))
theorem UH {S c D:U} (h:mh S c=true) (hl:D.length=S.length) (hd:∀x∈D,1<=x/\x<=8):mh S D=true:=by have a:=ku h;unfold mh;rw[IT,IT,decide_eq_true_eq,decide_eq_true_eq,decide_eq_true_eq];exact⟨a.1,hl.symm,fun j b=>⟨(a.2.2 j b).1,hd _ (eX (by omega)),(a.2.2 j b).2.2⟩⟩
theorem QU {r:Rg} {L D A:U} (hr:dA r=true) (hx:mh L D=true) (hp:aB D<=4096) (c:A.length=aB D*ar r) (a:∀x∈A,qF (dz r) x=true):f7 r (L,D,A)=true:=by
 have d:=tE (D:=D) fun x h=>(rJ hx x h).1;have b:=mE hr;have e:fF L D=(aB D:Int):=by rw[<-d];exact ai ⟨hx,by omega⟩
 unfold f7;rw[IT,IT,IT,decide_eq_true_eq,decide_eq_true_eq];exact⟨hr,by show 0<=fF L D;omega,by show(A.length:Int)=fF L D*lB r;rw[e,b.1,c];push_cast;rfl,zaj.2 a⟩
theorem Lo {p:Int->Prop} {g:Nat->U}:∀n,(∀i,i<n->∀x∈g i,p x)->∀x∈fw g n,p x
 |0,_,x,hx=>by cases hx
 |n+1,h,x,hx=>by rcases zaF.1 hx with q|q;exact Lo n (fun i hi=>h i (by omega)) x q;exact h n (by omega) x q
theorem Po {r:Rg} {x:U} (h:eD r x=true):∀v∈x,qF (dz r) v=true:=by unfold eD at h;rw[IT] at h;exact zaj.1 h.2
theorem Ht {r:Rg} {L D A:U} {m:Int} {R:List U} (b:f7 r (L,D,A)=true) (H:gm D m R) {ch:U} (c:gn R ch): f7 r (L,bw R ch,nZ r A (eF D R ch) (aB (bw R ch)))=true/\∀j,j<aB (bw R ch)->kH r (nZ r A (eF D R ch) (aB (bw R ch))) j=kH r A (eF D R ch j):=by obtain⟨hr,_,_,⟨mQ,d⟩,hA,_,_,_,_⟩:=j7 b;have B:=H.blk c;have hx:=(Kv b).1;have hl:=(ku hx).2.1;have a:∀j,eD r (kH r A (eF D R ch j))=true:=fun j=>zB b (H.Jw c j);rw[U7];refine⟨QU hr (UH hx (by rw[B.bl,hl]) B.b8) (Pd B.pD d) (zt fun i _=>jf (a i)) (Lo _ fun i _=>Po (a i)),fun j e=>?_⟩;exact Kc (fun i _=>jf (a i)) e
structure BP (r:Rg) (La Da A:U) (Ra:List U) (Lb Db B:U) (Rb:List U) (m:Int):Prop where
 ca:qq r (La,Da,A) (m,Ra)=true
 cb:qq r (Lb,Db,B) (m,Rb)=true
 o:∀i,i<La.length->tB La Da Ra Lb Db Rb m i
section
variable {r:Rg} {La Da A:U} {Ra:List U} {Lb Db B:U} {Rb:List U} {m:Int}
theorem BP.ta (H:BP r La Da A Ra Lb Db B Rb m):f7 r (La,Da,A)=true:=(of_decide_eq_true H.ca).1
theorem BP.tb (H:BP r La Da A Ra Lb Db B Rb m):f7 r (Lb,Db,B)=true:=(of_decide_eq_true H.cb).1
theorem BP.ka (H:BP r La Da A Ra Lb Db B Rb m):jQ ((La,Da,A),(m,Ra))=true:=(of_decide_eq_true H.ca).2.1
theorem BP.kb (H:BP r La Da A Ra Lb Db B Rb m):jQ ((Lb,Db,B),(m,Rb))=true:=(of_decide_eq_true H.cb).2.1
theorem BP.two (H:BP r La Da A Ra Lb Db B Rb m):j8 La Da Lb Db:=by have xa:=Kv H.ta;have xb:=Kv H.tb;have ta:=j7 H.ta;have tb:=j7 H.tb;refine⟨xa.1,xb.1,ta.2.2.2.1.2,tb.2.2.2.1.2,fun v a b=>?_⟩;have:=H.o _ (eZ a);unfold tB at this;rw[jp a] at this;exact(this b).1
theorem BP.p (H:BP r La Da A Ra Lb Db B Rb m):fR La Da Ra Lb Db Rb m:=by have xa:=(Kv H.ta).1;have xb:=(Kv H.tb).1;refine⟨A8 H.ka,A8 H.kb,xZ xa,xZ xb,(ku xa).2.1,(ku xb).2.1,fun v a b=>?_⟩;have:=H.o _ (eZ a);unfold tB at this;rw[jp a] at this;exact this b
section
variable {x y:U}
theorem BP.aaI (H:BP r La Da A Ra Lb Db B Rb m) (hx:gn Ra x) (hy:gn Rb y) (hm:nz La Lb m x y):j8 La (bw Ra x) Lb (bw Rb y):=by have P:=H.p;have b:=P.HA.blk hx;have a:=P.HB.blk hy;have T:=H.two;refine⟨UH T.xa (by rw[b.bl,P.la]) b.b8,UH T.xb (by rw[a.bl,P.lb]) a.b8,Pd b.pD T.pa,Pd a.pD T.pb,fun v d c=>?_⟩;have e:=(P.YA (y:=y) hx).2;have f:=(P.YB hx hy hm).2;rw[<-e,<-f,h9 (eZ d),h9 (eZ c),jp d,jp c]
theorem BP.f8 (H:BP r La Da A Ra Lb Db B Rb m) (hx:gn Ra x) (hy:gn Rb y) (hm:nz La Lb m x y) {v:Int} (c:v∈jL La Lb):1<=fL (j0 La Ra Lb Rb x y) v/\fL (j0 La Ra Lb Rb x y) v<=jd La Da Lb Db v:=by have P:=H.p;have h1:=P.la;have h2:=P.lb;have h3:=P.HA.rl;have h4:=P.HB.rl;have N:=P.jn hx hy hm;have:=N.p v c;unfold fL;refine⟨by omega,?_⟩;unfold j0;by_cases a:v∈La;rw[ai a,P.yG a];have:=OH (Ra.getD (aX La v) []) (x.getD (aX La v) 0);have:=P.HA.row (aX La v) (by have:=eZ a;omega);omega;have b:=(th c).resolve_left a;rw[aq a,P.BV b];have:=OH (Rb.getD (aX Lb v) []) (y.getD (aX Lb v) 0);have:=P.HB.row (aX Lb v) (by have:=eZ b;omega);omega
theorem agZ {f g:Int->Int}:∀{l:U},(∀v∈l,f v<=g v)->aB (l.map f)<=aB (l.map g)
 |[],_=>zad _
 |v::l,h=>by have:=h v (by simp);simp only[zaH,aB];exact IS (by omega) (agZ fun w a=>h w (by simp[a]))
theorem afm {S:U} (H:BP r La Da A Ra Lb Db B Rb m) (hx:gn Ra x) (hy:gn Rb y) (hm:nz La Lb m x y) (a:∀v∈S,v∈jL La Lb):S.map (jd La (bw Ra x) Lb (bw Rb y))=S.map (fL (j0 La Ra Lb Rb x y)):=by refine zav fun v b=>?_;have e:=H.p.dJ hx hy hm;have c:=eZ (a v b);have:=congrArg (fun l=>l.getD (aX (jL La Lb) v) 0) e;simp only[cC] at this;rw[h9 c,h9 c,jp (a v b)] at this;exact this
theorem BP.awO (H:BP r La Da A Ra Lb Db B Rb m) (hx:gn Ra x) (hy:gn Rb y) (hm:nz La Lb m x y) (j:Nat): qP r La (bw Ra x) (nZ r A (eF Da Ra x) (aB (bw Ra x))) Lb (bw Rb y) (nZ r B (eF Db Rb y) (aB (bw Rb y))) j=qP r La Da A Lb Db B (rM (jL La Lb) (cC La Da Lb Db) (j0 La Ra Lb Rb x y) j):=by have P:=H.p;have N:=P.jn hx hy hm;have T:=H.aaI hx hy hm;have c:=N.off P.na xm P.la j;have b:=N.off P.nb Ac P.lb j;rw[(P.YA hx).1,(P.YA hx).2] at c;rw[(P.YB hx hy hm).1,(P.YB hx hy hm).2] at b;have d:=P.dJ hx hy hm;have e:=T.vc.lt j;have a:=T.vd.lt j;unfold qP GM;dsimp only;rw[c,b];rw[d] at e a⊢;rw[(Ht H.ta P.HA hx).2 _ e,(Ht H.tb P.HB hy).2 _ a];rfl
end
def acg (r:Rg) (La Da A Lb Db B S:U) (l:List Nat):U:=
 fw (fun n=>SL r (vQ r (qP r La Da A Lb Db B) (uT La Da Lb Db S (S.map (jd La Da Lb Db))) n) l) (aB (S.map (jd La Da Lb Db)))
def PL (La Da:U) (Ra:List U) (Lb Db:U) (Rb:List U) (m:Int) (X Y:List U) (i j:Nat):List Nat:=
 mG La Da Ra Lb Db Rb m (X.take i) Y++vJ La Da Ra Lb Db Rb m (Y.take j) (X.getD i [])
theorem ajU (X Y:List U):PL La Da Ra Lb Db Rb m X Y 0 0=[]:=by simp[PL,mG,vJ]
theorem aaD {α:Type} {l:List α} {i:Nat} {d:α} (h:i<l.length):l.take (i+1)=l.take i++[l.getD i d]:=by rw[zbf,getD_some d h];rfl
theorem abg {X Y:List U} {i j:Nat} (a:j<Y.length):PL La Da Ra Lb Db Rb m X Y i (j+1)=PL La Da Ra Lb Db Rb m X Y i j++vK La Da Ra Lb Db Rb m (X.getD i []) (Y.getD j []):=by unfold PL vJ;rw[aaD (d:=[]) a,zax,zah];simp
theorem ajW {X Y:List U} {i:Nat} (a:i<X.length):PL La Da Ra Lb Db Rb m X Y i Y.length=PL La Da Ra Lb Db Rb m X Y (i+1) 0:=by unfold PL;rw[zay,aaD (d:=[]) a];unfold mG;rw[zax];simp[vJ]
theorem ajV (X Y:List U):PL La Da Ra Lb Db Rb m X Y X.length 0=mG La Da Ra Lb Db Rb m X Y:=by unfold PL;rw[zay];simp[vJ]
theorem ajX {X Y:List U} {i j:Nat} (c:i<X.length):(PL La Da Ra Lb Db Rb m X Y i j).length<=(mG La Da Ra Lb Db Rb m X Y).length:=by have e:mG La Da Ra Lb Db Rb m X Y=mG La Da Ra Lb Db Rb m (X.take (i+1)) Y++mG La Da Ra Lb Db Rb m (X.drop (i+1)) Y:=(by unfold mG;rw[<-zax,zaG]);rw[e,aaD (d:=[]) c,By];have b:mG La Da Ra Lb Db Rb m (X.take i++[X.getD i []]) Y=mG La Da Ra Lb Db Rb m (X.take i) Y++vJ La Da Ra Lb Db Rb m Y (X.getD i []):=(by unfold mG;rw[zax];simp);have a:vJ La Da Ra Lb Db Rb m Y (X.getD i [])=vJ La Da Ra Lb Db Rb m (Y.take j) (X.getD i [])++vJ La Da Ra Lb Db Rb m (Y.drop j) (X.getD i []):=(by unfold vJ;rw[<-zax,zaG]);unfold PL;rw[b,a];simp only[By];omega
theorem ant {x y:U} (hm:nz La Lb m x y):(vK La Da Ra Lb Db Rb m x y).length=aB ((jL La Lb).map (fL (j0 La Ra Lb Rb x y))):=by unfold vK;rw[ai hm,AI,zar]
theorem anu {x y:U} (hm:¬nz La Lb m x y):vK La Da Ra Lb Db Rb m x y=[]:=aq hm
theorem BP.acc (H:BP r La Da A Ra Lb Db B Rb m) {x y:U} (hx:gn Ra x) (hy:gn Rb y) (hm:nz La Lb m x y) {S:U} (d:∀v∈S,v∈jL La Lb) (nS:S.Nodup) (l:List Nat):
  let f:=j0 La Ra Lb Rb x y;let N:=aB (S.map (fL f));let off:=fun n=>rC (S.map (jd La Da Lb Db)) (AY (S.map f) (aD (S.map (fL f)) n));let t:=fun n=>kV r (qP r La (bw Ra x) (nZ r A (eF Da Ra x) (aB (bw Ra x))) Lb (bw Rb y) (nZ r B (eF Db Rb y) (aB (bw Rb y)))) (uT La (bw Ra x) Lb (bw Rb y) S (S.map (jd La (bw Ra x) Lb (bw Rb y)))) n (aB (cC La (bw Ra x) Lb (bw Rb y)));let h:=fun n=>SL r (vQ r (qP r La Da A Lb Db B) (uT La Da Lb Db S (S.map (jd La Da Lb Db))) n) l
  (∀n,n<N->off n<aB (S.map (jd La Da Lb Db)))/\(∀n,eD r (t n)=true)/\(∀n,eD r (h n)=true)/\
  fw (CP r h t off N) (aB (S.map (jd La Da Lb Db)))=acg r La Da A Lb Db B S (l++vK La Da Ra Lb Db Rb m x y):=by
 intro f N off t h;have P:=H.p;have J:=P.jn hx hy hm;have hr:=(j7 H.ta).1;have T:=H.aaI hx hy hm;have R:=(Ht H.ta P.HA hx).1;have ty:=(Ht H.tb P.HB hy).1;have M:=Kx P.vc P.vd H.ta H.tb;have o:=Kx T.vc T.vd R ty;have tok:∀n,eD r (t n)=true:=fun n=>ER hr o _ _ _;have K:∀n,eD r (h n)=true:=fun n=>AW hr (MD hr M _ n) l;have F:Jn S (S.map (jd La Da Lb Db)) f:=by
  refine⟨nS,by rw[AI],⟨?_,fun q g=>?_⟩,fun v c=>J.p v (d v c),fun v c=>J.nd v (d v c),fun i a w V=>?_⟩
  ·have:=zau nS (l₂:=jL La Lb) d;have:=P.lJ;rw[AI];omega
  ·obtain⟨v,c,rfl⟩:=zaa.1 g;have:=P.dv (d v c);omega
  ·rw[h9 a];have c:=d _ (eX a);have O:=eZ c;have:=J.b _ O w (by rw[jp c];exact V);rw[show(cC La Da Lb Db).getD (aX (jL La Lb) (S.getD i 0)) 0=jd La Da Lb Db (S.getD i 0) by unfold cC;rw[h9 O,jp c]] at this;exact this
 have G:∀n,off n=rM S (S.map (jd La Da Lb Db)) f n:=fun n=>by
  show rC _ _=rC _ _;congr 1;refine sL (by rw[OI];unfold AY;rw[ff,FM]) fun i a=>?_;unfold AY at a;rw[ff,FM] at a;rw[F.w _ a];unfold AY;rw[JS _ (by rw[FM];exact a)];rw[show(S.map f).getD i []=f (S.getD i 0) by rw[co,zab,getD_some 0 a];rfl]
 have C:∀n,n<N->off n<aB (S.map (jd La Da Lb Db)):=fun n hn=>by rw[G];exact F.lt n
 have z:∀i j,i<N->j<N->off i=off j->i=j:=fun i j a W e=>F.inj a W (by rw[<-G,<-G,e]);refine⟨C,tok,K,?_⟩;unfold acg;refine CX fun n hn=>?_;have hh:=MD hr M (uT La Da Lb Db S (S.map (jd La Da Lb Db))) n;rw[Uv hr hh];have E:vK La Da Ra Lb Db Rb m x y=(zaC (aB ((jL La Lb).map (fL f)))).map (rM (jL La Lb) (cC La Da Lb Db) f):=ai hm;rw[E,abk];have u:∀j,uT La Da Lb Db S (S.map (jd La Da Lb Db)) (rM (jL La Lb) (cC La Da Lb Db) f j)=off (uT La (bw Ra x) Lb (bw Rb y) S (S.map (jd La (bw Ra x) Lb (bw Rb y))) j):=fun j=>by
  have:=J.off (L:=S) (D:=S.map (jd La Da Lb Db)) nS d (by rw[AI]) j;unfold uT;rw[this,afm H hx hy hm d,P.dJ hx hy hm]
 have s:∀j,uT La (bw Ra x) Lb (bw Rb y) S (S.map (jd La (bw Ra x) Lb (bw Rb y))) j<N:=fun j=>by
  unfold uT;have Q:Sub S (S.map (jd La (bw Ra x) Lb (bw Rb y))) (jL La Lb) (cC La (bw Ra x) Lb (bw Rb y)):=by
   refine⟨nS,P.nJ,d,(AI ..).symm,DD ..,fun i a=>?_,fun q g=>(T.d8 q g).1⟩;have c:=d _ (eX a);unfold cC;rw[h9 (eZ c),jp c,h9 a]
  have:=Q.lt j;rw[afm H hx hy hm d] at this⊢;exact this
 by_cases I:∃q,q<N/\off q=n
 ·obtain⟨q,g,rfl⟩:=I;rw[abm z N (zad _) g];congr 1;show kV r _ _ q _=_;rw[HI hr o,P.dJ hx hy hm];refine abi _ fun j _=>?_;unfold vQ;rw[u j,H.awO hx hy hm j];exact Nl ⟨fun e=>by rw[e],fun e=>z _ _ (s j) g e⟩ _ _
 ·rw[UA N fun q g e=>I ⟨q,g,e⟩];have:SL r (fun k=>vQ r (qP r La Da A Lb Db B) (uT La Da Lb Db S (S.map (jd La Da Lb Db))) n (rM (jL La Lb) (cC La Da Lb Db) f k)) (zaC (aB ((jL La Lb).map (fL f))))=dU r:=Uw hr _ fun j _=>by
   unfold vQ;rw[aq];intro e;rw[u j] at e;exact I ⟨_,s j,e⟩
  rw[this,add_zero hr (K n)]
end
def Te (NN:Nat):((Int×(Int×Int))×((U×(U×U))×((Int×(List U))×((U×(U×U))×(Int×(List U))))))->(Option ((U×(U×U))×(Int×Bool))):=
 (fun((i0,i1,i2),(l3,l4,l5),(i6,l7),(l8,l9,cP),fU,eu)=>
 (wK ((i0,i1,i2),(l3,l4,l5),i6,l7)).ae (fun Ll=>
 aA (de Ll)
 (some ((([]:U),([]:U),([]:U)),(0:Int),false))
 ((wK ((i0,i1,i2),(l8,l9,cP),fU,eu)).ae (fun UL=>
 aA (de UL)
 (some ((([]:U),([]:U),([]:U)),(0:Int),false))
 (aA (iQ i6 fU)
 (some ((([]:U),([]:U),([]:U)),(0:Int),false))
 ((KN ((l3,l4,l5),(i6,l7),(l8,l9,cP),fU,eu)).ae (fun UM=>
 aA (de UM)
 (some ((([]:U),([]:U),([]:U)),(0:Int),false))
 ((GX (l3,l8)).ae (fun dM=>
 bN ((aU 0 0 (aa (([]:U)))).ae (fun _=>
 ah dM (
 (aU 0 0 (aa (([]:U)))).ae (fun _=>
 (aU 0 0 (aa (([]:U)))).ae (fun _=>
 (aU 0 0 (aa (([]:U)))).ae (fun _=>
 bS NN (fun((gN,gO),(gD,eO,ga),(ef,ie,dN),(jo,fO),(gw,ji,dW),(np,fG),jI,gz,jB,iG,gQ)=>
 aA (cH gO gN)
 ((dg gO (aa gQ)).ae (fun wb=>
 (bL gQ (au 0 wb)).ae (fun nq=>
 (rG ((ef,ie,dN),nq)).ae (fun uy=>
 (rG ((gw,ji,dW),nq)).ae (fun v5=>
 aA (YP (gZ (0:Int) uy) (gZ (0:Int) v5))
 (ah iG (
 (cr ((nq::[])) 0 1).ae (fun kP=>
 (jT (au (aa iG) (aa kP)) 8).ae (fun _=>
 (aU 0 (au (aa iG) (aa kP)) (aa (ci iG kP))).ae (fun _=>
 ah gQ (
 ah jI (
 ah gz (
 ah jB (
 some (wt ((gN,bt .i64 gO 1),(gD,eO,ga),(ef,ie,dN),(jo,fO),(gw,ji,dW),(np,fG),jI,gz,jB,ci iG kP,gQ)))))))))))
 (ah iG (
 ah gQ (
 ah jI (
 ah gz (
 ah jB (
 some (wt ((gN,bt .i64 gO 1),(gD,eO,ga),(ef,ie,dN),(jo,fO),(gw,ji,dW),(np,fG),jI,gz,jB,iG,gQ)))))))))))))
 ((ah iG (
 ah jI (
 ah gz (
 ah jB (
 some (wt ((gD,eO,ga),(ef,ie,dN),(jo,fO),(gw,ji,dW),(np,fG),jI,gz,jB,iG))))))).ae (fun ig=>
 some (AT ig))))
 ((aK (aa dM),(0:Int)),(i0,i1,i2),(l3,l4,l5),(i6,l7),(l8,l9,cP),(fU,eu),([]:U),([]:U),([]:U),([]:U),dM)))))))
 (fun((nt,rY,nP),(pI,ov,jC),(uz,jK),(kA,jV,qc),(oP,kB),iV,iz,lg,iW)=>
 (cr iW 0 (aa iW)).ae (fun lU=>
 (Er ((nt,rY,nP),(pI,ov,jC),(kA,jV,qc),lU)).ae (fun((iY,gH,lV),b64)=>
 aA (de b64)
 (some ((([]:U),([]:U),([]:U)),(0:Int),false))
 ((AH ((pI,ov,jC),uz,jK)).ae (fun ny=>
 (AH ((kA,jV,qc),oP,kB)).ae (fun sd=>
 bN (ah sd (
 ah ny (
 ah iV (
 ah iz (
 ah lg (
 ah iY (
 ah gH (
 ah lV (
 bS NN (fun((yC,yD,uC),(i70,ki),oT,qH,wm,Ai,yR,se,ox,oU)=>
 aA (cH uC yD)
 (bN ((dg uC (aa oU)).ae (fun Yg=>
 (bL oU (au 0 Yg)).ae (fun(oy,tv,xr,oV)=>
 ah ox (
 ah oU (
 ah ox (
 ah oT (
 ah qH (
 ah wm (
 ah Ai (
 ah yR (
 ah se (
 bS NN (fun((Ni,XR,FF,yF,BS),(IQ,nR),(pJ,kQ,lk,qf),oz,oA,j5,oW,rq,oh,r7,tm)=>
 aA (cH BS yF)
 ((dg BS (aa r7)).ae (fun Nq=>
 (bL r7 (au 0 Nq)).ae (fun(wc,pE,r8,wg)=>
 (KL ((pJ,kQ,lk,qf),(wc,pE,r8,wg),IQ)).ae (fun akj=>
 aA (akj)
 ((GU ((kQ,lk,qf),pE,r8,wg)).ae (fun XC=>
 ah r7 (
 ah tm (
 ah r7 (
 ah oz (
 ah oA (
 ah j5 (
 ah oW (
 ah rq (
 ah oh (
 some (wt ((bt .i64 Ni XC,XR,FF,yF,bt .i64 BS 1),(IQ,nR),(pJ,kQ,lk,qf),oz,oA,j5,oW,rq,oh,r7,tm)))))))))))))
 (ah r7 (
 ah tm (
 ah r7 (
 ah oz (
 ah oA (
 ah j5 (
 ah oW (
 ah rq (
 ah oh (
 some (wt ((Ni,XR,FF,yF,bt .i64 BS 1),(IQ,nR),(pJ,kQ,lk,qf),oz,oA,j5,oW,rq,oh,r7,tm))))))))))))))))
 ((ah r7 (
 ah tm (
 ah oz (
 ah oA (
 ah j5 (
 ah oW (
 ah rq (
 ah oh (
 some (wt ((FF,Ni,XR),(IQ,nR),oz,oA,j5,oW,rq,oh,r7,tm))))))))))).ae (fun rr=>
 some (AT rr))))
 ((yC,yD,uC,aK (aa ox),(0:Int)),(i70,ki),(oy,tv,xr,oV),oT,qH,wm,Ai,yR,se,ox,oU)))))))))))))
 (fun((BO,Fz,FA),(FB,uH),yL,yM,xn,xo,Af,tn,r9,xp)=>
 ah r9 (
 ah xp (
 ah yL (
 ah yM (
 ah xn (
 ah xo (
 ah Af (
 ah tn (
 some (wt ((Fz,FA,bt .i64 BO 1),(FB,uH),yL,yM,xn,xo,Af,tn,r9,xp))))))))))))
 ((ah oT (
 ah qH (
 ah wm (
 ah Ai (
 ah yR (
 ah se (
 some (wt (yC,oT,qH,wm,Ai,yR,se))))))))).ae (fun B1=>
 some (AT B1))))
 (((0:Int),aK (aa ny),(0:Int)),(uz,jK),iV,iz,lg,iY,gH,lV,sd,ny))))))))))
 (fun(M9,mw,pF,mz,mS,oj,ot)=>
 (dO mS (aa mS)).ae (fun nv=>
 (dO oj (aa oj)).ae (fun F3=>
 (dO ot (aa ot)).ae (fun wi=>
 some ((nv,F3,wi),M9,true))))))))))))))))))))
def GP:=Te bW
theorem apm (La Lb:U):(fu La Lb).length<=La.length+Lb.length:=Pd (zag _ _) (QF La Lb)
theorem aft {La Lb d9:U} (h:∀v∈jL La Lb,(v∈d9↔¬(v∈La/\v∈Lb))):Nv La Lb d9=fu La Lb:=by unfold Nv fu;refine List.filter_congr fun v c=>?_;have:=h v c;by_cases a:v∈La;by_cases b:v∈Lb;rw[decide_eq_true a,decide_eq_true b,decide_eq_false (fun q=>(this.1 q) ⟨a,b⟩)];rfl;rw[decide_eq_true a,decide_eq_false b,decide_eq_true (this.2 fun q=>b q.2)];rfl;rw[decide_eq_false a,decide_eq_true (this.2 fun q=>a q.1)];rfl
theorem aps (La Lb:U):Nv La Lb (fu La Lb)=fu La Lb:=aft fun v c=>by unfold fu;rw[zaf];constructor;rintro⟨_,h⟩ ⟨a,b⟩;rw[decide_eq_true a,decide_eq_true b] at h;exact absurd h (by decide);intro h;refine⟨c,?_⟩;by_cases a:v∈La;rw[decide_eq_false (fun b=>h ⟨a,b⟩),Bool.and_false];rfl;rw[decide_eq_false a,Bool.false_and];rfl
def U1 (r:Rg) (La Da A:U) (Ra:List U) (Lb Db B:U) (Rb:List U) (m:Int):T3×Int×Bool:=
 if(EQ r La Da A Lb Db B (fu La Lb)).2=true then((EQ r La Da A Lb Db B (fu La Lb)).1,((mG La Da Ra Lb Db Rb m (bD m Ra) (bD m Rb)).length:Int),true) else(([],[],[]),0,false)
theorem arV (a b:Bool):YP a b=(a !=b):=by cases a<;>cases b<;>rfl
theorem ac0 (l:U) (v:Int):gZ 0 (mO l v)=decide (v∈l):=by by_cases h:v∈l;rw[HY h,decide_eq_true h,qI];rw[LS h,decide_eq_false h];rfl
theorem O2 {L D A:U} {m:Int} {R:List U} (H:gm D m R) (hl:L.length=D.length):Hv ((L,D,A),m,R):=by
 have h1:=H.eu;have h2:=H.rl;refine⟨⟨by show L.length<=_;omega,by show D.length<=_;omega⟩,by show R.length<=_;omega,fun l hm=>?_⟩;obtain⟨i,a,rfl⟩:=zai.1 hm;have a:i<R.length:=a;have e:R[i]=R.getD i []:=by rw[co,AN a];rfl
 have:=H.row i (by omega);have:=H.uj (i:=i) (by omega);show(R[i]).length<=_;rw[e];omega
section
variable {r:Rg} {La Da A Lb Db B:U} {Ra Rb:List U} {m:Int}
theorem BP.cd (H:BP r La Da A Ra Lb Db B Rb m):ET (r,(La,Da,A),(m,Ra))/\ET (r,(Lb,Db,B),(m,Rb)):=by
 have P:=H.p;obtain⟨d,⟨a12,ad⟩,hta,⟨ap1,c⟩,f,aG,aT⟩:=j7 H.ta;obtain⟨Xl,⟨CS,bd⟩,Xq,⟨bp1,e⟩,b,bG,bT⟩:=j7 H.tb;have a:=mE d;have hAl:A.length<=24576:=by rw[f];exact Pd (IS c a.2.2) (by omega)
 have hBl:B.length<=24576:=by rw[b];exact Pd (IS e a.2.2) (by omega)
 have l1:=P.la;have l2:=P.lb;exact⟨⟨⟨by show La.length<=_;omega,by show Da.length<=_;omega,by show A.length<=_;omega⟩,O2 P.HA P.la⟩,⟨by show Lb.length<=_;omega,by show Db.length<=_;omega,by show B.length<=_;omega⟩,O2 P.HB P.lb⟩
theorem BP.pxy (H:BP r La Da A Ra Lb Db B Rb m) {x y:U} (hx:gn Ra x) (hy:gn Rb y) (hm:nz La Lb m x y):aB (cC La (bw Ra x) Lb (bw Rb y))=(vK La Da Ra Lb Db Rb m x y).length/\aB (cC La (bw Ra x) Lb (bw Rb y))<=aB (cC La Da Lb Db):=by rw[ant hm,H.p.dJ hx hy hm];exact⟨rfl,agZ fun v a=>(H.f8 hx hy hm a).2⟩
theorem aeo {α β:Type} {l:List α} {f:α->β} {i:Nat} {d:α} (h:i<l.length):bL (l.map f) i=some (f (l.getD i d)):=by show(l.map f)[i]? =_;rw[zab,getD_some d h];rfl
set_option maxHeartbeats 4000000 in
theorem aoT (H:BP r La Da A Ra Lb Db B Rb m):GP (r,(La,Da,A),(m,Ra),(Lb,Db,B),m,Rb)=some (U1 r La Da A Ra Lb Db B Rb m):=by have P:=H.p;have T:=H.two;have hd:=H.cd;have l1:=P.la;have l2:=P.lb;have F:=P.lJ;have a12:=P.HA.eu;have CS:=P.HB.eu;obtain⟨E,K,G⟩:=r;simp only[GP,Te,ah];generalize Xn:(E,K,G)=r at*;rw[show wK (r,(La,Da,A),m,Ra)=some (qq r (La,Da,A) (m,Ra)) from ai hd.1,H.ca];simp only[bM];rw[show de true=false from rfl,jR,show wK (r,(Lb,Db,B),m,Rb)=some (qq r (Lb,Db,B) (m,Rb)) from ai hd.2,H.cb];simp only[bM];rw[show de true=false from rfl,jR,aW (rB rfl),ao9 A B m P.HA P.HB l1 l2,decide_eq_true H.o];simp only[bM];rw[show de true=false from rfl,jR,afq La Lb (by omega) (by omega)];simp only[bM,bE];rw[show aU 0 0 (aa ([]:U))=some () from rfl];simp only[bM];obtain⟨J,C⟩:∃J,jL La Lb=J:=⟨_,rfl⟩;have u:fu La Lb=J.filter fun v=> !(decide (v∈La)&&decide (v∈Lb)):=(by rw[<-C];rfl);have x:∀v∈J,v∈La\/v∈Lb:=fun v k=>th (by rw[C];exact k);rw[C] at F⊢;rw[gd (fun i=>((aK (aa J),(i:Int)),(r.1,r.2.1,r.2.2),(La,Da,A),(m,Ra),(Lb,Db,B),(m,Rb),([]:U),([]:U),([]:U),(J.take i).filter (fun v=> !(decide (v∈La)&&decide (v∈Lb))),J)) (r:=wt ((r.1,r.2.1,r.2.2),(La,Da,A),(m,Ra),(Lb,Db,B),(m,Rb),[],[],[],fu La Lb)) J.length ?a1 ?a2 ?a3 dY];(case a3=>rw[<-Xn];rfl);(case a2=>dsimp only;rw[aW (o7 J),zay,u];try simp only[bE,bM]);(case a1=>intro i a;dsimp only;have hlen:=VR (P:=fun v=> !(decide (v∈La)&&decide (v∈Lb))) J i;rw[be (dt (by rw[nl];omega)),kU (show i<aa J from a)];simp only[bM];rw[gW,show bL J i=some (J.getD i 0) from mP a];simp only[bM];rw[show rG ((La,Da,A),J.getD i 0)=some (mO La (J.getD i 0)) from ai (by dsimp only;omega),show rG ((Lb,Db,B),J.getD i 0)=some (mO Lb (J.getD i 0)) from ai (by dsimp only;omega),VS a,nY];simp only[bM,bE];rw[ac0,ac0,arV];have k:=x _ (eX a);by_cases b:J.getD i 0∈La/\J.getD i 0∈Lb;rw[decide_eq_true b.1,decide_eq_true b.2];rw[aq (by decide),aW (by rfl)];have e:(decide (J.getD i 0∈La)!=decide (J.getD i 0∈Lb))=true:=(by rcases k with h|h;rw[decide_eq_true h,decide_eq_false fun q=>b ⟨h,q⟩];rfl;rw[decide_eq_true h,decide_eq_false fun q=>b ⟨q,h⟩];rfl);have D:(!(decide (J.getD i 0∈La)&&decide (J.getD i 0∈Lb)))=true:=(by rcases k with h|h;rw[decide_eq_true h,decide_eq_false fun q=>b ⟨h,q⟩];rfl;rw[decide_eq_true h,decide_eq_false fun q=>b ⟨q,h⟩];rfl);rw[e,D,mJ,ai rfl,Em];simp only[bM];rw[mr (by simp only[au,aa,zak,zao,fe];omega)];simp only[bM];rw[sM];rfl);rw[ic];simp only[gj,bM];rw[show((r.1,r.2.1,r.2.2):Rg)=r from rfl,ab6 H.ta H.tb T (by have:=apm La Lb;omega) (aps La Lb)];unfold U1;obtain⟨t,s⟩:∃t,EQ r La Da A Lb Db B (fu La Lb)=t:=⟨_,rfl⟩;rw[s];obtain⟨⟨n,f,l⟩,tb⟩:=t;simp only[bM];cases tb with|false=>rw[aq (by decide),show de false=true from rfl,mJ]|true=>have hP:aB (cC La Da Lb Db)<=65536:=(by unfold EQ at s;split at s;rename_i h;exact h.1;cases s);rw[ai rfl,show de true=false from rfl,jR];have z:=P.abb;obtain⟨X,g⟩:∃X,bD m Ra=X:=⟨_,rfl⟩;obtain⟨Y,d⟩:∃Y,bD m Rb=Y:=⟨_,rfl⟩;have hXl:X.length<=4096:=(by rw[<-g];exact Lp P.HA);have hYl:Y.length<=4096:=(by rw[<-d];exact Lp P.HB);have w:∀i,i<X.length->gn Ra (X.getD i []):=fun i a=>vz P.HA (by rw[g,co,AN a];exact zaO a);have y:∀i,i<Y.length->gn Rb (Y.getD i []):=fun i a=>vz P.HB (by rw[d,co,AN a];exact zaO a);rw[g,d] at z;rw[show AH ((La,Da,A),m,Ra)=some ((bD m Ra).map (gS La Ra)) from ai H.ka,show AH ((Lb,Db,B),m,Rb)=some ((bD m Rb).map (gS Lb Rb)) from ai H.kb,g,d];simp only[bM,bE];(try simp only[bE,bM,show aU 0 0 (aa ([]:U))=some () from rfl]);rw[gd (fun i=>((((PL La Da Ra Lb Db Rb m X Y i 0).length:Int),aK (aa (X.map (gS La Ra))),(i:Int)),(m,Ra),([]:U),([]:U),([]:U),n,f,l,Y.map (gS Lb Rb),X.map (gS La Ra))) (r:=wt (((mG La Da Ra Lb Db Rb m X Y).length:Int),[],[],[],n,f,l)) X.length ?b1 ?b2 ?b3 dY];(case b3=>rw[ajU];rfl);(case b2=>dsimp only;rw[aW (eB (by rw[nl,AI];omega)),ajV];try simp only[bE,bM,show aU 0 0 (aa ([]:U))=some () from rfl]);(case b1=>intro i a;have hx:=w i a;dsimp only;rw[be (dt (by rw[nl,AI];omega)),kU (show i<aa (X.map (gS La Ra)) by show i<(X.map (gS La Ra)).length;rw[AI];exact a)];simp only[bM];rw[gW,show bL (X.map (gS La Ra)) i=some (X.getD i [],La,bw Ra (X.getD i []),[]) from aeo a];simp only[bM,bE,show aU 0 0 (aa ([]:U))=some () from rfl];rw[gd (fun j=>((((PL La Da Ra Lb Db Rb m X Y i j).length:Int),aK (aa (X.map (gS La Ra))),(i:Int),aK (aa (Y.map (gS Lb Rb))),(j:Int)),(m,Ra),(X.getD i [],La,bw Ra (X.getD i []),([]:U)),([]:U),([]:U),([]:U),n,f,l,Y.map (gS Lb Rb),X.map (gS La Ra))) (r:=wt (((i:Int),((PL La Da Ra Lb Db Rb m X Y (i+1) 0).length:Int),aK (aa (X.map (gS La Ra)))),(m,Ra),[],[],[],n,f,l,Y.map (gS Lb Rb),X.map (gS La Ra))) Y.length ?c1 ?c2 ?c3 dY];(case c3=>rfl);(case c2=>dsimp only;rw[aW (eB (by rw[nl,AI];omega)),ajW a];try simp only[bE,bM,show aU 0 0 (aa ([]:U))=some () from rfl]);(case c1=>intro j c;have hy:=y j c;have I:=ajX (La:=La) (Da:=Da) (Ra:=Ra) (Lb:=Lb) (Db:=Db) (Rb:=Rb) (m:=m) (X:=X) (Y:=Y) (j:=j+1) a;rw[abg c,By] at I;dsimp only;rw[be (dt (by rw[nl,AI];omega)),kU (show j<aa (Y.map (gS Lb Rb)) by show j<(Y.map (gS Lb Rb)).length;rw[AI];exact c)];simp only[bM];rw[gW,show bL (Y.map (gS Lb Rb)) j=some (Y.getD j [],Lb,bw Rb (Y.getD j []),[]) from aeo c];simp only[bM];rw[aoU [] [] (bw Ra (X.getD i [])) (bw Rb (Y.getD j [])) P.HA P.HB P.na l1 l2 hx hy,abg c,nY,By];simp only[bM];by_cases hm:nz La Lb m (X.getD i []) (Y.getD j []);rw[decide_eq_true hm,mJ,(H.aaI hx hy hm).afj];simp only[bE,bM,show aU 0 0 (aa ([]:U))=some () from rfl];obtain⟨e1,D⟩:=H.pxy hx hy hm;rw[dZ];rw[show((PL La Da Ra Lb Db Rb m X Y i j).length:Int)+min (aB (cC La (bw Ra (X.getD i [])) Lb (bw Rb (Y.getD j []))):Int) 65537=(((PL La Da Ra Lb Db Rb m X Y i j).length+(vK La Da Ra Lb Db Rb m (X.getD i []) (Y.getD j [])).length:Nat):Int) by omega];rw[decide_eq_false hm,jR,anu hm];(try simp only[bE,bM,show aU 0 0 (aa ([]:U))=some () from rfl]);rfl);rw[ic];(try simp only[bE,bM,show aU 0 0 (aa ([]:U))=some () from rfl]);rw[nY]);rw[ic];(try simp only[kF,bM]);try rfl
end
theorem Zb {x:Int} (h:x∈[(2:Int),3,5,7,17,97,101,1000003]):jA x=true:=by simp only[List.mem_cons,zbn,or_false] at h;rcases h with rfl|rfl|rfl|rfl|rfl|rfl|rfl|rfl<;>decide+kernel
theorem aj3 (n:Nat):au 0 n=n:=zbg n
def Uf (NN:Nat):(U×(Int×Int))->(Option ((Int×(Int×Int))×(U×(Int×Int)))):=
 (fun(l0,i1,i2)=>
 (sF ((l0,i1,i2),(8:Int))).ae (fun(i3,l4,i5,i6)=>
 aA (bH (bt .i64 (1:Int) i3) (2:Int))
 ((dO (((2:Int)::((3:Int)::((7:Int)::((97:Int)::((1000003:Int)::[])))))) 5).ae (fun l7=>
 (AM ((l4,i5,i6),l7)).ae (fun(i8,l9,gM,fU)=>
 some ((bt .i64 (1:Int) i3,i8,(0:Int)),l9,gM,fU))))
 (bN (aA (bH (bt .i64 (1:Int) i3) (3:Int))
 (some (wt ((true,bt .i64 (1:Int) i3,bt .i64 (1:Int) i3),(l4,i5,i6),(0:Int),(0:Int),(0:Int))))
 (aA (bH (bt .i64 (1:Int) i3) (4:Int))
 (some (wt ((true,bt .i64 (1:Int) i3,bt .i64 (1:Int) i3),(l4,i5,i6),(0:Int),(0:Int),(0:Int))))
 (some (wt ((bH (bt .i64 (1:Int) i3) (5:Int),bt .i64 (1:Int) i3,bt .i64 (1:Int) i3),(l4,i5,i6),(0:Int),(0:Int),(0:Int))))))
 (fun((CS,ft,f0),(dH,fV,gN),gO,gD,eO)=>
 aA (CS)
 ((dO (((1:Int)::((2:Int)::((9:Int)::((40:Int)::((1000000:Int)::[])))))) 5).ae (fun gi=>
 (AM ((dH,fV,gN),gi)).ae (fun(iP,ie,ky,jo)=>
 some ((f0,iP,(0:Int)),ie,ky,jo))))
 (aA (bH ft (6:Int))
 ((dO (((1:Int)::((3:Int)::((5:Int)::((20:Int)::[]))))) 4).ae (fun fO=>
 (AM ((dH,fV,gN),fO)).ae (fun(iF,ji,te,np)=>
 some ((f0,(0:Int),iF),ji,te,np))))
 (aA (bH ft (7:Int))
 ((dO (((2:Int)::((5:Int)::((101:Int)::[])))) 3).ae (fun fG=>
 (AM ((dH,fV,gN),fG)).ae (fun(rk,gz,oN,od)=>
 (sF ((gz,oN,od),(4:Int))).ae (fun(nO,jJ,nq,uy)=>
 some ((f0,rk,bt .i64 (1:Int) nO),jJ,nq,uy)))))
 (aA (bH ft (8:Int))
 ((dO (((3:Int)::((17:Int)::((97:Int)::((1000003:Int)::[]))))) 4).ae (fun kz=>
 (AM ((dH,fV,gN),kz)).ae (fun(lf,ig,nt,rY)=>
 some ((f0,lf,(0:Int)),ig,nt,rY))))
 (some ((f0,(0:Int),(0:Int)),dH,fV,gN)))))))))
def KU:=Uf bW
theorem bY {α β:Type} (x:α) (f:α->Option β):(some x).ae f=f x:=by simp[Option.ae]
theorem at7 (c:Cu) (h:jc c):∃r v,KU c=some (r,v)/\dA r=true/\jc v:=by obtain⟨l,i,k⟩:=c;obtain⟨x,⟨l1,m,g⟩,e,hx,_,f⟩:=x5 (l,i,k) 8 h (by omega);have G:=NW (l1,m,g) [(2:Int),3,7,97,1000003] f (by simp) (by simp);have P:=NW (l1,m,g) [(1:Int),2,9,40,1000000] f (by simp) (by simp);have n:=NW (l1,m,g) [(1:Int),3,5,20] f (by simp) (by simp);have V:=NW (l1,m,g) [(2:Int),5,101] f (by simp) (by simp);have o:=NW (l1,m,g) [(3:Int),17,97,1000003] f (by simp) (by simp);obtain⟨A,⟨a1,b1,c1⟩,p1,m1,Z⟩:=G;obtain⟨j,⟨a2,b2,c2⟩,t,m2,s⟩:=P;obtain⟨p,⟨a3,b3,c3⟩,p3,m3,o3⟩:=n;obtain⟨B,⟨Y,b4,R⟩,p4,m4,o4⟩:=V;obtain⟨u,⟨a5,b5,c5⟩,p5,w,O⟩:=o;obtain⟨z,⟨a6,b6,c6⟩,S,hz,_,L⟩:=x5 (Y,b4,R) 4 o4 (by omega);have N:dO [(2:Int),3,7,97,1000003] 5=some [(2:Int),3,7,97,1000003]:=rfl;have Q:dO [(1:Int),2,9,40,1000000] 5=some [(1:Int),2,9,40,1000000]:=rfl;have F:dO [(1:Int),3,5,20] 4=some [(1:Int),3,5,20]:=rfl;have E:dO [(2:Int),5,101] 3=some [(2:Int),5,101]:=rfl;have W:dO [(3:Int),17,97,1000003] 4=some [(3:Int),17,97,1000003]:=rfl;have U:jA A=true:=Zb (by simp at m1⊢;omega);have C:jA B=true:=Zb (by simp at m4⊢;omega);have q5:jA u=true:=Zb (by simp at w⊢;omega);have D:u≠2:=(by simp at w;omega);have d:1<=j/\j<=1000000:=(by simp at m2;omega);have y:1<=p/\p<=20:=(by simp at m3;omega);simp only[KU,Uf];rw[e];simp only[bY,N,p1,Q,F,E,W];rw[dZ (a:=1) (b:=x) (by omega) (by omega)];have q:x=0\/x=1\/x=2\/x=3\/x=4\/x=5\/x=6\/x=7:=(by omega);have X:dA (1,0,0)=true:=(by decide);have I:dA (2,A,0)=true:=(by simp[dA,U]);have R3:dA (3,j,0)=true:=(by simp[dA,d.1,d.2]);have J:dA (4,j,0)=true:=(by simp[dA,d.1,d.2]);have M:dA (5,j,0)=true:=(by simp[dA,d.1,d.2]);have K:dA (6,0,p)=true:=(by simp[dA,y.1,y.2]);have H:dA (7,B,1+z)=true:=(by have:1<=1+z/\1+z<=6:=(by omega);simp[dA,C,this.1,this.2]);have T:dA (8,u,0)=true:=(by simp[dA,q5,D]);rcases q with rfl|rfl|rfl|rfl|rfl|rfl|rfl|rfl;rw[aW (b:=bH (1+0) 2) rfl,aW (b:=bH (1+0) 3) rfl,aW (b:=bH (1+0) 4) rfl,ic];dsimp only;rw[aW (b:=bH (1+0) 5) rfl,aW (b:=bH (1+0) 6) rfl,aW (b:=bH (1+0) 7) rfl,aW (b:=bH (1+0) 8) rfl];exact⟨_,_,rfl,X,f⟩;rw[be (b:=bH (1+1) 2) rfl];exact⟨_,_,rfl,I,Z⟩;rw[aW (b:=bH (1+2) 2) rfl,be (b:=bH (1+2) 3) rfl,ic];dsimp only;rw[mJ,t];simp only[bY];exact⟨_,_,rfl,R3,s⟩;rw[aW (b:=bH (1+3) 2) rfl,aW (b:=bH (1+3) 3) rfl,be (b:=bH (1+3) 4) rfl,ic];dsimp only;rw[mJ,t];simp only[bY];exact⟨_,_,rfl,J,s⟩;rw[aW (b:=bH (1+4) 2) rfl,aW (b:=bH (1+4) 3) rfl,aW (b:=bH (1+4) 4) rfl,ic];dsimp only;rw[be (b:=bH (1+4) 5) rfl,t];simp only[bY];exact⟨_,_,rfl,M,s⟩;rw[aW (b:=bH (1+5) 2) rfl,aW (b:=bH (1+5) 3) rfl,aW (b:=bH (1+5) 4) rfl,ic];dsimp only;rw[aW (b:=bH (1+5) 5) rfl,be (b:=bH (1+5) 6) rfl,p3];simp only[bY];exact⟨_,_,rfl,K,o3⟩;rw[aW (b:=bH (1+6) 2) rfl,aW (b:=bH (1+6) 3) rfl,aW (b:=bH (1+6) 4) rfl,ic];dsimp only;rw[aW (b:=bH (1+6) 5) rfl,aW (b:=bH (1+6) 6) rfl,be (b:=bH (1+6) 7) rfl,p4];simp only[bY];rw[S];simp only[bY];rw[dZ (a:=1) (b:=z) (by omega) (by omega)];exact⟨_,_,rfl,H,L⟩;rw[aW (b:=bH (1+7) 2) rfl,aW (b:=bH (1+7) 3) rfl,aW (b:=bH (1+7) 4) rfl,ic];dsimp only;rw[aW (b:=bH (1+7) 5) rfl,aW (b:=bH (1+7) 6) rfl,aW (b:=bH (1+7) 7) rfl,be (b:=bH (1+7) 8) rfl,p5];simp only[bY];exact⟨_,_,rfl,T,O⟩
def Ud (NN:Nat):((U×(Int×Int))×(Int×(Int×Int)))->(Option (U×(U×(Int×Int)))):=
 (fun((l0,i1,i2),i3,i4,i5)=>
 (sF ((l0,i1,i2),(6:Int))).ae (fun(i6,l7,i8,i9)=>
 aA (bH i6 (0:Int))
 ((AO (i3,i4,i5)).ae (fun cP=>
 (cr cP 0 (aa cP)).ae (fun ed=>
 some (ed,l7,i8,i9))))
 (aA (bH i6 (1:Int))
 ((G6 (i3,i4,i5)).ae (fun eu=>
 (cr eu 0 (aa eu)).ae (fun eY=>
 some (eY,l7,i8,i9))))
 ((wM (i3,i4,i5)).ae (fun f0=>
 (j6 f0 f0 8).ae (fun yH=>
 bN ((aU 0 yH (aa (cJ yH (0:Int)))).ae (fun _=>
 bS NN (fun((fV,gN),(fN,gD,eO),(ga,iP,gv),dN)=>
 aA (cH gN fV)
 ((zf (ga,iP,gv)).ae (fun jo=>
 (sF ((fN,gD,eO),jM (256:Int) (bt .i64 jo 1))).ae (fun(ld,gw,iT,te)=>
 (dg gN (aa dN)).ae (fun I1=>
 (bL dN (au 0 I1)).ae (fun qD=>
 (KS ((gw,iT,te),(12:Int))).ae (fun(b32,gz,oN,od)=>
 aA (b32)
 ((zf (ga,iP,gv)).ae (fun nO=>
 (dg gN (aa dN)).ae (fun wb=>
 (bL (br dN (au 0 I1) ld) (au 0 wb)).ae (fun nq=>
 (aU 0 (aa dN) (aa (br (br dN (au 0 I1) ld) (au 0 wb) nO))).ae (fun _=>
 some (wt ((fV,bt .i64 gN 1),(gz,oN,od),(ga,iP,gv),br (br dN (au 0 I1) ld) (au 0 wb) nO)))))))
 ((aU 0 (aa dN) (aa (br dN (au 0 I1) ld))).ae (fun _=>
 some (wt ((fV,bt .i64 gN 1),(gz,oN,od),(ga,iP,gv),br dN (au 0 I1) ld))))))))))
 ((ah dN (
 some (wt ((fN,gD,eO),dN)))).ae (fun nw=>
 some (AT nw))))
 ((aK yH,(0:Int)),(l7,i8,i9),(i3,i4,i5),cJ yH (0:Int))))
 (fun((kz,lf,tf),gR)=>
 (cr gR 0 (aa gR)).ae (fun iU=>
 some (iU,kz,lf,tf)))))))))
def KT:=Ud bW
theorem alF (c:Cu) (r:Rg) (h:jc c) (hr:dA r=true):∃x L,KT (c,r)=some (x,L)/\eD r x=true/\jc L:=by obtain⟨l,i,k⟩:=c;obtain⟨a,f,d⟩:=r;obtain⟨x,⟨l1,i1,k1⟩,e,hx,_,A⟩:=x5 (l,i,k) 6 h (by omega);have hw:=mE hr;have ht:=Eg hr;have ht1:=ajp hr;simp only[KT,Ud,ah];rw[e];simp only[bY];by_cases H:x=0;rw[be (rN H),show AO (a,f,d)=some (dU (a,f,d)) from ai hr];simp only[bY,gj];exact⟨_,_,rfl,vF hr,A⟩;rw[aW (qw H)];by_cases J:x=1;rw[be (rN J),show G6 (a,f,d)=some (As (a,f,d)) from ai hr];simp only[bY,gj];exact⟨_,_,rfl,alI hr,A⟩;rw[aW (qw J),show wM (a,f,d)=some (lB (a,f,d)) from rfl];simp only[bY];rw[YJ hr];simp only[bY];have E:(cJ (ar (a,f,d)) (0:Int)).length=ar (a,f,d):=(by unfold cJ;rw[List.length_replicate]);rw[show aU 0 (ar (a,f,d)) (aa (cJ (ar (a,f,d)) (0:Int)))=some () from ng E.symm];simp only[bY];generalize hL:bS bW _ _=o;obtain⟨z,rfl,⟨l2,D,B⟩,y,rfl,j,hy⟩:∃z,o=some z/\∃(g:Cu) (y:U),z=wt (g,y)/\jc g/\eD (a,f,d) y=true:=(by rw[<-hL];refine uO (ar (a,f,d)) (fun t s=>∃(g:Cu) (y:U),s=((aK (ar (a,f,d)),(t:Int)),g,(a,f,d),y)/\jc g/\eD (a,f,d) y=true) _ ?s1 ?s2 ?s0 dY;(case s0=>refine⟨_,_,rfl,A,?_⟩;simp only[eD,IT,decide_eq_true_eq,zaj];refine⟨E,fun v q=>?_⟩;have:=List.eq_of_mem_replicate q;subst this;simp only[qF,decide_eq_true_eq];omega);(case s2=>rintro s ⟨⟨l2,D,B⟩,y,rfl,j,hy⟩;refine⟨_,?_,_,_,rfl,j,hy⟩;dsimp only;rw[aW (eB (by show(ar (a,f,d):Int)<=_;omega))];try simp only[bE,bY]);case s1=>rintro t s N ⟨⟨l2,D,B⟩,y,rfl,j,hy⟩;have G:=jf hy;have R:1<=jM 256 (dz (a,f,d)+1):=(by rw[NH];omega);obtain⟨v,⟨O,Q,T⟩,V,q,_,S⟩:=x5 (l2,D,B) (jM 256 (dz (a,f,d)+1)) j R;obtain⟨b,⟨l4,i4,k4⟩,P,F⟩:=asb (O,Q,T) 12 S (by omega);rw[NH] at q;have I:∀(z:U) (w:Int),eD (a,f,d) z=true->0<=w/\w<=dz (a,f,d)->eD (a,f,d) (br z t w)=true:=(by intro z w n M;simp only[eD,IT,decide_eq_true_eq,zaj] at n⊢;refine⟨by unfold br;rw[zbp];exact n.1,fun u W=>?_⟩;rcases List.mem_or_eq_of_mem_set W with h'|h';exact n.2 u h';subst h';simp only[qF,decide_eq_true_eq];exact M);have m:=I y v hy (by omega);have K:=I (br y t v) (dz (a,f,d)) m (by omega);have p:∃w,bL y t=some w:=⟨_,AN (by omega)⟩;have C:∃w,bL (br y t v) t=some w:=⟨_,AN (by rw[jf m];exact N)⟩;obtain⟨w1,p⟩:=p;obtain⟨w2,C⟩:=C;dsimp only;rw[be (dt (by show(t:Int)<(ar (a,f,d):Int);omega)),show zf (a,f,d)=some (dz (a,f,d)) from ai hr];simp only[bY];rw[dZ,V];simp only[bY];rw[kU (show t<aa y by show t<y.length;omega)];simp only[bY,aj3];rw[p];simp only[bY];rw[P];simp only[bY];cases b with|true=>rw[mJ];simp only[C,bY];rw[ng (show aa y=aa (br (br y t v) t (dz (a,f,d))) by show y.length=zbG _;rw[jf K,G])];simp only[bY];rw[dZ];exact⟨_,rfl,_,_,rfl,F,K⟩|false=>rw[jR,ng (show aa y=aa (br y t v) by show y.length=zbG _;rw[jf m,G])];simp only[bY];rw[dZ];exact⟨_,rfl,_,_,rfl,F,m⟩);rw[ic];simp only[gj,bY];exact⟨_,_,rfl,hy,j⟩
def Un (NN:Nat):((U×(Int×Int))×(Int×Int))->(Option (U×(U×(U×(Int×Int))))):=
 (fun((l0,i1,i2),i3,i4)=>
 (sF ((l0,i1,i2),bt .i64 i4 1)).ae (fun(i5,l6,i7,i8)=>
 bN ((aU 0 0 (aa (([]:U)))).ae (fun _=>
 (aU 0 0 (aa (([]:U)))).ae (fun _=>
 bS NN (fun((i9,gM),(ed,eA,ft),dh,dH)=>
 aA (cH (0:Int) gM)
 ((sF ((ed,eA,ft),i9)).ae (fun(fV,dj,gO,gD)=>
 (cr dh 0 (aa dh)).ae (fun gE=>
 (xQ (gE,fV)).ae (fun ga=>
 aA (cH ga (0:Int))
 (ah dh (
 (cr ((fV::[])) 0 1).ae (fun ef=>
 (jT (au (aa dh) (aa ef)) 8).ae (fun _=>
 (ja (bt .i64 fV 1) (3:Int)).ae (fun gv=>
 ah dH (
 (cr ((bt .i64 (1:Int) gv::[])) 0 1).ae (fun dN=>
 (jT (au (aa dH) (aa dN)) 8).ae (fun _=>
 (aU 0 (au (aa dh) (aa ef)) (aa (ci dh ef))).ae (fun _=>
 (aU 0 (au (aa dH) (aa dN)) (aa (ci dH dN))).ae (fun _=>
 some (wt ((i9,lv .i64 gM 1),(dj,gO,gD),ci dh ef,ci dH dN))))))))))))
 (ah dh (
 ah dH (
 some (wt ((i9,lv .i64 gM 1),(dj,gO,gD),dh,dH)))))))))
 ((ah dh (
 ah dH (
 some (wt ((ed,eA,ft),dh,dH))))).ae (fun gG=>
 some (AT gG))))
 ((i3,i5),(l6,i7,i8),([]:U),([]:U)))))
 (fun((fO,iF,iT),dW,fY)=>
 (cr dW 0 (aa dW)).ae (fun fG=>
 (cr fY 0 (aa fY)).ae (fun jI=>
 some (fG,jI,fO,iF,iT))))))
def KX:=Un bW
def dL (x:Int):Int:=1+(x+1)%3
theorem ap3 (c:Cu) (h:jc c):∃L b,KX (c,6,3)=some (L,L.map dL,b)/\L.Nodup/\L.length<=3/\(∀x∈L,0<=x/\x<6)/\jc b:=by obtain⟨x,⟨l1,i1,k1⟩,u,hx,_,e⟩:=x5 c 4 h (by omega);obtain⟨l,i,k⟩:=c;simp only[KX,Un,ah];rw[show bt .i64 3 1=4 from dZ,u];simp only[bY,uq];obtain⟨y,rfl⟩:=nU hx.1;generalize hL:bS bW _ _=o;obtain⟨r,rfl,b,L,rfl,w,t,q2,A⟩:∃r,o=some r/\∃(b:Cu) (L:U),r=wt (b,L,L.map dL)/\jc b/\L.Nodup/\L.length<=y/\(∀x∈L,0<=x/\x<6):=(by rw[<-hL];refine uO y (fun j s=>∃(b:Cu) (L:U),s=((6,(y:Int) - j),b,L,L.map dL)/\jc b/\L.Nodup/\L.length<=j/\(∀x∈L,0<=x/\x<6)) _ ?s1 ?s2 ⟨_,[],by simp,e,by simp,by simp,by simp⟩ dY;(case s1=>rintro j s hj ⟨⟨l2,q,n⟩,L,rfl,e,f,m,g⟩;obtain⟨a,⟨la,ia,ka⟩,v,B,_,p⟩:=x5 (l2,q,n) 6 e (by omega);dsimp only;rw[be dt,v];simp only[bY,gj];rw[show xQ (L,a)=some (mO L a) from ai (by show L.length<=_;omega)];simp only[bY];rw[rF];by_cases hm:a∈L;rw[aW (eB (by rw[HY hm];omega))];simp only[bE,bY];exact⟨_,rfl,_,L,by congr 2;omega,p,f,by omega,g⟩;rw[be (dt (by rw[LS hm];omega)),dZ,rD];simp only[bE,Em,bY];rw[show bt .i64 1 ((a+1)%3)=dL a from dZ];rw[mr (by simp only[au,aa,zak,zao];have:fe=140737488355328:=rfl;omega)];simp only[bY];rw[mr (by simp only[au,aa,zak,zao,AI];have:fe=140737488355328:=rfl;omega)];simp only[bY,sM];refine⟨_,rfl,_,ci L [a],?_,p,?_,?_,?_⟩;simp only[ci,zaD,zaH,List.map_nil];congr 2;omega;unfold ci;rw[zaM];exact⟨f,by simp,fun x hx y hy=>by simp at hy;subst hy;rintro rfl;exact hm hx⟩;simp[ci];omega;intro z d;rcases zaF.1 d with d|d;exact g z d;simp at d;subst d;exact B);case s2=>rintro s ⟨⟨l2,q,n⟩,L,rfl,e,f,m,g⟩;refine⟨_,?_,_,L,rfl,e,f,m,g⟩;dsimp only;rw[aW eB];simp only[bE,bY]);obtain⟨l3,i3,k3⟩:=b;simp only[ic,gj,bY];exact⟨L,_,rfl,t,by omega,A,w⟩
def Uj (NN:Nat):((U×(Int×Int))×((Int×(Int×Int))×(U×U)))->(Option ((U×(U×U))×(U×(Int×Int)))):=
 (fun((l0,i1,i2),(i3,i4,i5),l6,l7)=>
 (G9 ((i3,i4,i5),l6,l7)).ae (fun(l8,l9,cP)=>
 bN ((aU 0 0 (aa (([]:U)))).ae (fun _=>
 (aU 0 0 (aa (([]:U)))).ae (fun _=>
 (aU 0 0 (aa (([]:U)))).ae (fun _=>
 ah l8 (
 ah l9 (
 ah cP (
 bS NN (fun((ed,eA),(eY,f0,jz),(fV,gN,gO),gb,gE,gi,ef,ie,dN)=>
 (wN (ed,(4096:Int))).ae (fun jo=>
 aA (cH eA jo)
 ((KT ((eY,f0,jz),fV,gN,gO)).ae (fun(fO,gw,iT,te)=>
 (cr ef 0 (aa ef)).ae (fun fY=>
 (cr ie 0 (aa ie)).ae (fun fG=>
 ah dN (
 (AP ((fV,gN,gO),(fY,fG,dN),eA,fO)).ae (fun jI=>
 ah gb (
 ah gE (
 ah gi (
 ah ef (
 ah ie (
 (aU 0 (aa dN) (aa jI)).ae (fun _=>
 some (wt ((ed,bt .i64 eA 1),(gw,iT,te),(fV,gN,gO),gb,gE,gi,ef,ie,jI))))))))))))))
 ((ah gb (
 ah gE (
 ah gi (
 ah ef (
 ah ie (
 ah dN (
 some (wt ((eY,f0,jz),gb,gE,gi,ef,ie,dN))))))))).ae (fun gz=>
 some (AT gz)))))
 ((l7,(0:Int)),(l0,i1,i2),(i3,i4,i5),([]:U),([]:U),([]:U),l8,l9,cP))))))))
 (fun((jB,od,nO),jJ,ou,nw,kz,kP,ig)=>
 (cr kz 0 (aa kz)).ae (fun gR=>
 (cr kP 0 (aa kP)).ae (fun iU=>
 (cr ig 0 (aa ig)).ae (fun wj=>
 some ((gR,iU,wj),jB,od,nO)))))))
def KV:=Uj bW
theorem Rm:∀(l:U),(∀v∈l,1<=v/\v<=3)->aB l<=3^l.length
 |[],_=>zad _
 |x::l,h=>by have a:=Rm l fun v b=>h v (List.mem_cons_of_mem _ b);have hx:=h x (by simp);show x.toNat*aB l<=3^(l.length+1);rw[zbu,zaE];exact IS a (by omega)
theorem acm {L:U} (h:L.length<=3):LI (L.map dL):=by have b:∀v∈L.map dL,1<=v/\v<=3:=fun v a=>(by obtain⟨x,_,rfl⟩:=zaa.1 a;unfold dL;omega);have hp:aB (L.map dL)<=3^(L.map dL).length:=Rm _ b;refine⟨by simp;omega,fun v a=>by have:=b v a;omega,?_⟩;have:(3:Nat)^(L.map dL).length<=3^3:=zaQ (by omega) (by simpa using h);omega
theorem UG {L:U} (hn:L.Nodup) (h:L.length<=12) (hx:∀x∈L,0<=x/\x<6):mh L (L.map dL)=true:=by simp only[mh,IT,decide_eq_true_eq];refine⟨by omega,by simp,fun j a=>⟨?_,?_,?_⟩⟩;have:=hx _ (eX a);omega;rw[h9 a];unfold dL;omega;intro hm;obtain⟨i,b,e⟩:=zai.1 hm;rw[OF] at b;have c:L.getD i 0=L.getD j 0:=(by rw[<-e,List.getElem_take,co,AN (by omega)];rfl);have:=getD_inj hn (by omega) a c;omega
theorem ano (c:Cu) (r:Rg) {L:U} (h:jc c) (hr:dA r=true) (hn:L.Nodup) (hl:L.length<=3) (hx:∀x∈L,0<=x/\x<6):∃A B,KV (c,r,L,L.map dL)=some ((L,L.map dL,A),B)/\f7 r (L,L.map dL,A)=true/\jc B:=by
 obtain⟨l,i,k⟩:=c;obtain⟨a,d,b⟩:=r;have hd:=acm hl;have E:=mE hr;simp only[KV,Uj,ah];rw[show G9 ((a,d,b),L,L.map dL)=some (L,L.map dL,o9 (dU (a,d,b)) (aB (L.map dL))) from ai ⟨hr,by simp;omega,hd⟩]
 simp only[bY,uq,bE];generalize hL:bS bW _ _=o;obtain⟨z,rfl,⟨l2,y,u⟩,g,rfl,p,f⟩:∃z,o=some z/\∃(m:Cu) (g:Nat->U),z=wt (m,[],[],[],L,L.map dL,fw g (aB (L.map dL)))/\jc m/\∀n,eD (a,d,b) (g n)=true:=by
  rw[<-hL];refine uO (aB (L.map dL)) (fun t s=>∃(m:Cu) (g:Nat->U),s=((L.map dL,(t:Int)),m,(a,d,b),[],[],[],L,L.map dL,fw g (aB (L.map dL)))/\jc m/\∀n,eD (a,d,b) (g n)=true) _ ?s1 ?s2 ⟨_,fun _=>dU (a,d,b),by rw[Rv];rfl,h,fun _=>vF hr⟩ (dY (by have:=hd.2.2;omega))
  case s1=>
   rintro t s C ⟨⟨l2,y,u⟩,g,rfl,p,f⟩;obtain⟨v,⟨l3,i3,k3⟩,H,q,F⟩:=alF (l2,y,u) (a,d,b) p hr;have e:(fw g (aB (L.map dL))).length=aB (L.map dL)*ar (a,d,b):=zt fun n _=>jf (f n);have hm:t*ar (a,d,b)+ar (a,d,b)<=aB (L.map dL)*ar (a,d,b):=by
    rw[<-Nat.succ_mul];exact IN _ C
   have D:aB (L.map dL)*ar (a,d,b)<=1048576:=by
    have:=hd.2.2;exact Pd (IS this E.2.2) (by omega)
   have G:=N0 (g:=g) (w:=ar (a,d,b)) (jf q) (fun n _=>jf (f n)) C;dsimp only
   rw[Zg hd.1 hd.2.1 hd.2.2];simp only[bY];rw[be dt,H];simp only[bY,gj,bE];rw[show AP ((a,d,b),(L,L.map dL,fw g (aB (L.map dL))),(t:Int),v)=some (gf (fw g (aB (L.map dL))) (t*ar (a,d,b)) v) from ai ⟨hr,Int.natCast_nonneg t,by
    show t*_+_<=_;rw[jf q,e];exact hm,by rw[e];exact D⟩,G]
   simp only[bY];rw[show aU 0 (aa (fw g (aB (L.map dL)))) (aa (fw (fun j=>if j=t then v else g j) (aB (L.map dL))))=some () from ng (by
    unfold aa;rw[e,zt (w:=ar (a,d,b)) fun n _=>?_];split
    ·exact jf q
    ·exact jf (f n))]
   simp only[bY];rw[dZ (by omega) (by have:=hd.2.2;omega)];refine⟨_,rfl,_,fun j=>if j=t then v else g j,rfl,F,fun n=>?_⟩
   show eD _ (if n=t then v else g n)=true
   split
   ·exact q
   ·exact f n
  case s2=>
   rintro s ⟨⟨l2,y,u⟩,g,rfl,p,f⟩;refine⟨_,?_,_,g,rfl,p,f⟩;dsimp only
   rw[Zg hd.1 hd.2.1 hd.2.2];simp only[bY];rw[aW eB]
   try simp only[bE,bY]
 simp only[ic,gj,bY];refine⟨_,_,rfl,?_,p⟩;exact QU hr (UG hn (by omega) hx) hd.2.2 (zt fun n _=>jf (f n)) (Lo _ fun n _=>Po (f n))
def Ui (NN:Nat):((U×(Int×Int))×(Int×(Int×Int)))->(Option ((U×(U×U))×(U×(Int×Int)))):=
 (fun((l0,i1,i2),i3,i4,i5)=>
 (KX ((l0,i1,i2),(6:Int),(3:Int))).ae (fun(l6,l7,l8,i9,gM)=>
 (KV ((l8,i9,gM),(i3,i4,i5),l6,l7)).ae (fun((ed,eu,eY),dh,jz,fV)=>
 some ((ed,eu,eY),dh,jz,fV))))
def G8:=Ui bW
theorem ajn (c:Cu) (r:Rg) (h:jc c) (hr:dA r=true):∃L A d,G8 (c,r)=some ((L,L.map dL,A),d)/\L.Nodup/\L.length<=3/\(∀x∈L,0<=x/\x<6)/\f7 r (L,L.map dL,A)=true/\jc d:=by obtain⟨L,⟨l1,o,f⟩,g,b,a,e,m⟩:=ap3 c h;obtain⟨A,⟨l2,i2,k2⟩,j,n,p⟩:=ano (l1,o,f) r m hr b a e;obtain⟨l,i,k⟩:=c;obtain⟨r1,r2,r3⟩:=r;refine⟨L,A,_,?_,b,a,e,n,p⟩;simp only[G8,Ui];rw[g];simp only[bY];rw[j];simp only[bY]
theorem vL {α:Type} {l:List α} {i:Nat} (d:α) (h:i<l.length):bL l i=some (l.getD i d):=by simp[bL,co,h]
theorem aem {α:Type} {l:List α} {x d:α} {i:Nat}:(ci l [x]).getD i d=if i<l.length then l.getD i d else if i=l.length then x else d:=by grind [ci]
theorem PN {α:Type} {l:List α} {x d:α} {i j:Nat} (hj:j<l.length):(br l j x).getD i d=if i=j then x else l.getD i d:=by grind [br]
theorem ZT {α:Type} (l:List α) (j:Nat) (x:α):(br l j x).length=l.length:=by unfold br;simp
def Ur (NN:Nat):((U×(Int×Int))×((U×(U×U))×Int))->(Option ((Int×(List U))×(U×(Int×Int)))):=
 (fun((l0,i1,i2),(l3,l4,l5),i6)=>
 bN ((aU 0 0 (aa (([]:List U)))).ae (fun _=>
 (aU 0 0 (aa (([]:List U)))).ae (fun _=>
 bS NN (fun((i7,l8,i9,gM),(ed,eA,ft),f0,jz,dM,dj)=>
 aA (cH gM i9)
 (bN ((cg l8 gM).ae (fun gO=>
 bN ((aU 0 0 (aa (([]:U)))).ae (fun _=>
 ah dM (
 ah dj (
 bS NN (fun((gD,eO,gi,iP,gv),(dN,jo,ld),iF,iT,dW,fY,fG)=>
 aA (cH (0:Int) eO)
 (aA (cH eO (9:Int))
 (aA (cH (aK (aa fG)) eO)
 ((sF ((dN,jo,ld),sf (1:Int) (jM gD (12:Int)))).ae (fun(rk,gz,oN,od)=>
 ah fG (
 (cr ((rk::[])) 0 1).ae (fun gQ=>
 (jT (au (aa fG) (aa gQ)) 8).ae (fun _=>
 (aU 0 (au (aa fG) (aa gQ)) (aa (ci fG gQ))).ae (fun _=>
 ah dW (
 ah fY (
 some (wt ((gD,eO,gi,iP,gv),(gz,oN,od),iF,iT,dW,fY,ci fG gQ))))))))))
 ((ah fG (
 ah dW (
 ah fY (
 some (wt ((gv,gD,gi,iP),(dN,jo,ld),iF,iT,dW,fY,fG)))))).ae (fun jJ=>
 some (AT jJ))))
 ((ah fG (
 ah dW (
 ah fY (
 some (wt ((gv,gD,gi,iP),(dN,jo,ld),iF,iT,dW,fY,fG)))))).ae (fun ou=>
 some (AT ou))))
 ((ah fG (
 ah dW (
 ah fY (
 some (wt ((gv,gD,gi,iP),(dN,jo,ld),iF,iT,dW,fY,fG)))))).ae (fun nw=>
 some (AT nw))))
 ((i7,gO,l8,i9,gM),(ed,eA,ft),f0,jz,dM,dj,([]:U))))))
 (fun((v5,lf,ig,nt),(iU,nP,oO),tg,qa,sb,jK,kA)=>
 (dO kA (aa kA)).ae (fun jV=>
 ah jK (
 (aU 0 1 (aa ((jV::[])))).ae (fun _=>
 (jT (au (aa jK) (aa ((jV::[])))) 24).ae (fun _=>
 ah sb (
 (aU 0 (au (aa jK) (aa ((jV::[])))) (aa (ci jK ((jV::[]))))).ae (fun _=>
 some (wt ((v5,lf,ig,nt),(iU,nP,oO),tg,qa,sb,ci jK ((jV::[])))))))))))))
 (fun((qE,oP,kB,xj),(iz,FD,Ng),xk,XQ,gH,lV)=>
 ah gH (
 ah lV (
 some (wt ((oP,kB,xj,bt .i64 qE 1),(iz,FD,Ng),xk,XQ,gH,lV))))))
 ((ah dM (
 ah dj (
 some (wt ((ed,eA,ft),f0,jz,dM,dj))))).ae (fun uL=>
 some (AT uL))))
 ((i6,l4,aK (aa l4),(0:Int)),(l0,i1,i2),(0:Int),i6,([]:List U),([]:List U)))))
 (fun((ny,Nh,yC),yD,uC,mA,ki)=>
 (cr ki 0 (aa ki)).ae (fun oT=>
 some ((uC,oT),ny,Nh,yC))))
def KY:=Ur bW
theorem akX (c:Cu) (L D A:U) (m:Int) (h:jc c) (hm:1<=m/\m<=12) (N:D.length<=3/\∀d∈D,1<=d/\d<=3):∃R E,KY (c,(L,D,A),m)=some ((m,R),E)/\R.length=D.length/\(∀i,i<D.length->((R.getD i []).length:Int)=D.getD i 0/\∀v∈R.getD i [],0<=v/\v<m)/\jc E:=by obtain⟨l,i,k⟩:=c;have kL:fe=140737488355328:=rfl;simp only[KY,Ur,ah];simp only[uq,bY];generalize hL:bS bW _ _=o;obtain⟨z,rfl,⟨l2,C,B⟩,R,rfl,r,hl,y⟩:∃z,o=some z/\∃(e:Cu) (R:List U),z=wt (e,0,m,[],R)/\jc e/\R.length=D.length/\(∀i,i<D.length->((R.getD i []).length:Int)=D.getD i 0/\∀v∈R.getD i [],0<=v/\v<m):=(by rw[<-hL];refine uO D.length (fun t s=>∃(e:Cu) (R:List U),s=((m,D,aK (aa D),(t:Int)),e,0,m,[],R)/\jc e/\R.length=t/\(∀i,i<t->((R.getD i []).length:Int)=D.getD i 0/\∀v∈R.getD i [],0<=v/\v<m)) _ ?s1 ?s2 ⟨_,[],rfl,h,rfl,fun i K=>absurd K (by omega)⟩ dY;(case s1=>rintro t s F ⟨⟨l2,C,B⟩,R,rfl,r,hl,y⟩;have hd:=N.2 _ (eX F);obtain⟨d,H⟩:=nU (show 0<=D.getD t 0 by omega);dsimp only;rw[be (dt (by show(t:Int)<(D.length:Int);omega)),show cg D (t:Int)=some (d:Int) from(dw D t).trans ((vL 0 F).trans (by rw[H]))];simp only[bY,uq,bE];generalize E5:bS bW _ _=o2;obtain⟨z2,rfl,⟨u,w,x⟩,X,rfl,f,p,n⟩:∃z,o2=some z/\∃(g:Cu) (X:U),z=wt (((t:Int),m,D,aK (aa D)),g,0,m,[],R,X)/\jc g/\X.length=d/\∀v∈X,0<=v/\v<m:=(by rw[<-E5];refine uO d (fun j s=>∃(g:Cu) (X:U),s=((m,(d:Int),D,aK (aa D),(t:Int)),g,0,m,[],R,X)/\jc g/\X.length=j/\∀v∈X,0<=v/\v<m) _ ?t1 ?t2 ⟨_,[],rfl,r,rfl,by simp⟩ dY;(case t1=>rintro j s hj ⟨⟨u,w,x⟩,X,rfl,f,p,n⟩;have J:sf 1 (jM m 12)=m:=(by rw[NH,afZ];omega);obtain⟨a,⟨la,ia,ka⟩,I,M,_,G⟩:=x5 (u,w,x) m f hm.1;dsimp only;rw[be dt,be dt,be (dt (by show(X.length:Int)<_;omega)),J,I];simp only[bY,bE,Em];rw[mr (by simp only[au,aa,zak,zao];omega)];simp only[bY,sM];refine⟨_,rfl,_,ci X [a],rfl,G,by simp[ci,p],fun v b=>?_⟩;rcases zaF.1 b with b|b;exact n v b;simp at b;subst b;exact M);case t2=>rintro s ⟨⟨u,w,x⟩,X,rfl,f,p,n⟩;refine⟨_,?_,_,X,rfl,f,p,n⟩;dsimp only;rw[be dt,be dt,aW (eB (by show _<=(X.length:Int);omega))];try simp only[bE,bY]);simp only[ic,kF,bY,bE];rw[show aU 0 1 (aa [X])=some () from rfl];simp only[bY];rw[mr (by simp only[au,aa,zak,zao];omega)];simp only[bY,sM,ic,bE];rw[dZ];refine⟨_,rfl,_,ci R [X],rfl,f,by simp[ci,hl],fun q hq=>?_⟩;rw[aem];grind);case s2=>rintro s ⟨⟨l2,C,B⟩,R,rfl,r,hl,y⟩;refine⟨_,?_,_,R,rfl,r,hl,y⟩;dsimp only;rw[aW (eB (by show(D.length:Int)<=_;omega))];simp only[bE,bY]);grind [ic,gj,bY]
def Us (NN:Nat):((U×(Int×Int))×((U×(U×U))×Int))->(Option (Int×(List U))):=
 (fun((l0,i1,i2),(l3,l4,l5),i6)=>
 bN ((aU 0 0 (aa (([]:List U)))).ae (fun _=>
 (aU 0 0 (aa (([]:List U)))).ae (fun _=>
 bS NN (fun((i7,l8,i9,gM),(ed,eA,ft),f0,jz,dM,dj)=>
 aA (cH gM i9)
 (bN ((cg l8 gM).ae (fun gO=>
 bN ((aU 0 0 (aa (([]:U)))).ae (fun _=>
 ah dM (
 ah dj (
 bS NN (fun((gD,eO,gi,iP,gv),(dN,jo,ld),iF,iT,dW,fY,fG)=>
 aA (cH (0:Int) eO)
 (aA (cH eO (9:Int))
 (aA (cH (aK (aa fG)) eO)
 ((sF ((dN,jo,ld),sf (1:Int) (jM gD (12:Int)))).ae (fun(rk,gz,oN,od)=>
 ah fG (
 (cr ((rk::[])) 0 1).ae (fun gQ=>
 (jT (au (aa fG) (aa gQ)) 8).ae (fun _=>
 (aU 0 (au (aa fG) (aa gQ)) (aa (ci fG gQ))).ae (fun _=>
 ah dW (
 ah fY (
 some (wt ((gD,eO,gi,iP,gv),(gz,oN,od),iF,iT,dW,fY,ci fG gQ))))))))))
 ((ah fG (
 ah dW (
 ah fY (
 some (wt ((gv,gD,gi,iP),(dN,jo,ld),iF,iT,dW,fY,fG)))))).ae (fun jJ=>
 some (AT jJ))))
 ((ah fG (
 ah dW (
 ah fY (
 some (wt ((gv,gD,gi,iP),(dN,jo,ld),iF,iT,dW,fY,fG)))))).ae (fun ou=>
 some (AT ou))))
 ((ah fG (
 ah dW (
 ah fY (
 some (wt ((gv,gD,gi,iP),(dN,jo,ld),iF,iT,dW,fY,fG)))))).ae (fun nw=>
 some (AT nw))))
 ((i7,gO,l8,i9,gM),(ed,eA,ft),f0,jz,dM,dj,([]:U))))))
 (fun((v5,lf,ig,nt),(iU,nP,oO),tg,qa,sb,jK,kA)=>
 (dO kA (aa kA)).ae (fun jV=>
 ah jK (
 (aU 0 1 (aa ((jV::[])))).ae (fun _=>
 (jT (au (aa jK) (aa ((jV::[])))) 24).ae (fun _=>
 ah sb (
 (aU 0 (au (aa jK) (aa ((jV::[])))) (aa (ci jK ((jV::[]))))).ae (fun _=>
 some (wt ((v5,lf,ig,nt),(iU,nP,oO),tg,qa,sb,ci jK ((jV::[])))))))))))))
 (fun((qE,oP,kB,xj),(iz,FD,Ng),xk,XQ,gH,lV)=>
 ah gH (
 ah lV (
 some (wt ((oP,kB,xj,bt .i64 qE 1),(iz,FD,Ng),xk,XQ,gH,lV))))))
 ((ah dM (
 ah dj (
 some (wt ((ed,eA,ft),f0,jz,dM,dj))))).ae (fun uL=>
 some (AT uL))))
 ((i6,l4,aK (aa l4),(0:Int)),(l0,i1,i2),(0:Int),i6,([]:List U),([]:List U)))))
 (fun((ny,Nh,yC),yD,uC,mA,ki)=>
 (dO ki (aa ki)).ae (fun oT=>
 some (uC,oT))))
def KZ:=Us bW
theorem akY (c:Cu) (L D A:U) (m:Int) (h:jc c) (hm:1<=m/\m<=12) (M:D.length<=3/\∀d∈D,1<=d/\d<=3):∃R,KZ (c,(L,D,A),m)=some (m,R)/\R.length=D.length/\(∀i,i<D.length->((R.getD i []).length:Int)=D.getD i 0/\∀v∈R.getD i [],0<=v/\v<m):=by obtain⟨l,i,k⟩:=c;have kL:fe=140737488355328:=rfl;simp only[KZ,Us,ah];simp only[uq,bY];generalize hL:bS bW _ _=o;obtain⟨z,rfl,⟨l2,C,B⟩,R,rfl,r,hl,y⟩:∃z,o=some z/\∃(e:Cu) (R:List U),z=wt (e,0,m,[],R)/\jc e/\R.length=D.length/\(∀i,i<D.length->((R.getD i []).length:Int)=D.getD i 0/\∀v∈R.getD i [],0<=v/\v<m):=(by rw[<-hL];refine uO D.length (fun t s=>∃(e:Cu) (R:List U),s=((m,D,aK (aa D),(t:Int)),e,0,m,[],R)/\jc e/\R.length=t/\(∀i,i<t->((R.getD i []).length:Int)=D.getD i 0/\∀v∈R.getD i [],0<=v/\v<m)) _ ?s1 ?s2 ⟨_,[],rfl,h,rfl,fun i J=>absurd J (by omega)⟩ dY;(case s1=>rintro t s E ⟨⟨l2,C,B⟩,R,rfl,r,hl,y⟩;have hd:=M.2 _ (eX E);obtain⟨d,G⟩:=nU (show 0<=D.getD t 0 by omega);dsimp only;rw[be (dt (by show(t:Int)<(D.length:Int);omega)),show cg D (t:Int)=some (d:Int) from(dw D t).trans ((vL 0 E).trans (by rw[G]))];simp only[bY,uq,bE];generalize E5:bS bW _ _=o2;obtain⟨z2,rfl,⟨u,w,x⟩,X,rfl,f,p,n⟩:∃z,o2=some z/\∃(g:Cu) (X:U),z=wt (((t:Int),m,D,aK (aa D)),g,0,m,[],R,X)/\jc g/\X.length=d/\∀v∈X,0<=v/\v<m:=(by rw[<-E5];refine uO d (fun j s=>∃(g:Cu) (X:U),s=((m,(d:Int),D,aK (aa D),(t:Int)),g,0,m,[],R,X)/\jc g/\X.length=j/\∀v∈X,0<=v/\v<m) _ ?t1 ?t2 ⟨_,[],rfl,r,rfl,by simp⟩ dY;(case t1=>rintro j s hj ⟨⟨u,w,x⟩,X,rfl,f,p,n⟩;have I:sf 1 (jM m 12)=m:=(by rw[NH,afZ];omega);obtain⟨a,⟨la,ia,ka⟩,H,K,_,F⟩:=x5 (u,w,x) m f hm.1;dsimp only;rw[be dt,be dt,be (dt (by show(X.length:Int)<_;omega)),I,H];simp only[bY,bE,Em];rw[mr (by simp only[au,aa,zak,zao];omega)];simp only[bY,sM];refine⟨_,rfl,_,ci X [a],rfl,F,by simp[ci,p],fun v b=>?_⟩;rcases zaF.1 b with b|b;exact n v b;simp at b;subst b;exact K);case t2=>rintro s ⟨⟨u,w,x⟩,X,rfl,f,p,n⟩;refine⟨_,?_,_,X,rfl,f,p,n⟩;dsimp only;rw[be dt,be dt,aW (eB (by show _<=(X.length:Int);omega))];try simp only[bE,bY]);simp only[ic,kF,bY,bE];rw[show aU 0 1 (aa [X])=some () from rfl];simp only[bY];rw[mr (by simp only[au,aa,zak,zao];omega)];simp only[bY,sM,ic,bE];rw[dZ];refine⟨_,rfl,_,ci R [X],rfl,f,by simp[ci,hl],fun q hq=>?_⟩;rw[aem];grind);case s2=>rintro s ⟨⟨l2,C,B⟩,R,rfl,r,hl,y⟩;refine⟨_,?_,_,R,rfl,r,hl,y⟩;dsimp only;rw[aW (eB (by show(D.length:Int)<=_;omega))];simp only[bE,bY]);grind [ic,kF,bY]
def T1 (NN:Nat):(U×Int)->(Option ((Int×(Int×Int))×((U×(U×U))×((Int×(List U))×((U×(U×U))×(Int×(List U))))))):=
 (fun(l0,i1)=>
 (K4 (l0,i1)).ae (fun(l2,i3,i4)=>
 (KU (l2,i3,i4)).ae (fun((i5,i6,i7),l8,i9,gM)=>
 (G8 ((l8,i9,gM),i5,i6,i7)).ae (fun((ed,eu,eY),dh,jz,fV)=>
 (sF ((dh,jz,fV),(4:Int))).ae (fun(gN,fN,gD,eO)=>
 (KY ((fN,gD,eO),(ed,eu,eY),bt .i64 (1:Int) gN)).ae (fun((ga,ef),ie,ky,jo)=>
 (G8 ((ie,ky,jo),i5,i6,i7)).ae (fun((fO,gw,ji),dW,np,qD)=>
 (KZ ((dW,np,qD),(fO,gw,ji),ga)).ae (fun(rk,gz)=>
 bN ((aU 0 0 (aa (([]:U)))).ae (fun _=>
 (aU 0 0 (aa (([]:U)))).ae (fun _=>
 (aU 0 0 (aa (([]:U)))).ae (fun _=>
 (aU 0 0 (aa (([]:List U)))).ae (fun _=>
 (aU 0 0 (aa (([]:U)))).ae (fun _=>
 (aU 0 0 (aa (([]:U)))).ae (fun _=>
 (aU 0 0 (aa (([]:U)))).ae (fun _=>
 (aU 0 0 (aa (([]:List U)))).ae (fun _=>
 ah gz (
 bS NN (fun((jB,od,nO),(Du,nq,uy),v5,lf,(tf,nt,rY),(wj,pI,ov),(qa,sb),(jK,kA,jV),qE,tu,kB,iV,iz,lg,iW,lU,iY,gH)=>
 aA (cH nO od)
 (bN ((cg jB nO).ae (fun Qu=>
 (xQ (wj,Qu)).ae (fun i64=>
 aA (gZ (0:Int) i64)
 ((cg sb i64).ae (fun ny=>
 ah tu (
 ah kB (
 ah iV (
 ah iz (
 ah lg (
 ah iW (
 ah lU (
 ah iY (
 ah gH (
 bS NN (fun((Nh,qG,yD,uC,mA,Qv,Dw),(IM,IP,Dx),yE,i77,(Qw,FE,Dy),(oy,tv,xr),(rZ,ry),(qd,wq,B6),BS,lW,nR,pJ,kQ,lk,qf,oz,oA,j5)=>
 aA (cH Dw Qv)
 ((cg mA Dw).ae (fun i99=>
 (dg Nh (aa j5)).ae (fun BW=>
 (bL j5 (au 0 BW)).ae (fun oh=>
 (ja (lv .i64 rZ i99) rZ).ae (fun Ds=>
 (bL j5 (au 0 BW)).ae (fun tm=>
 (dg Dw (aa tm)).ae (fun Nq=>
 (bL j5 (au 0 BW)).ae (fun wc=>
 (bL wc Nq).ae (fun axI=>
 ah lW (
 ah nR (
 ah pJ (
 ah kQ (
 ah lk (
 ah qf (
 ah oz (
 ah oA (
 (aU 0 (aa j5) (aa (br j5 (au 0 BW) (br wc Nq Ds)))).ae (fun _=>
 some (wt ((Nh,qG,yD,uC,mA,Qv,bt .i64 Dw 1),(IM,IP,Dx),yE,i77,(Qw,FE,Dy),(oy,tv,xr),(rZ,ry),(qd,wq,B6),BS,lW,nR,pJ,kQ,lk,qf,oz,oA,br j5 (au 0 BW) (br wc Nq Ds)))))))))))))))))))))
 ((ah lW (
 ah nR (
 ah pJ (
 ah kQ (
 ah lk (
 ah qf (
 ah oz (
 ah oA (
 ah j5 (
 some (wt ((uC,qG,yD),(IM,IP,Dx),yE,i77,(Qw,FE,Dy),(oy,tv,xr),(rZ,ry),(qd,wq,B6),BS,lW,nR,pJ,kQ,lk,qf,oz,oA,j5)))))))))))).ae (fun r8=>
 some (AT r8))))
 ((nO,jB,od,nO,ny,aK (aa ny),(0:Int)),(Du,nq,uy),v5,lf,(tf,nt,rY),(wj,pI,ov),(qa,sb),(jK,kA,jV),qE,tu,kB,iV,iz,lg,iW,lU,iY,gH))))))))))))
 (ah tu (
 ah kB (
 ah iV (
 ah iz (
 ah lg (
 ah iW (
 ah lU (
 ah iY (
 ah gH (
 some (wt ((nO,jB,od),(Du,nq,uy),v5,lf,(tf,nt,rY),(wj,pI,ov),(qa,sb),(jK,kA,jV),qE,tu,kB,iV,iz,lg,iW,lU,iY,gH)))))))))))))))
 (fun((M4,I3,XC),(Fy,BO,Fz),FA,FB,(aov,M5,M6),(xn,xo,Af),(aow,r9),(xp,B1,yN),aox,pF,mz,mS,oj,ot,nv,F3,wi,yO)=>
 ah pF (
 ah mz (
 ah mS (
 ah oj (
 ah ot (
 ah nv (
 ah F3 (
 ah wi (
 ah yO (
 some (wt ((I3,XC,bt .i64 M4 1),(Fy,BO,Fz),FA,FB,(aov,M5,M6),(xn,xo,Af),(aow,r9),(xp,B1,yN),aox,pF,mz,mS,oj,ot,nv,F3,wi,yO)))))))))))))
 ((ah tu (
 ah kB (
 ah iV (
 ah iz (
 ah lg (
 ah iW (
 ah lU (
 ah iY (
 ah gH (
 some (wt ((Du,nq,uy),v5,lf,(tf,nt,rY),(wj,pI,ov),(qa,sb),(jK,kA,jV),qE,tu,kB,iV,iz,lg,iW,lU,iY,gH)))))))))))).ae (fun DF=>
 some (AT DF))))
 ((fO,aK (aa fO),(0:Int)),((0:Int),(0:Int),(0:Int)),(0:Int),(0:Int),(i5,i6,i7),(ed,eu,eY),(ga,ef),(fO,gw,ji),rk,([]:U),([]:U),([]:U),([]:List U),([]:U),([]:U),([]:U),([]:List U),gz)))))))))))
 (fun((axJ,axK,aeX),aeY,aeZ,(BR,Na,Nb),(uI,uJ,pG),(Qt,pH),(sa,ru,rv),IK,DG,I9,B2,Yj,B3,uK,tq,tr,tt)=>
 (AL ((BR,Na,Nb),(uI,uJ,pG),Qt,pH)).ae (fun((DH,QN,DI),axi)=>
 (cr tt 0 (aa tt)).ae (fun Ny=>
 (AL ((BR,Na,Nb),(sa,ru,rv),IK,Ny)).ae (fun((afv,Ja,Yl),axj)=>
 (cr DH 0 (aa DH)).ae (fun Nz=>
 (cr QN 0 (aa QN)).ae (fun Ym=>
 (cr DI 0 (aa DI)).ae (fun apu=>
 (cr afv 0 (aa afv)).ae (fun DK=>
 (cr Ja 0 (aa Ja)).ae (fun F4=>
 (cr Yl 0 (aa Yl)).ae (fun F5=>
 (cr tt 0 (aa tt)).ae (fun Yn=>
 some ((BR,Na,Nb),(Nz,Ym,apu),(Qt,pH),(DK,F4,F5),IK,Yn))))))))))))))))))))
def KP:=T1 bW
theorem akW (l:U) (h:l.length<=1048576):∃(r:Rg) (La A:U) (Ra:List U) (Lb B:U) (Rb:List U) (m:Int),
  KP (l,0)=some (r,(La,La.map dL,gp r (La.map dL) (m,Ra) A (aB (La.map dL))),(m,Ra),(Lb,Lb.map dL,gp r (Lb.map dL) (m,Rb) B (aB (Lb.map dL))),(m,Rb))/\
   (La.Nodup/\La.length<=3/\∀x∈La,0<=x/\x<6)/\(Lb.Nodup/\Lb.length<=3/\∀x∈Lb,0<=x/\x<6)/\f7 r (La,La.map dL,A)=true/\f7 r (Lb,Lb.map dL,B)=true/\
   jQ ((La,La.map dL,A),(m,Ra))=true/\jQ ((Lb,Lb.map dL,B),(m,Rb))=true/\∀i,i<La.length->tB La (La.map dL) Ra Lb (Lb.map dL) Rb m i:=by
 obtain⟨⟨l0,i0,k0⟩,e0,h0⟩:=akg l 0 h (by omega);obtain⟨⟨c,k,g⟩,⟨l1,i1,k1⟩,e1,hr,h1⟩:=at7 (l0,i0,k0) h0;obtain⟨La,A,⟨l2,i2,k2⟩,e2,na,la,xa,ta,h2⟩:=ajn (l1,i1,k1) (c,k,g) h1 hr;obtain⟨mm,⟨l3,i3,k3⟩,e3,fo,_,h3⟩:=x5 (l2,i2,k2) 4 h2 (by omega);have W:(La.map dL).length<=3/\∀d∈La.map dL,1<=d/\d<=3:=⟨by simpa using la,fun d hd=>by grind [dL]⟩;obtain⟨Ra,⟨l4,i4,k4⟩,e4,I,E,h4⟩:=akX (l3,i3,k3) La (La.map dL) A (1+mm) h3 (by omega) W;obtain⟨Lb,B,⟨l5,i5,k5⟩,e5,nb,lb,xb,tb,h5⟩:=ajn (l4,i4,k4) (c,k,g) h4 hr;have hdb:(Lb.map dL).length<=3/\∀d∈Lb.map dL,1<=d/\d<=3:=⟨by simpa using lb,fun d hd=>by grind [dL]⟩;obtain⟨Rb,e6,G,Zm⟩:=akY (l5,i5,k5) Lb (Lb.map dL) B (1+mm) h5 (by omega) hdb;have hm:bt .i64 1 mm=1+mm:=dZ;have kL:1<=1+mm/\1+mm<=12:=by omega
 generalize 1+mm=m at*
 rw[AI] at I G E Zm;simp only[KP,T1,ah];rw[e0];simp only[bY];rw[e1];simp only[bY];rw[e2];simp only[bY];rw[e3];simp only[bY];rw[hm,e4];simp only[bY];rw[e5];simp only[bY];rw[e6];simp only[bY,uq,bE];generalize hL:bS bW _ _=o;have flip:∀y,0<=y->y<m->0<=(m - y)%m/\(m - y)%m<m:=fun y h1 h2=>⟨Int.emod_nonneg _ (by omega),Int.emod_lt_of_pos _ (by omega)⟩;obtain⟨z,rfl,X,rfl,C,n⟩:∃z,o=some z/\∃X:List U,z=wt ((0,0,0),0,0,(c,k,g),(La,La.map dL,A),(m,Ra),(Lb,Lb.map dL,B),m,[],[],[],[],[],[],[],[],X)/\X.length=Lb.length/\
   ∀q,q<Lb.length->X.getD q []=if Lb.getD q 0∈La then(Ra.getD (aX La (Lb.getD q 0)) []).map (fun y=>(m - y)%m) else Rb.getD q []:=by
  rw[<-hL];refine uO Lb.length (fun t s=>∃X:List U,s=((Lb,aK (aa Lb),(t:Int)),(0,0,0),0,0,(c,k,g),(La,La.map dL,A),(m,Ra),(Lb,Lb.map dL,B),m,[],[],[],[],[],[],[],[],X)/\X.length=Lb.length/\
   ∀q,q<Lb.length->X.getD q []=if q<t/\Lb.getD q 0∈La then(Ra.getD (aX La (Lb.getD q 0)) []).map (fun y=>(m - y)%m) else Rb.getD q []) _ ?s1 ?s2 ⟨Rb,rfl,G,fun q _=>by rw[aq (by omega)]⟩ dY
  case s1=>
   rintro t s w ⟨X,rfl,C,n⟩;dsimp only
   rw[be (dt (by show(t:Int)<(Lb.length:Int);omega)),show cg Lb (t:Int)=some (Lb.getD t 0) from(dw Lb t).trans (vL 0 w)]
   simp only[bY];rw[show xQ (La,Lb.getD t 0)=some (mO La (Lb.getD t 0)) from ai (by show La.length<=_;omega)]
   simp only[bY];by_cases a:Lb.getD t 0∈La
   ·have F:=eZ a;have P:=(E _ F).1;have lK:=(Zm _ w).1;rw[h9 F] at P;rw[h9 w] at lK;rw[jp a] at P;have hkr:aX La (Lb.getD t 0)<Ra.length:=by omega
    rw[be (qI (by rw[HY a];omega)),HY a,show cg Ra ((aX La (Lb.getD t 0):Nat):Int)=some (Ra.getD (aX La (Lb.getD t 0)) []) from(dw Ra _).trans (vL [] hkr)]
    simp only[bY,bE];generalize E5:bS bW _ _=o2;obtain⟨z2,rfl,Y,rfl,K,O,J,N⟩:∃z,o2=some z/\∃Y:List U,z=wt (((t:Int),Lb,aK (aa Lb)),(0,0,0),0,0,(c,k,g),(La,La.map dL,A),(m,Ra),(Lb,Lb.map dL,B),m,[],[],[],[],[],[],[],[],Y)/\Y.length=Lb.length/\
      (∀q,q<Lb.length->q≠t->Y.getD q []=X.getD q [])/\(Y.getD t []).length=(Ra.getD (aX La (Lb.getD t 0)) []).length/\∀p,p<(Ra.getD (aX La (Lb.getD t 0)) []).length->(Y.getD t []).getD p 0=(m - (Ra.getD (aX La (Lb.getD t 0)) []).getD p 0)%m:=by
     rw[<-E5];refine uO (Ra.getD (aX La (Lb.getD t 0)) []).length (fun j s=>∃Y:List U,s=(((t:Int),Lb,aK (aa Lb),(t:Int),Ra.getD (aX La (Lb.getD t 0)) [],aK (aa (Ra.getD (aX La (Lb.getD t 0)) [])),(j:Int)),(0,0,0),0,0,(c,k,g),(La,La.map dL,A),(m,Ra),(Lb,Lb.map dL,B),m,[],[],[],[],[],[],[],[],Y)/\Y.length=Lb.length/\
      (∀q,q<Lb.length->q≠t->Y.getD q []=X.getD q [])/\(Y.getD t []).length=(Ra.getD (aX La (Lb.getD t 0)) []).length/\∀p,p<j->(Y.getD t []).getD p 0=(m - (Ra.getD (aX La (Lb.getD t 0)) []).getD p 0)%m) _ ?t1 ?t2 ⟨X,rfl,C,fun _ _ _=>rfl,?t0,fun p hp=>absurd hp (by omega)⟩ (dY (by unfold dL at P;omega))
     case t0=>
      have:=n t w;rw[aq (by omega)] at this;rw[this];omega
     case t1=>
      rintro j s hj ⟨Y,rfl,K,O,J,N⟩;have M:t<Y.length:=by omega
      have vY:=(E _ F).2 _ (eX hj);dsimp only
      rw[be (dt (by show(j:Int)<((Ra.getD (aX La (Lb.getD t 0)) []).length:Int);omega)),show cg (Ra.getD (aX La (Lb.getD t 0)) []) (j:Int)=some ((Ra.getD (aX La (Lb.getD t 0)) []).getD j 0) from(dw _ j).trans (vL 0 hj)]
      simp only[bY];rw[kU (by unfold aa;exact M)];simp only[bY];rw[gW,vL [] M];simp only[bY];rw[rF,rD];simp only[bY];rw[kU (by unfold aa;omega)];simp only[bY];rw[vL 0 (show j<(Y.getD t []).length by omega)];simp only[bY,bE];rw[ng (by unfold aa;rw[ZT])];simp only[bY];rw[dZ (by omega) (by unfold dL at P;omega)];refine⟨_,rfl,br Y t (br (Y.getD t []) j ((m - (Ra.getD (aX La (Lb.getD t 0)) []).getD j 0)%m)),rfl,by rw[ZT];exact K,fun q b bm=>?_,?_,fun p hp=>?_⟩
      ·rw[PN M,aq bm];exact O q b bm
      ·rw[PN M,ai rfl,ZT];exact J
      ·rw[PN M,ai rfl,PN (by omega)];split
       ·rename_i e;rw[e]
       ·exact N p (by omega)
     case t2=>
      rintro s ⟨Y,rfl,K,O,J,N⟩;refine⟨_,?_,Y,rfl,K,O,J,N⟩;dsimp only
      rw[aW (eB (by show((Ra.getD (aX La (Lb.getD t 0)) []).length:Int)<=_;omega))]
      try simp only[bE,bY]
    simp only[ic,bE,bY];rw[dZ];refine⟨_,rfl,Y,rfl,K,fun q b=>?_⟩;by_cases Q:q=t
    ·subst Q;rw[ai ⟨by omega,a⟩];refine sL (by rw[J,AI]) fun p hp=>?_;rw[N p (by omega),h9 (f:=fun y=>(m - y)%m) (by omega)]
    ·rw[O q b Q,n q b];simp only[show(q<t+1↔q<t) from⟨fun _=>by omega,fun _=>by omega⟩]
   ·rw[aW (B7 (by rw[LS a];omega))];simp only[ic,bE,bY];rw[dZ];refine⟨_,rfl,X,rfl,C,fun q b=>?_⟩;rw[n q b];by_cases Q:q=t
    ·subst Q;rw[aq (fun e=>a e.2),aq (fun e=>a e.2)]
    ·simp only[show(q<t+1↔q<t) from⟨fun _=>by omega,fun _=>by omega⟩]
  case s2=>
   rintro s ⟨X,rfl,C,n⟩;refine⟨_,?_,X,rfl,C,fun q b=>?_⟩
   ·dsimp only
    rw[aW (eB (by show(Lb.length:Int)<=_;omega))]
    try simp only[bE,bY]
   ·rw[n q b];by_cases a:Lb.getD q 0∈La
    ·rw[ai ⟨b,a⟩,ai a]
    ·rw[aq (fun e=>a e.2),aq a]
 have mk:∀(L T:U) (R:List U),L.Nodup->L.length<=3->(∀x∈L,0<=x/\x<6)->R.length=L.length->(∀i,i<L.length->((R.getD i []).length:Int)=(L.map dL).getD i 0/\∀v∈R.getD i [],0<=v/\v<m)->jQ ((L,L.map dL,T),(m,R))=true:=by
  intro L T R n1 V S n4 n5;have hd:=acm V;have hx:=UG n1 (by omega) S;simp only[jQ,IT,decide_eq_true_eq];refine⟨?_,by omega,by rw[n4,AI],fun j hj=>⟨(n5 j (by omega)).1,RB.2 (n5 j (by omega)).2⟩⟩;have hI:=tE (D:=L.map dL) fun x hx=>(hd.2.1 x hx).1;unfold fF;rw[ai ⟨hx,by rw[hI];have:=hd.2.2;omega⟩,hI];omega
 have hXr:∀i,i<Lb.length->((X.getD i []).length:Int)=(Lb.map dL).getD i 0/\∀v∈X.getD i [],0<=v/\v<m:=by
  intro i u;rw[n i u];split
  ·rename_i a;have F:=eZ a;have Z:=E _ F;rw[h9 F,jp a] at Z;refine⟨by rw[AI,h9 u];exact Z.1,fun v jw=>?_⟩;obtain⟨y,hy,rfl⟩:=zaa.1 jw;have:=Z.2 y hy;exact flip y this.1 this.2
  ·exact Zm i u
 have ka:=mk La A Ra na la xa I E;have kb:=mk Lb B X nb lb xb C hXr;have cons:∀(L T:U) (R:List U),L.length<=3->f7 (c,k,g) (L,L.map dL,T)=true->jQ ((L,L.map dL,T),(m,R))=true->AL ((c,k,g),(L,L.map dL,T),m,R)=some ((L,L.map dL,gp (c,k,g) (L.map dL) (m,R) T (aB (L.map dL))),true):=by
  intro L T R n1 V S;have H:=A8 S;have t:=j7 V;refine(ai ⟨⟨?_,?_,?_⟩,O2 H (by simp)⟩).trans (congrArg some (ai ⟨V,S⟩))
  ·show L.length<=_;omega
  ·show(L.map dL).length<=_;omega
  ·show T.length<=_;rw[t.2.2.2.2.1];exact Pd (IS t.2.2.2.1.2 (mE t.1).2.2) (by omega)
 simp only[ic,gj,bY];rw[cons La A Ra la ta ka];simp only[bY,gj];rw[cons Lb B X lb tb kb];simp only[bY,gj];refine⟨(c,k,g),La,A,Ra,Lb,B,X,m,rfl,⟨na,la,xa⟩,⟨nb,lb,xb⟩,ta,tb,ka,kb,fun i u=>?_⟩;unfold tB;intro a;have b:=eZ a;have e:=jp a;refine⟨by rw[h9 u,h9 b,e],fun t w=>?_⟩;have hy:=(E i u).2 _ (eX w);rw[n _ b,e,ai (eX u),kD na u,h9 (f:=fun y=>(m - y)%m) w,zbA,Int.emod_emod,<-zbA,show(Ra.getD i []).getD t 0+(m - (Ra.getD i []).getD t 0)=m by omega];exact Int.emod_self
end Go.Am
