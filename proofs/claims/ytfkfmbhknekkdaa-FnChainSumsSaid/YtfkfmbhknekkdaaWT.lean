/- M66, M67, M26, M27, M28, M68, M69, M70, M71, M72, M37, M41, M42, M73, M43, M10, M44, M74, M75, M76, M45, M77, M78, M79, M29, M80, M30, M81, M82, M83, M84, M85, M86, M87, M88, M89, M90, M91, M92, L_FnChainSums, Br1, Br2, WT: parts of the proof. No condition. -/
import Derived.Test.YtfkfmbhknekkdaaM65
import GoSem.ClaimChange
import Derived.ChangeReads
import Derived.ReadAgain
import Derived.ChangeSame
import Derived.WalkKit
import Derived.ProofKit
import Derived.OpenShut
set_option linter.unusedVariables false
set_option linter.unusedSimpArgs false
set_option linter.unusedSectionVars false
open List renaming getD_eq_getElem?_getD->zaa,getElem?_eq_getElem->zab,length_append->zad,length_cons->zae,length_nil->zah,getElem?_map->zak,map_cons->zal,getElem?_eq_none->zam,map_append->zan,length_map->zao,take_length->zap,length_take->zau,mem_range->zav,mem_map->zaw,mem_append->zaC,take_add_one->zaE,drop_eq_getElem_cons->zaG,all_eq_true->zaH,sum_cons->zaK,append_nil->zaL,mem_filter->zaM,ext_getElem?->zaN,mem_of_getElem?->zaQ,getElem?_range->zaV,getElem?_append_right->zaW,getElem?_eq_some_iff->zaZ,mem_or_eq_of_mem_set->za0,getElem?_append_left->za1,length_range->za3,getElem_mem->za7,map_nil->za9,length_filter_le->zbc,getElem?_of_mem->zbe,findIdx_getElem->zbf,mem_cons_of_mem->zbi,mem_iff_getElem->zbj,sum_append_nat->zbl,mem_singleton->zbn,mem_cons_self->zbr,getElem?_ofFn->zbs,getElem_take->zbt,nodup_append->zbu,not_mem_nil->zby,length_set->zbz,range_succ->zbA,mapM_cons->zbG,mem_cons->zbJ
open Int renaming toNat_natCast->zac,mul_zero->zar,natCast_mul->zax,mul_one->zay,mul_emod->zaA,mul_comm->zaB,emod_emod_of_dvd->zaF,add_zero->zaI,zero_add->zaP,zero_emod->zaR,add_mul_emod_self_left->zaX,emod_eq_of_lt->za2,mul_assoc->za4,add_emod->zba,dvd_refl->zbb,emod_lt_of_pos->zbo,zero_mul->zbw,emod_nonneg->zbB,one_mul->zbE,emod_self->zbI
open Nat renaming le_refl->zaf,mul_le_mul->zag,mul_one->zai,mul_comm->zaq,mul_le_mul_right->zas,add_mul->zat,not_lt_zero->zaz,mul_assoc->zaJ,le_trans->zaO,mod_lt->zaS,one_mul->zaT,le_antisymm->zaU,lt_of_lt_of_le->zaY,add_sub_cancel_left->za5,pow_le_pow_right->zbg,div_lt_of_lt_mul->zbh,zero_le->zbk,add_assoc->zbp,eq_zero_or_pos->zbq,add_zero->zbv,mul_zero->zbx,div_one->zbC,div_add_mod->zbD,sub_self->zbK,pow_succ->zbL,zero_mul->zbM
open Bool renaming and_eq_true->zaj,true_and->zbm,and_true->zbH
open Classical renaming choose_spec->zaD
open Option renaming bind_eq_some_iff->za6,map_eq_some_iff->za8
open Array renaming getElem?_toList->zbd
open List.cons renaming injEq->zbF
namespace Go.Am
def sN (f:Nat->Nat):Nat->Nat
 |0=>0
 |q+1=>sN f q+f q
def gp (L D S:aa):aa:=bu S.length fun i=>D.getD (bY L (S.getD i 0)) 0
def gP (L D S:aa) (n:Nat) (v:Int):Nat:=(gm (gp L D S) n (bY S v)).toNat*bQ D (bY L v+1)
def mq (L D S:aa) (n:Nat):Nat:=sN (fun i=>gP L D S n (S.getD i 0)) S.length
def sK (r:Rg) (A:aa) (off:Nat->Nat):Nat->aa
 |0=>[]
 |n+1=>sK r A off n++jw A (off n*cB r) (cB r)
def zP (r:Rg) (t:T3) (S:aa):T3:=(S,gp t.1 t.2.1 S,sK r t.2.2 (mq t.1 t.2.1 S) (bh (gp t.1 t.2.1 S)))
def Uc (x:Rg×T3×aa):Prop:=jz x.1 x.2.1=true/\x.2.2=pR x.2.1.1 x.2.1.1.length
instance (x:Rg×T3×aa):Decidable (Uc x):=by unfold Uc;infer_instance
def Xn:Rg×T3×aa->Option T3:=fun x=>if Uc x then some (zP x.1 x.2.1 x.2.2) else none
def CY:Rg×T3×aa->Option T3:=Xn
def OI (r:Rg) (t:T3):T3:=if jz r t=true then zP r t (pR t.1 t.1.length) else([],[],[])
def vj:T3×Int->Option Int:=fun x=>if x.1.1.length<=1048576 then some (qL x.1.1 x.2) else none
def Fo (l:aa) (b:Int):Prop:=l.length<=12/\∀x∈l,0<=x/\x<=b
instance (l:aa) (b:Int):Decidable (Fo l b):=by unfold Fo;infer_instance
def Fp (l:aa) (b:Int):Prop:=l.length<=24/\∀x∈l,0<=x/\x<=b
instance (l:aa) (b:Int):Decidable (Fp l b):=by unfold Fp;infer_instance
theorem Fo.m {l:aa} {b:Int} (h:Fo l b):Fp l b:=⟨zaO h.1 (by decide),h.2⟩
def t8:aa×aa->Option Int:=fun x=>if Fp x.1 1048576/\Fp x.2 8/\x.1.length=x.2.length then some ((sN (fun i=>(x.2.getD i 0).toNat*(x.1.getD i 0).toNat) x.1.length:Nat):Int) else none
def tP (L D S:aa):aa:=bu S.length fun i=>((bQ D (bY L (S.getD i 0)+1):Nat):Int)
def oU (L D S:aa):aa:=bu S.length fun i=>if bY L (S.getD i 0)<L.length then((bQ D (bY L (S.getD i 0)+1):Nat):Int) else 0
def sG:T3×aa->Option aa:=fun x=>if p9 x.1.1 x.1.2.1=true/\x.2.length<=1000/\bh x.1.2.1<=4096 then some (oU x.1.1 x.1.2.1 x.2) else none
def Xl:Rg×T3×Int->Option aa:=fun x=>if LH x then some (jw x.2.1.2.2 (x.2.2.toNat*cB x.1) (cB x.1)) else none
def oW:Rg×T3×Int->Option aa:=Xl
def Kj:ar:=[(.agg,[.list [.int .i64],.list [.int .i64],.list [.int .i64]]),(.one,[.int .i64])]
def UU:ar:=[(.one,[.int .i64])]
def aoY:aU:=[]
def Km:ar:=[(.one,[.list [.int .i64]]),(.one,[.list [.int .i64]])]
def UY:ar:=[(.one,[.int .i64])]
def ao1:aU:=[]
def KC:ar:=[(.agg,[.int .i64,.int .i64,.int .i64]),(.agg,[.list [.int .i64],.list [.int .i64],.list [.int .i64]]),(.one,[.int .i64])]
def Vd:ar:=[(.one,[.list [.int .i64]])]
def apd:aU:=[[some .aL]]
def Pn (NN:Nat):((aa×(aa×aa))×Int)->(Option Int):=
 (fun(((l0,l1,l2),i3):((aa×(aa×aa))×Int))=>
 cm (cH NN (fun((i4,l5,i6,i7):(Int×(aa×(Int×Int))))=>
 aI (cL i7 i6)
 ((di l5 i7).af (fun i8=>
 aI (c7 i8 i4)
 (some (Sum.inr (Sum.inr i7)))
 (some (Sum.inl (i4,l5,i6,br .i64 i7 1)))))
 (some (Sum.inr (Sum.inl ()))))
 (i3,l0,aS (ae l0),(0:Int)))
 (fun _=>
 some ((-1:Int))))
def Pp (NN:Nat):(aa×aa)->(Option Int):=
 (fun((l0,l1):(aa×aa))=>
 cm (cH NN (fun((l2,l3,i4,i5,i6):(aa×(aa×(Int×(Int×Int)))))=>
 aI (cL i6 i5)
 ((di l2 i6).af (fun i7=>
 (di l3 i6).af (fun i8=>
 some (Sum.inl (l2,l3,br .i64 i4 (du .i64 i7 i8),i5,br .i64 i6 1)))))
 (some (Sum.inr (Sum.inl i4))))
 (l0,l1,(0:Int),aS (ae l0),(0:Int)))
 (fun i9=>
 some i9))
def Pz (NN:Nat):((Int×(Int×Int))×((aa×(aa×aa))×Int))->(Option aa):=
 (fun(((i0,i1,i2),(l3,l4,l5),i6):((Int×(Int×Int))×((aa×(aa×aa))×Int)))=>
 (qE (i0,i1,i2)).af (fun i7=>
 (j0 (du .i64 i6 i7) (du .i64 (br .i64 i6 1) i7) (ae l5)).af (fun(k8,k9)=>
 some (jw l5 k8 k9))))
theorem aes {f:Nat->Nat} {b:Nat}:∀q,(∀i,i<q->f i<=b)->sN f q<=q*b
 |0,_=>zbk _
 |q+1,h=>by
  have h1:=aes (f:=f) (b:=b) q fun i hi=>h i (by omega);have h2:=h q (by omega);simp only[sN];rw[zat,zaT];omega
theorem Iu {f g:Nat->Nat}:∀q,(∀i,i<q->f i=g i)->sN f q=sN g q
 |0,_=>rfl
 |q+1,h=>by simp only[sN];rw[Iu q fun i hi=>h i (by omega),h q (by omega)]
theorem aet (g:Int->Nat) (l:aa):∀q,q<=l.length->sN (fun i=>g (l.getD i 0)) q=((l.take q).map g).sum
 |0,_=>by simp[sN]
 |q+1,h=>by
  simp only[sN];rw[aet g l q (by omega),List.take_succ_eq_append_getElem (by omega),zan,zbl,zaa,zab (by omega)];simp
theorem N8 (g:Int->Nat) (l:aa):sN (fun i=>g (l.getD i 0)) l.length=(l.map g).sum:=by
 rw[aet g l _ (zaf _),zap]
theorem ata {S L:aa} (h:S.Perm L) (g:Int->Nat):sN (fun i=>g (S.getD i 0)) S.length=sN (fun i=>g (L.getD i 0)) L.length:=by
 rw[N8,N8];exact(h.map g).sum_nat
theorem se {l:aa} {v:Int} (h:v∈l):bY l v<l.length:=by
 refine Nat.lt_of_le_of_ne (NU l v) fun e=>?_;obtain⟨i,hi⟩:=zbe h;have hl:=(zaZ.1 hi).1;exact Il (by omega) hi
theorem E4 {l:aa} {v:Int} (h:v∈l):l.getD (bY l v) 0=v:=by
 rw[zaa,Ik (se h)];rfl
theorem ir {l:aa} {i:Nat} (h:i<l.length):l.getD i 0∈l:=by
 rw[zaa,zab h];exact za7 h
theorem pM {l:aa} (hn:l.Nodup) {i:Nat} (h:i<l.length):bY l (l.getD i 0)=i:=by
 have hm:=ir h;have h1:=se hm;have h2:=Ik h1;rw[zab h1] at h2;have e:l[bY l (l.getD i 0)]=l[i]:=by
  injection h2 with h2;rw[h2,zaa,zab h];rfl
 exact(List.getElem_inj hn).1 e
theorem F6 {L D:aa} (h:p9 L D=true):L.Nodup:=by
 obtain⟨h1,h2,h3⟩:=uf h;rw[List.nodup_iff_pairwise_ne,List.pairwise_iff_getElem];intro i j hi hj kO e;have:=(h3 j hj).2.2;apply this;rw[zaa,zab hj];show L[j]∈L.take j;rw[<-e,List.mem_take_iff_getElem];exact⟨i,by omega,rfl⟩
structure kw (L D S:aa):Prop where
 p:S.Perm L
 nL:L.Nodup
 nS:S.Nodup
 len:L.length=D.length
 fJ:L.length<=12
 qK:∀x∈D,1<=x/\x<=8
theorem kw.mk' {L D S:aa} (h:p9 L D=true) (hS:S=pR L L.length):kw L D S:=by
 have hp:S.Perm L:=by rw[hS];exact agb L _ (zaf _)
 obtain⟨h1,h2,h3⟩:=uf h;have hn:=F6 h;exact⟨hp,hn,hp.nodup_iff.2 hn,h2,h1,AO h⟩
section
variable {L D S:aa} (I:kw L D S)
include I
theorem kw.IJ:S.length=L.length:=I.p.length_eq
theorem kw.inv {q k:Nat} (hq:q<S.length) (hk:k<L.length):bY L (S.getD q 0)=k↔bY S (L.getD k 0)=q:=by
 have m1:S.getD q 0∈L:=I.p.mem_iff.1 (ir hq);have m2:L.getD k 0∈S:=I.p.mem_iff.2 (ir hk);constructor
 ·intro e;have:=E4 m1;rw[e] at this;rw[this,pM I.nS hq]
 ·intro e;have:=E4 m2;rw[e] at this;rw[this,pM I.nL hk]
theorem kw.AL {q:Nat} (hq:q<S.length):bY L (S.getD q 0)<L.length:=se (I.p.mem_iff.1 (ir hq))
theorem kw.amT {k:Nat} (hk:k<L.length):bY S (L.getD k 0)<S.length:=se (I.p.mem_iff.2 (ir hk))
theorem kw.lz:lz D:=⟨by have:=I.len;have:=I.fJ;omega,fun x hx=>by have:=I.qK x hx;omega⟩
theorem kw.aiQ:∀x∈gp L D S,1<=x/\x<=8:=by
 intro x hx;obtain⟨i,hi,rfl⟩:=zaw.1 hx;have:=I.AL (zav.1 hi);exact I.qK _ (ir (by have:=I.len;omega))
theorem kw.aiR:Am.lz (gp L D S):=⟨by show(bu _ _).length<=_;rw[eO,I.IJ];have:=I.fJ;omega,fun x hx=>by have:=I.aiQ x hx;omega⟩
omit I in
theorem asf {h:Int->Int} {S L:aa} (p:S.Perm L):bh (S.map h)=bh (L.map h):=by
 induction p with
 |nil=>rfl
 |cons x _ ih=>simp only[zal,bh,ih]
 |swap x y l=>simp only[zal,bh];rw[Nat.mul_left_comm]
 |trans _ _ h1 h2=>exact h1.trans h2
omit I in
theorem Ux (h:Int->Int) (l:aa):bu l.length (fun i=>h (l.getD i 0))=l.map h:=by
 apply zaN;intro i;by_cases hi:i<l.length
 ·rw[lK _ hi,zak,zab hi,zaa,zab hi];rfl
 ·rw[zam (by rw[eO];omega),zam (by simp;omega)]
theorem kw.prod:bh (gp L D S)=bh D:=by
 have e1:gp L D S=S.map fun v=>D.getD (bY L v) 0:=Ux (fun v=>D.getD (bY L v) 0) S;have e2:L.map (fun v=>D.getD (bY L v) 0)=D:=by
  rw[<-Ux (fun v=>D.getD (bY L v) 0) L];apply zaN;intro i;by_cases hi:i<L.length
  ·rw[lK _ hi,pM I.nL hi,zaa,zab (by have:=I.len;omega)];rfl
  ·rw[zam (by rw[eO];omega),zam (by have:=I.len;omega)]
 rw[e1,asf I.p,e2]
def xY (L D S:aa) (n:Nat):aa:=bu D.length fun k=>gm (gp L D S) n (bY S (L.getD k 0))
theorem kw.pd {i:Nat} (hi:i<S.length):(gp L D S).getD i 0=D.getD (bY L (S.getD i 0)) 0:=by
 unfold gp;rw[zaa,lK _ hi];rfl
theorem kw.YP (n:Nat) {i:Nat} (hi:i<S.length):0<=gm (gp L D S) n i/\gm (gp L D S) n i<D.getD (bY L (S.getD i 0)) 0:=by
 have hd:=I.qK _ (ir (l:=D) (i:=bY L (S.getD i 0)) (by have:=I.AL hi;have:=I.len;omega));unfold gm;rw[I.pd hi];have:=zaS (n/bQ (gp L D S) (i+1)) (show 0<(D.getD (bY L (S.getD i 0)) 0).toNat by omega);omega
omit I in
theorem TV {D ix:aa} (h:∀k,k<D.length->(ix.getD k 0).toNat<(D.getD k 0).toNat):∀j,j<=D.length->(oS D ix j+1)*bQ D j<=bh D
 |0,_=>by simp[oS,bQ]
 |j+1,hj=>by
  have ih:=TV h j (by omega);have hk:=h j (by omega);rw[sv (by omega),<-zaJ] at ih;refine zaO (zas _ ?_) ih;simp only[oS];rw[zat,zaT];omega
omit I in
theorem TW {D ix:aa}:∀j,j<=D.length->oS D ix j*bQ D j=sN (fun k=>(ix.getD k 0).toNat*bQ D (k+1)) j
 |0,_=>by simp[oS,sN]
 |j+1,hj=>by
  simp only[oS,sN];rw[<-TW j (by omega),sv (i:=j) (by omega),zat,zaJ]
theorem kw.adz (n:Nat) {k:Nat} (hk:k<D.length):(xY L D S n).getD k 0=gm (gp L D S) n (bY S (L.getD k 0)):=by
 unfold xY;rw[zaa,lK _ hk];rfl
theorem kw.aq8 (n:Nat) {k:Nat} (hk:k<D.length):0<=(xY L D S n).getD k 0/\(xY L D S n).getD k 0<D.getD k 0:=by
 rw[I.adz n hk];have dj:k<L.length:=by have:=I.len;omega
 have h1:=I.amT dj;have h2:=I.YP n h1;rw[(I.inv h1 dj).2 rfl] at h2;exact h2
theorem kw.off (n:Nat):oS D (xY L D S n) D.length=mq L D S n:=by
 have h1:=TW (D:=D) (ix:=xY L D S n) D.length (zaf _);rw[rn,zai] at h1;rw[h1];unfold mq;rw[ata I.p (gP L D S n),I.len];refine Iu _ fun k hk=>?_;rw[I.adz n hk];unfold gP;rw[pM I.nL (by have:=I.len;omega)]
theorem kw.aq6 (n:Nat):mq L D S n<bh D:=by
 have:=TV (D:=D) (ix:=xY L D S n) (fun k hk=>by have:=I.aq8 n hk;omega) D.length (zaf _);rw[rn,zai,I.off n] at this;omega
end
theorem On {l:aa} {b:Int} (h:Fp l b) {i:Nat} (hi:i<l.length):∃a:Nat,l[i]? =some (a:Int)/\(l.getD i 0).toNat=a/\(a:Int)<=b:=by
 have:=h.2 _ (za7 hi);refine⟨l[i].toNat,?_,?_,by omega⟩
 ·rw[zab hi];congr 1;omega
 ·rw[zaa,zab hi];rfl
theorem aj7 (x:aa×aa) (y:Int) (h:t8 x=some y):Pp aM x=some y:=by
 obtain⟨s,ix⟩:=x;simp only[t8] at h;split at h
 ·rename_i hc;rw[<-h];obtain⟨h1,h2,he⟩:=hc
  try dsimp only at h1 h2 he
  simp only[Pp];have hb:∀j,j<=s.length->sN (fun i=>(ix.getD i 0).toNat*(s.getD i 0).toNat) j<=j*8388608:=fun j hj=>aes j fun i hi=>by
   obtain⟨a,_,a2,a3⟩:=On h1 (i:=i) (by omega);obtain⟨b,_,b2,b3⟩:=On h2 (i:=i) (by omega);rw[a2,b2];exact zag (show b<=8 by omega) (show a<=1048576 by omega)
  have hl:=h1.1;rw[fS (fun j=>(s,ix,((sN (fun i=>(ix.getD i 0).toNat*(s.getD i 0).toNat) j:Nat):Int),(s.length:Int),(j:Int))) s.length ?a1 ?a2 ?a3 (eP (by omega))]
  case a3=>rfl
  case a2=>
   dsimp only
   rw[bN (d8 (by omega))]
  case a1=>
   intro j hj;obtain⟨a,a1,a2,a3⟩:=On h1 (i:=j) (by omega);obtain⟨b,b1,b2,b3⟩:=On h2 (i:=j) (by omega);have hb1:=hb j (by omega);have e:sN (fun i=>(ix.getD i 0).toNat*(s.getD i 0).toNat) (j+1)=sN (fun i=>(ix.getD i 0).toNat*(s.getD i 0).toNat) j+b*a:=by simp only[sN];rw[a2,b2]
   have hm:=zag (show b<=8 by omega) (show a<=1048576 by omega);dsimp only
   rw[bS (eB (by omega)),fq,fq,a1,b1];simp only[eQ];rw[e,zaq b a];rw[zaq b a] at hm;rw[qv (by rw[<-zax];omega) (by rw[<-zax];omega),<-zax,fU (by omega) (by omega),fU (by omega) (by omega)];rfl
  simp only[cm,Option.bind]
 ·cases h
theorem aj4 (x:T3×Int) (y:Int) (h:vj x=some y):Pn aM x=some y:=by
 obtain⟨⟨L,D,A⟩,v⟩:=x;simp only[vj] at h;split at h
 ·rename_i hc;rw[<-h]
  try dsimp only at hc
  simp only[Pn];unfold qL;by_cases hp:bY L v<L.length
  ·rw[if_pos hp];rw[fS (r:=Sum.inr ((bY L v:Nat):Int)) (fun j=>(v,L,(L.length:Int),(j:Int))) (bY L v) ?a1 ?a2 ?a3 (eP (by omega))]
   case a3=>rfl
   case a2=>
    dsimp only
    rw[bS (eB (by omega)),fq,Ik hp];simp only[eQ];rw[bS (by simp[c7])]
   case a1=>
    intro j hj;dsimp only
    rw[bS (eB (by omega)),fq,zab (by omega)];simp only[eQ];rw[bN (by
     have:=Il hj;rw[zab (by omega)] at this;simp only[c7,beq_eq_false_iff_ne,ne_eq];exact fun e=>this (congrArg some e)),fU (by omega) (by omega)]
    rfl
   simp only[cm,Option.bind]
  ·rw[if_neg hp];have zh:bY L v=L.length:=by have:=NU L v;omega
   rw[fS (r:=Sum.inl ()) (fun j=>(v,L,(L.length:Int),(j:Int))) L.length ?a1 ?a2 ?a3 (eP (by omega))]
   case a3=>rfl
   case a2=>
    dsimp only
    rw[bN (d8 (by omega))]
   case a1=>
    intro j hj;dsimp only
    rw[bS (eB (by omega)),fq,zab (by omega)];simp only[eQ];rw[bN (by
     have:=Il (l:=L) (v:=v) (j:=j) (by omega);rw[zab (by omega)] at this;simp only[c7,beq_eq_false_iff_ne,ne_eq];exact fun e=>this (congrArg some e)),fU (by omega) (by omega)]
    rfl
   simp only[cm,Option.bind]
 ·cases h
theorem akn (x:Rg×T3×Int) (y:aa) (h:oW x=some y):Pz aM x=some y:=by
 obtain⟨⟨k,p,m⟩,⟨L,D,A⟩,n⟩:=x;simp only[oW,Xl] at h;split at h
 ·rename_i hc;rw[<-h];obtain⟨hr,h0,h1,h2⟩:=hc;dsimp only at hr h0 h1 h2;obtain⟨n,rfl⟩:=iC h0;have hw:=CN hr;simp only[zac] at h1⊢;have nV:(n+1)*cB (k,p,m)=n*cB (k,p,m)+cB (k,p,m):=by rw[zat,zaT]
  have hn:n+1<=1048576:=by have:=Nat.le_mul_of_pos_right (n+1) (show 0<cB (k,p,m) by omega);omega
  simp only[Pz,qE,eQ];rw[hw.1,fU (by omega) (by omega),show(n:Int)+1=((n+1:Nat):Int) by push_cast;rfl];rw[NC (a:=n) (b:=cB (k,p,m)) (by omega)];rw[NC (a:=n+1) (b:=cB (k,p,m)) (by omega)];rw[show j0 ((n*cB (k,p,m):Nat):Int) (((n+1)*cB (k,p,m):Nat):Int) (ae A)=some (n*cB (k,p,m),cB (k,p,m)) by
   unfold j0 ae;rw[if_pos ⟨by omega,by omega,by omega⟩];congr 2;omega]
  simp only[eQ]
 ·cases h
def KM:ar:=[(.agg,[.list [.int .i64],.list [.int .i64],.list [.int .i64]]),(.one,[.list [.int .i64]])]
def Vn:ar:=[(.one,[.list [.int .i64]])]
def apn:aU:=[]
def PI (NN:Nat):((aa×(aa×aa))×aa)->(Option aa):=
 (fun(((l0,l1,l2),l3):((aa×(aa×aa))×aa))=>
 (km (aS (ae l3)) (aS (ae l3)) 8).af (fun k4=>
 cm ((bk 0 k4 (ae (dk k4 (0:Int)))).af (fun _=>
 cH NN (fun(((l5,i6,i7),(l8,l9,c8),eE):((aa×(Int×Int))×((aa×(aa×aa))×aa)))=>
 aI (iz (0:Int) i7)
 (cm (cm (ak eE (
 cH NN (fun(((fJ,gE,gB,fv,fY,gG),(fR,ik,kj),gI):((aa×(Int×(Int×(aa×(Int×Int)))))×((aa×(aa×aa))×aa)))=>
 aI (cL gG fY)
 ((di fv gG).af (fun jF=>
 (di fR gB).af (fun jl=>
 aI (c7 jF jl)
 ((dB gG (ae gI)).af (fun BQ=>
 (cW gI (aH 0 BQ)).af (fun fA=>
 (bk 0 (ae gI) (ae (bK gI (aH 0 BQ) gE))).af (fun _=>
 some (Sum.inl ((fJ,gE,gB,fv,fY,br .i64 gG 1),(fR,ik,kj),bK gI (aH 0 BQ) gE))))))
 (ak gI (
 some (Sum.inl ((fJ,gE,gB,fv,fY,br .i64 gG 1),(fR,ik,kj),gI)))))))
 ((ak gI (
 some (Sum.inl ((gE,gB,fJ),(fR,ik,kj),gI)))).af (fun kI=>
 some (Sum.inr kI))))
 ((l5,i6,i7,l5,aS (ae l5),(0:Int)),(l8,l9,c8),eE)))
 (fun((gS,jm,iU),(mO,jX,jY),gU)=>
 (di jX jm).af (fun kg=>
 ak gU (
 some (Sum.inl ((jm,iU,du .i64 gS kg),(mO,jX,jY),gU))))))
 (fun((g0,jt,qk),(lE,pF,qq),jH)=>
 ak jH (
 some (Sum.inl ((jt,qk,lL .i64 g0 1),(lE,pF,qq),jH)))))
 ((ak eE (
 some (Sum.inl eE))).af (fun mP=>
 some (Sum.inr mP))))
 ((l3,(1:Int),lL .i64 (aS (ae l1)) (1:Int)),(l0,l1,l2),dk k4 (0:Int))))
 (fun iw=>
 (fg iw (ae iw)).af (fun iy=>
 some iy))))
theorem WN {D:aa} (h:lz D) {i:Nat} (hi:i<=D.length):bQ D i<=bh D:=by
 have:=WM (D:=D) (i:=0) (j:=i) (zbk i) hi;rw[I3] at this;exact Nat.le_of_dvd (Cc fun x hx=>(h.2 x hx).1) this
theorem ahQ {L:aa} {v:Int} (hn:L.Nodup) {k:Nat} (hk:k<L.length):v=L.getD k 0↔bY L v=k:=by
 constructor
 ·intro e;rw[e,pM hn hk]
 ·intro e;have hp:bY L v<L.length:=by omega
  have:=zbf (w:=hp);have hv:L[bY L v]=v:=of_decide_eq_true this;have h2:L.getD k 0=L[k]:=by rw[zaa,zab hk];rfl
  rw[h2];subst e;exact hv.symm
theorem kB {l:aa} {i:Nat} (h:i<l.length):l[i]? =some (l.getD i 0):=by
 rw[zaa,zab h];rfl
theorem Fa (n:Nat):dk n (0:Int)=bu n fun _=>0:=by
 apply zaN;intro i;by_cases hi:i<n
 ·rw[lK _ hi];show(List.replicate n (0:Int))[i]? =_;rw[List.getElem?_replicate,if_pos hi]
 ·rw[zam (by show(List.replicate n (0:Int)).length<=i;simp;omega),zam (by rw[eO];omega)]
def mW (L D S:aa) (j q:Nat) (i:Nat):Int:=if(i<q/\bY L (S.getD i 0)+1=D.length - j)\/(D.length - j<=bY L (S.getD i 0)/\bY L (S.getD i 0)<D.length) then((bQ D (bY L (S.getD i 0)+1):Nat):Int) else 0
theorem akx (x:T3×aa) (y:aa) (h:sG x=some y):PI aM x=some y:=by
 obtain⟨⟨L,D,A⟩,S⟩:=x;simp only[sG] at h;split at h
 ·rename_i hc;rw[<-h];obtain⟨ha,hS,hp⟩:=hc
  try dsimp only at ha hS hp
  obtain⟨Mh,hl,_⟩:=uf ha;have Bl:=AO ha;have fP:=F6 ha;have hG:lz D:=⟨by omega,fun x hx=>by have:=Bl x hx;omega⟩;simp only[PI,ak];rw[uU (by simp only[ae,fe];omega)]
  try simp only[eQ]
  rw[show bk 0 (ae S) (ae (dk (ae S) (0:Int)))=some () from vH (by simp[ae,dk])]
  try simp only[eQ]
  rw[fS (r:=Sum.inl (oU L D S)) (fun j=>((S,((bQ D (D.length - j):Nat):Int),(D.length:Int) - 1 - (j:Int)),(L,D,A),bu S.length (mW L D S j 0))) D.length ?a1 ?a2 ?a3 (eP (by omega))]
  case a3=>
   rw[su (by show _<=((ae D:Nat):Int) - 1;omega) (by show((ae D:Nat):Int) - 1<=_;unfold ae;omega),Fa];rw[show D.length - 0=D.length from rfl,rn]
   rw[show bu S.length (mW L D S 0 0)=bu (ae S) (fun _=>0) from gJ fun i hi=>by
    unfold mW;rw[if_neg (by omega)]]
   show _=((S,((1:Nat):Int),(D.length:Int) - 1 - ((0:Nat):Int)),(L,D,A),_);rw[show(D.length:Int) - 1 - ((0:Nat):Int)=(D.length:Int) - 1 by omega];rfl
  case a2=>
   dsimp only
   rw[show iz (0:Int) ((D.length:Int) - 1 - (D.length:Int))=false from decide_eq_false (by omega),bN rfl]
   try simp only[bE,eQ]
   rw[show bu S.length (mW L D S D.length 0)=oU L D S from gJ fun i hi=>by
     unfold mW;by_cases hc:bY L (S.getD i 0)<L.length
     ·rw[if_pos (by omega),if_pos hc]
     ·rw[if_neg (by omega),if_neg hc]]
  case a1=>
   intro j hj;dsimp only
   rw[bS (zG (by omega))]
   try simp only[bE,eQ]
   have hk:((D.length:Int) - 1 - (j:Int))=((D.length - 1 - j:Nat):Int):=by omega
   rw[hk];have hdk:=Bl _ (ir (l:=D) (i:=D.length - 1 - j) (by omega));rw[fS (r:=Sum.inl ((((bQ D (D.length - j):Nat):Int),((D.length - 1 - j:Nat):Int),S),(L,D,A),bu S.length (mW L D S (j+1) 0))) (fun q=>((S,((bQ D (D.length - j):Nat):Int),((D.length - 1 - j:Nat):Int),S,(S.length:Int),(q:Int)),(L,D,A),bu S.length (mW L D S j q))) S.length ?b1 ?b2 ?b3 (eP (by omega))]
   case b3=>rfl
   case b2=>
    dsimp only
    rw[bN (d8 (by omega))]
    try simp only[bE,eQ]
    rw[show bu S.length (mW L D S j S.length)=bu S.length (mW L D S (j+1) 0) from gJ fun i hi=>by
     unfold mW;by_cases hc:(i<S.length/\bY L (S.getD i 0)+1=D.length - j)\/(D.length - j<=bY L (S.getD i 0)/\bY L (S.getD i 0)<D.length)
     ·rw[if_pos hc,if_pos (by omega)]
     ·rw[if_neg hc,if_neg (by omega)]]
   case b1=>
    intro q hq;dsimp only
    rw[bS (eB (by omega)),fq,fq,kB hq,kB (l:=L) (i:=D.length - 1 - j) (by omega)]
    try simp only[eQ]
    rw[fU (by omega) (by omega)];have y8:=ahQ (v:=S.getD q 0) fP (k:=D.length - 1 - j) (by omega);by_cases he:S.getD q 0=L.getD (D.length - 1 - j) 0
    ·have ft:=y8.1 he;rw[bS (by unfold c7;exact beq_iff_eq.2 he),uo _ hq]
     try simp only[eQ,ja]
     rw[qe _ hq]
     try simp only[eQ]
     rw[wC,show bk 0 (ae (bu S.length (mW L D S j q))) (ae (bu S.length fun i=>if i=q then((bQ D (D.length - j):Nat):Int) else mW L D S j q i))=some () from lV _ _ _]
     try simp only[eQ]
     rw[show bu S.length (fun i=>if i=q then((bQ D (D.length - j):Nat):Int) else mW L D S j q i)=bu S.length (mW L D S j (q+1)) from gJ fun i hi=>by
      by_cases hiq:i=q
      ·subst hiq;rw[if_pos rfl];unfold mW;rw[if_pos (by omega),ft,show D.length - 1 - j+1=D.length - j by omega]
      ·rw[if_neg hiq];unfold mW;by_cases hc:(i<q/\bY L (S.getD i 0)+1=D.length - j)\/(D.length - j<=bY L (S.getD i 0)/\bY L (S.getD i 0)<D.length)
       ·rw[if_pos hc,if_pos (by omega)]
       ·rw[if_neg hc,if_neg (by omega)]]
     rfl
    ·have ft:bY L (S.getD q 0)≠D.length - 1 - j:=fun e=>he (y8.2 e);rw[bN (by simp only[c7,beq_eq_false_iff_ne,ne_eq];exact he)]
     try simp only[bE,eQ]
     rw[show bu S.length (mW L D S j (q+1))=bu S.length (mW L D S j q) from gJ fun i hi=>by
      unfold mW;by_cases hc:(i<q/\bY L (S.getD i 0)+1=D.length - j)\/(D.length - j<=bY L (S.getD i 0)/\bY L (S.getD i 0)<D.length)
      ·rw[if_pos hc,if_pos (by omega)]
      ·rw[if_neg hc,if_neg (by
        intro dO;apply hc;rcases dO with⟨c1,c2⟩|c2
        ·left;refine⟨?_,c2⟩;have:i≠q:=by intro e;subst e;omega
         omega
        ·exact .inr c2)]]
     rfl
   simp only[cm,Option.bind];rw[fq,kB (l:=D) (i:=D.length - 1 - j) (by omega)]
   try simp only[eQ,bE]
   obtain⟨d,d1,d2,d3,d4,d5⟩:=QC hG (i:=D.length - 1 - j) (by omega);have ht:bQ D (D.length - 1 - j)=d*bQ D (D.length - 1 - j+1):=by rw[sv (by omega),d3]
   rw[show D.length - 1 - j+1=D.length - j by omega] at ht;have kf:=WN hG (i:=D.length - 1 - j) (by omega);rw[d2,qv (by rw[<-zax];omega) (by rw[<-zax,zaq,<-ht];omega),su (by omega) (by omega),<-zax,zaq,<-ht];show some (Sum.inl _)=some (Sum.inl ((S,((bQ D (D.length - (j+1)):Nat):Int),(D.length:Int) - 1 - ((j+1:Nat):Int)),(L,D,A),bu S.length (mW L D S (j+1) 0)));rw[show D.length - (j+1)=D.length - 1 - j by omega,show(D.length:Int) - 1 - ((j+1:Nat):Int)=((D.length - 1 - j:Nat):Int) - 1 by omega]
  simp only[cm,Option.bind,mr,eQ]
 ·cases h
def lB (m:Int) (r c:Nat) (d:aa):Nat:=(dR m r (dD c d) c).2.1.length
def rM (m:Int) (r c:Nat) (d:aa):aa:=aX r (lB m r c d) (adP (dD c d) (dR m r (dD c d) c).2.1)
def xg (m:Int) (r c:Nat) (d:aa):aa:=aX (lB m r c d) c (dR m r (dD c d) c).1
def af5 (s:bf):Prop:=(0<=s.1/\s.1<=4096)/\(0<=s.2.1/\s.2.1<=4096)/\(0<=s.2.2.1/\s.2.2.1<=4096)
instance (s:bf):Decidable (af5 s):=by unfold af5;infer_instance
theorem Dk {m:Int} {r c:Nat} {d:aa} (hl:d.length=r*c) (h:gy m d):eR m r c (dD c d):=by
 rw[<-vt,Me hl];exact h
theorem aut {r c k:Nat} (M:bF) (hk:k<=r):(aX r c M).take (k*c)=aX k c M:=by
 unfold aX;rw[<-List.map_take,List.take_range,Nat.min_eq_left (zas _ hk)]
theorem Zr {m:Int} {r c:Nat} {d:aa} (hm:eW m) (hl:d.length=r*c) (hd:gy m d):
  Zq (m,(r:Int),(c:Int),d)=(((r:Int),(lB m r c d:Int),rM m r c d),((lB m r c d:Int),(c:Int),xg m r c d))/\lB m r c d<=r/\lB m r c d<=c/\
  (rM m r c d).length=r*lB m r c d/\gy m (rM m r c d)/\(xg m r c d).length=lB m r c d*c/\gy m (xg m r c d):=by
 have hM:=Dk hl hd;have hI:=tC hm hM (r:=r) (c:=c) c;have h1:lB m r c d<=r:=hI.l;refine⟨?_,h1,hI.lj,uE _ _ _,?_,uE _ _ _,?_⟩
 ·simp only[Zq,Cg,zac];rw[aut _ hI.l];rfl
 ·unfold rM;rw[vt];intro i hi t ht;exact hM i hi _ (ar1 hI.e ht).2
 ·unfold xg;rw[vt];exact fun i hi j hj=>hI.m i (by omega) j hj
theorem Ol {m:Int} {s:bf} (h:pQ m s=true):∃(b p c:Nat) (d:aa),s=((b:Int),(p:Int),(c:Int),d)/\b<=32/\c<=32/\(1<=p/\p<=8)/\d.length=b*p*c/\gy m d:=by
 obtain⟨a,p,c,d⟩:=s;obtain⟨t1,t2,t3,t4,t5⟩:=V3 h;obtain⟨a,rfl⟩:=iC t1.1;obtain⟨p,rfl⟩:=iC (show 0<=p by omega);obtain⟨c,rfl⟩:=iC t2.1;refine⟨a,p,c,d,rfl,by omega,by omega,by omega,?_,fun x hx=>of_decide_eq_true (zaH.1 t5 x hx)⟩;have:((a:Int)*(p:Int)*(c:Int))=((a*p*c:Nat):Int):=by norm_cast
 rw[this] at t4;exact_mod_cast t4
theorem IH {m:Int} {b p c:Nat} {d:aa} (hb:b<=32) (hc:c<=32) (hp:1<=p/\p<=8) (hl:d.length=b*p*c) (hd:gy m d):pQ m ((b:Int),(p:Int),(c:Int),d)=true:=by
 have gk:wD m d=true:=zaH.2 fun x hx=>decide_eq_true (hd x hx);have e3:(d.length:Int)=(b:Int)*(p:Int)*(c:Int):=by rw[hl];norm_cast
 simp only[pQ,gk,e3,decide_true,zbH,zaj,decide_eq_true_eq];omega
def QQ (m:Int) (L:List bf):Prop:=(∀k,k<L.length->pQ m (L.getD k bO)=true)/\∀k,k+1<L.length->(L.getD (k+1) bO).1=(L.getD k bO).2.2.1
theorem LY {m:Int} {l:List bf} (h:fV (m,l)=true):QQ m l:=by
 obtain⟨hm,hl,_,_,hs⟩:=ul h;refine⟨fun k hk=>?_,fun k hk=>?_⟩
 ·obtain⟨p,M,e,h1,h2,h3,h4,h5⟩:=hs k hk;rw[e];exact IH h1 h2 h3 (uE _ _ _) (vt.2 h4)
 ·obtain⟨p,M,e,_⟩:=hs k (by omega);obtain⟨p',M',e',_⟩:=hs (k+1) hk;rw[e,e']
def X9 (m:Int) (s t:bf) (x:Int×Int×aa):Prop:=x.1=s.2.1*t.2.1/\x.2.1=s.2.1*t.2.1/\s.1*s.2.1<=64/\t.2.1*t.2.2.1<=64
instance (m:Int) (s t:bf) (x:Int×Int×aa):Decidable (X9 m s t x):=by unfold X9;infer_instance
section
variable {A1 A2 A3 A4 A5 X Y Z T ρ:Type}
end
section
variable {p:Int} {n:Nat} {a b:aa} {ms:List lQ} {N k:Nat}
end
section
variable {p:Int} {n:Nat} {a b:aa} {ms:List lQ} {N k:Nat}
theorem Rf {α:Type} (l r:List α):bk 0 (aH (ae l) (ae r)) (ae (fj l r))=some ():=vH (by simp[aH,ae,fj])
end
def KE:ar:=[(.agg,[.int .i64,.int .i64,.int .i64]),(.agg,[.list [.int .i64],.list [.int .i64],.list [.int .i64]]),(.one,[.list [.int .i64]])]
def Vf:ar:=[(.agg,[.list [.int .i64],.list [.int .i64],.list [.int .i64]])]
def apf:aU:=[]
def PD (NN:Nat):((Int×(Int×Int))×((aa×(aa×aa))×aa))->(Option (aa×(aa×aa))):=
 (fun(((i0,i1,i2),(l3,l4,l5),l6):((Int×(Int×Int))×((aa×(aa×aa))×aa)))=>
 (sE l6).af (fun l7=>
 (km (aS (ae l6)) (aS (ae l6)) 8).af (fun k8=>
 cm ((bk 0 0 (ae (([]:aa)))).af (fun _=>
 (bk 0 0 (ae (([]:aa)))).af (fun _=>
 (bk 0 0 (ae (([]:aa)))).af (fun _=>
 ak l7 (
 (bk 0 k8 (ae (dk k8 (0:Int)))).af (fun _=>
 (bk 0 0 (ae (([]:aa)))).af (fun _=>
 cH NN (fun(((l9,c8,ie,eT),(gE,gB,gF),(eG,dm,fR),ik,kj,gI,eo,gT,jr):((aa×(aa×(Int×Int)))×((Int×(Int×Int))×((aa×(aa×aa))×(aa×(aa×(aa×(aa×(aa×aa)))))))))=>
 aI (cL eT ie)
 ((di c8 eT).af (fun fA=>
 (vj ((eG,dm,fR),fA)).af (fun gZ=>
 (di dm gZ).af (fun gS=>
 (dB eT (ae gT)).af (fun xP=>
 (cW gT (aH 0 xP)).af (fun pA=>
 ak ik (
 ak kj (
 ak gI (
 ak eo (
 (bk 0 (ae gT) (ae (bK gT (aH 0 xP) gS))).af (fun _=>
 ak jr (
 some (Sum.inl ((l9,c8,ie,br .i64 eT 1),(gE,gB,gF),(eG,dm,fR),ik,kj,gI,eo,bK gT (aH 0 xP) gS,jr))))))))))))))
 ((ak ik (
 ak kj (
 ak gI (
 ak eo (
 ak gT (
 ak jr (
 some (Sum.inl (l9,(gE,gB,gF),(eG,dm,fR),ik,kj,gI,eo,gT,jr))))))))).af (fun mO=>
 some (Sum.inr mO))))
 ((l6,l6,aS (ae l6),(0:Int)),(i0,i1,i2),(l3,l4,l5),([]:aa),([]:aa),([]:aa),l7,dk k8 (0:Int),([]:aa)))))))))
 (fun(jX,(jV,nr,kg),(qp,jt,iK),lE,pF,qq,jH,mP,iw)=>
 (sG ((qp,jt,iK),jX)).af (fun iy=>
 (km (aS (ae jX)) (aS (ae jX)) 8).af (fun Tb=>
 ak iy (
 (bk 0 Tb (ae (dk Tb (0:Int)))).af (fun _=>
 ak lE (
 ak pF (
 ak qq (
 ak jH (
 ak mP (
 ak iw (
 cH NN (fun(((jp,ij,ql),(ra,EE,nw),mR,n5,nz,oP,n6,jI,n7,g7):((Int×(Int×Int))×((aa×(aa×aa))×(aa×(aa×(aa×(aa×(aa×(aa×(aa×aa))))))))))=>
 (cM n7 0 (ae n7)).af (fun lF=>
 (cM g7 0 (ae g7)).af (fun rb=>
 (t8 (lF,rb)).af (fun uN=>
 (oW ((jp,ij,ql),(ra,EE,nw),uN)).af (fun oQ=>
 ak jI (
 (mG (aH (ae jI) (ae oQ)) 8).af (fun _=>
 (cM n6 0 (ae n6)).af (fun BV=>
 ak g7 (
 (sF (BV,g7)).af (fun(P2,zF)=>
 aI (fw P2)
 (((fg oP (ae oP)).af (fun l67=>
 (fg n6 (ae n6)).af (fun Ni=>
 (fg (fj jI oQ) (aH (ae jI) (ae oQ))).af (fun EF=>
 some (l67,Ni,EF))))).af (fun((EG,BX,BZ):(aa×(aa×aa)))=>
 some (Sum.inr (EG,BX,BZ))))
 (ak n7 (
 (bk 0 (ae g7) (ae zF)).af (fun _=>
 ak mR (
 ak n5 (
 ak nz (
 ak oP (
 ak n6 (
 (bk 0 (aH (ae jI) (ae oQ)) (ae (fj jI oQ))).af (fun _=>
 some (Sum.inl ((jp,ij,ql),(ra,EE,nw),mR,n5,nz,oP,n6,fj jI oQ,n7,zF)))))))))))))))))))))
 ((jV,nr,kg),(qp,jt,iK),lE,pF,qq,jH,mP,iw,iy,dk Tb (0:Int))))))))))))))))
theorem I6 {r:Rg} {L D A:aa} (h:jz r (L,D,A)=true):p9 L D=true/\dZ D<=4096:=by
 simp only[jz,zaj,decide_eq_true_eq] at h;obtain⟨h1,h2,h3,h4⟩:=h;by_cases ha:p9 L D=true/\dZ D<=4096
 ·exact ha
 ·have e:j3 L D= -1:=if_neg ha;rw[e] at h2;exact absurd h2 (by decide)
theorem Yg (r:Rg) (A:aa) (off:Nat->Nat):∀n,(sK r A off n).length<=n*cB r
 |0=>by simp[sK]
 |n+1=>by
  have ih:=Yg r A off n;unfold sK;rw[zad,zat,zaT];have:(jw A (off n*cB r) (cB r)).length<=cB r:=by unfold jw;rw[zau];omega
  omega
theorem aq5 {L D S:aa} (I:kw L D S) (n:Nat):sN (fun i=>((cA (gp L D S) n).getD i 0).toNat*((tP L D S).getD i 0).toNat) (tP L D S).length=mq L D S n:=by
 rw[show(tP L D S).length=S.length from eO _ _]
 unfold mq;refine Iu _ fun i hi=>?_;rw[Hu (by unfold gp;rw[eO];exact hi)];unfold gP;rw[pM I.nS hi];congr 1;unfold tP;rw[zaa,lK _ hi];exact zac _
theorem auc {L D S:aa} (I:kw L D S) (hp:bh D<=4096):Fo (tP L D S) 1048576:=by
 refine⟨by unfold tP;rw[eO,I.IJ];exact I.fJ,fun x hx=>?_⟩;obtain⟨i,hi,rfl⟩:=zaw.1 hx;have h1:=I.AL (zav.1 hi);have:=WN I.lz (i:=bY L (S.getD i 0)+1) (by have:=I.len;omega);omega
theorem amB {L D S:aa} (I:kw L D S) (n:Nat):Fo (cA (gp L D S) n) 8:=by
 refine⟨by unfold cA gp;rw[eO,eO,I.IJ];exact I.fJ,fun x hx=>?_⟩;obtain⟨i,hi,rfl⟩:=zaw.1 hx;have hi:i<S.length:=by have:=zav.1 hi;unfold gp at this;rwa[eO] at this
 have h1:=I.YP n hi;have h2:=I.qK _ (ir (l:=D) (i:=bY L (S.getD i 0)) (by have:=I.AL hi;have:=I.len;omega));omega
theorem ahV {L D A S:aa} (I:kw L D S) {i:Nat} (hi:i<S.length):qL L (S.getD i 0)=((bY L (S.getD i 0):Nat):Int):=if_pos (I.AL hi)
def B9 (L D S:aa) (j:Nat) (i:Nat):Int:=if i<j then D.getD (bY L (S.getD i 0)) 0 else 0
theorem aub {L D S:aa} (I:kw L D S):oU L D S=tP L D S:=gJ fun i hi=>if_pos (I.AL hi)
theorem akp (x:Rg×T3×aa) (y:T3) (h:CY x=some y):PD aM x=some y:=by
 obtain⟨⟨k,p,m⟩,⟨L,D,A⟩,S⟩:=x;simp only[CY,Xn] at h;split at h
 ·rename_i hc;rw[<-h];obtain⟨ht,hS⟩:=hc
  try dsimp only at ht hS
  have rQ:=(I6 ht).1;have I:=kw.mk' rQ hS;obtain⟨hr,⟨hl,hd⟩,ME,⟨s9,qT⟩,hA,hD,kC,hpI,_⟩:=yj ht;have hw:=CN hr;have Mh:=I.fJ;have hll:=I.len;have kF:=I.IJ;have MC:=I.prod;have hDP:=I.aiR;have jk:(gp L D S).length=S.length:=eO _ _;simp only[PD,ak];rw[show sE S=some S from if_pos (by omega)]
  simp only[eQ];rw[uU (by simp only[ae,fe];omega)];simp only[eQ,bE];rw[show bk 0 0 (ae ([]:aa))=some () from rfl,show bk 0 (ae S) (ae (dk (ae S) (0:Int)))=some () from vH (by simp[ae,dk])]
  simp only[eQ];rw[fS (r:=Sum.inl (S,(k,p,m),(L,D,A),([]:aa),([]:aa),([]:aa),S,gp L D S,([]:aa))) (fun j=>((S,S,(S.length:Int),(j:Int)),(k,p,m),(L,D,A),([]:aa),([]:aa),([]:aa),S,bu S.length (B9 L D S j),([]:aa))) S.length ?a1 ?a2 ?a3 (eP (by omega))]
  case a3=>
   rw[Fa];rfl
  case a2=>
   dsimp only
   rw[bN (d8 (by omega))]
   try simp only[bE,eQ]
   rw[show bu S.length (B9 L D S S.length)=gp L D S from gJ fun i hi=>if_pos hi]
  case a1=>
   intro i hi;dsimp only
   have cV:=I.AL hi;rw[bS (eB (by omega)),fq,kB hi];simp only[eQ];rw[show vj ((L,D,A),S.getD i 0)=some (qL L (S.getD i 0)) from if_pos (by dsimp only;omega),ahV (A:=A) I hi]
   simp only[eQ];rw[fq,kB (l:=D) (i:=bY L (S.getD i 0)) (by omega)];simp only[eQ];rw[uo _ hi];simp only[eQ,ja];rw[qe _ hi];simp only[eQ,bE];rw[wC,show bk 0 (ae (bu S.length (B9 L D S i))) (ae (bu S.length fun q=>if q=i then D.getD (bY L (S.getD i 0)) 0 else B9 L D S i q))=some () from lV _ _ _]
   simp only[eQ];rw[fU (by omega) (by omega)];rw[show bu S.length (fun q=>if q=i then D.getD (bY L (S.getD i 0)) 0 else B9 L D S i q)=bu S.length (B9 L D S (i+1)) from gJ fun q hq=>by
    unfold B9;by_cases lZ:q=i
    ·subst lZ;rw[if_pos rfl,if_pos (by omega)]
    ·rw[if_neg lZ];by_cases cD:q<i
     ·rw[if_pos cD,if_pos (by omega)]
     ·rw[if_neg cD,if_neg (by omega)]]
   rfl
  simp only[cm,Option.bind];rw[show sG ((L,D,A),S)=some (tP L D S) from(if_pos ⟨rQ,by dsimp only;have:=I.IJ;have:=I.fJ;omega,qT⟩).trans (congrArg some (aub I))]
  simp only[eQ];rw[uU (by simp only[ae,fe];omega)];simp only[eQ,bE];rw[show bk 0 (ae S) (ae (dk (ae S) (0:Int)))=some () from vH (by simp[ae,dk])]
  simp only[eQ];have aly:dk (ae S) (0:Int)=cA (gp L D S) 0:=by
   have:=abc hDP;rw[show ae (gp L D S)=ae S from jk] at this
   exact this
  have Hj:∀n,n<bh D->t8 (tP L D S,cA (gp L D S) n)=some ((mq L D S n:Nat):Int)/\oW ((k,p,m),(L,D,A),((mq L D S n:Nat):Int))=some (jw A (mq L D S n*cB (k,p,m)) (cB (k,p,m)))/\
    mG (aH (ae (sK (k,p,m) A (mq L D S) n)) (ae (jw A (mq L D S n*cB (k,p,m)) (cB (k,p,m))))) 8=some ()/\sF (gp L D S,cA (gp L D S) n)=some (decide (n+1<bh D),cA (gp L D S) (n+1)):=by
   intro n hn;have ho:=I.aq6 n;refine⟨?_,?_,?_,?_⟩
   ·rw[<-aq5 I n];exact if_pos ⟨(auc I qT).m,(amB I n).m,by show(tP L D S).length=(cA (gp L D S) n).length;unfold tP cA;rw[eO,eO,jk]⟩
   ·have h1:(mq L D S n+1)*cB (k,p,m)<=bh D*cB (k,p,m):=zas _ ho;have h2:bh D*cB (k,p,m)<=4096*6:=zag qT hw.2.2;rw[show oW ((k,p,m),(L,D,A),((mq L D S n:Nat):Int))=_ from if_pos ⟨hr,by dsimp only;omega,by dsimp only;rw[zac];omega,by dsimp only;omega⟩]
    rfl
   ·have h1:=Yg (k,p,m) A (mq L D S) n;have h2:n*cB (k,p,m)<=4096*6:=zag (by omega) hw.2.2;have h3:(jw A (mq L D S n*cB (k,p,m)) (cB (k,p,m))).length<=6:=by unfold jw;rw[zau];omega
    exact rO (by simp only[aH,ae,fe];omega)
   ·have:=TQ hDP (n:=n) (by rw[MC];exact hn) (by rw[MC];omega);rw[MC] at this;exact this
  rw[aly];rw[fS (r:=zP (k,p,m) (L,D,A) S) (fun n=>((k,p,m),(L,D,A),([]:aa),([]:aa),([]:aa),S,gp L D S,sK (k,p,m) A (mq L D S) n,tP L D S,cA (gp L D S) n)) (bh D - 1) ?b1 ?b2 ?b3 (eP (by omega))]
  case b3=>rfl
  case b2=>
   obtain⟨q1,q2,q3,q4⟩:=Hj (bh D - 1) (by omega);dsimp only
   simp only[d6,bE,eQ];rw[q1];simp only[eQ];rw[q2];simp only[eQ];rw[q3];simp only[eQ];rw[q4];simp only[eQ];rw[decide_eq_false (by omega),bS (b:=fw false) rfl];simp only[mr,eQ];rw[aun (by simp[aH,ae,fj])];simp only[eQ];show some (Sum.inr (S,gp L D S,sK (k,p,m) A (mq L D S) (bh D - 1)++jw A (mq L D S (bh D - 1)*cB (k,p,m)) (cB (k,p,m))))=some (Sum.inr (S,gp L D S,sK (k,p,m) A (mq L D S) (bh (gp L D S))));rw[MC];obtain⟨N,hN⟩:∃N,bh D=N+1:=⟨bh D - 1,by omega⟩;rw[hN];rfl
  case b1=>
   intro n hn;obtain⟨q1,q2,q3,q4⟩:=Hj n (by omega);dsimp only
   simp only[d6,bE,eQ];rw[q1];simp only[eQ];rw[q2];simp only[eQ];rw[q3];simp only[eQ];rw[q4];simp only[eQ];rw[decide_eq_true (by omega),bN (b:=fw true) rfl];rw[show bk 0 (ae (cA (gp L D S) n)) (ae (cA (gp L D S) (n+1)))=some () from by unfold cA;exact lV _ _ _]
   simp only[eQ];rw[Rf];rfl
 ·cases h
theorem FL {α:Type} (x:α):cM [x] 0 1=some [x]:=rfl
abbrev oV:=Nat×aa×List bf
def cK (m:Int) (D:aa) (i:Nat) (st:oV):Nat:=lB m (st.1*(D.getD i 0).toNat) (bQ D (i+1)) st.2.1
def wZ (m:Int) (D:aa) (i:Nat) (st:oV):oV:=
 (cK m D i st,xg m (st.1*(D.getD i 0).toNat) (bQ D (i+1)) st.2.1,st.2.2++[((st.1:Int),D.getD i 0,(cK m D i st:Int),rM m (st.1*(D.getD i 0).toNat) (bQ D (i+1)) st.2.1)])
def F8 (D:aa) (i:Nat) (st:oV):Bool:=decide (st.1*(D.getD i 0).toNat<=64/\bQ D (i+1)<=64)
def Qt (m:Int) (D:aa) (i:Nat) (st:oV) (_:Nat):Option oV:=if F8 D i st=true then(if cK m D i st<=32 then some (wZ m D i st) else none) else none
def B4 (D:aa) (st:oV):List bf:=st.2.2++[((st.1:Int),D.getD (D.length - 1) 0,1,st.2.1)]
structure wK (m:Int) (D A:aa):Prop where
 pr:dJ m=true
 l1:1<=D.length
 l8:D.length<=8
 qK:∀x∈D,1<=x/\x<=8
 pn:bh D<=4096
 len:A.length=bh D
 el:gy m A
structure vm (m:Int) (D:aa) (i:Nat) (st:oV):Prop where
 left:st.1<=64
 len:st.2.1.length=st.1*bQ D i
 el:gy m st.2.1
 jC:st.2.2.length=i
 sz:yi st.2.2<=i*5000
theorem aul (L:List bf) (s:bf):yi (L++[s])=yi L+1+s.2.2.2.length:=by
 simp only[yi,zad,zan,zbl,zae,zah,zal,za9,zaK,List.sum_nil];show _=_+1+tT s;omega
theorem vm.rc {m:Int} {D A:aa} (h:wK m D A) {i:Nat} (hi:i<D.length - 1) {st:oV} (I:vm m D i st):st.2.1.length=st.1*(D.getD i 0).toNat*bQ D (i+1):=by
 rw[I.len,sv (by omega),zaJ]
theorem vm.next {m:Int} {D A:aa} (h:wK m D A) {i:Nat} (hi:i<D.length - 1) {st:oV} (I:vm m D i st) (hf:F8 D i st=true):vm m D (i+1) (wZ m D i st):=by
 have hf:=of_decide_eq_true hf;obtain⟨_,f1,f2,f3,f4,f5,f6⟩:=Zr (fQ h.pr) (vm.rc h hi I) I.el;refine⟨by show lB _ _ _ _<=64;omega,f5,f6,by show(st.2.2++[_]).length=_;rw[zad,I.jC];rfl,?_⟩;show yi (st.2.2++[_])<=_;rw[aul];show yi st.2.2+1+(rM _ _ _ _).length<=_;rw[f3];have h1:st.1*(D.getD i 0).toNat*lB m (st.1*(D.getD i 0).toNat) (bQ D (i+1)) st.2.1<=64*64:=zag hf.1 (by omega);have:=I.sz;omega
structure AD (m:Int) (D:aa) (i:Nat) (st:oV):Prop where
 s:vm m D i st
 left:st.1<=32
 ch:ia (o9 m) 0 1 st.2.2=some (st.1:Int)
 Gl:aV st.2.2=D.take i
theorem Ma {S α:Type} (step:Nat->S->α->Option S) (a:α):∀(l:List α) (i:Nat) (s:S),ia step i s (l++[a])=match ia step i s l with|some s'=>step (i+l.length) s' a|none=>none
 |[],i,s=>by
  simp only[List.nil_append,ia,zah,zbv];cases step i s a<;>rfl
 |b::l,i,s=>by
  simp only[List.cons_append,ia];cases step i s b with
  |none=>rfl
  |some s1=>
   simp only
   rw[Ma step a l (i+1) s1,zae,show i+1+l.length=i+(l.length+1) by omega]
theorem YQ {m:Int} {D A:aa} (h:wK m D A) {i:Nat} (hi:i<D.length):∃d:Nat,D.getD i 0=(d:Int)/\(D.getD i 0).toNat=d/\1<=d/\d<=8:=by
 have:=h.qK _ (ir hi);exact⟨(D.getD i 0).toNat,by omega,rfl,by omega,by omega⟩
theorem AD.next {m:Int} {D A:aa} (h:wK m D A) {i:Nat} (hi:i<D.length - 1) {st:oV} (I:AD m D i st) (hf:F8 D i st=true) (hk:cK m D i st<=32):AD m D (i+1) (wZ m D i st):=by
 have hs:=vm.next h hi I.s hf;obtain⟨d,d1,d2,d3,d4⟩:=YQ h (i:=i) (by omega);obtain⟨_,f1,f2,f3,f4,f5,f6⟩:=Zr (fQ h.pr) (vm.rc h hi I.s) I.s.el;refine⟨hs,hk,?_,?_⟩
 ·show ia (o9 m) 0 1 (st.2.2++[_])=some ((cK m D i st:Nat):Int);rw[Ma,I.ch];show o9 m _ _ _=_;refine if_pos ⟨?_,rfl⟩;have QL:(rM m (st.1*(D.getD i 0).toNat) (bQ D (i+1)) st.2.1).length=st.1*(D.getD i 0).toNat*cK m D i st:=f3;generalize rM m (st.1*(D.getD i 0).toNat) (bQ D (i+1)) st.2.1=fa at QL f4⊢;rw[d2] at QL;rw[d1];exact IH I.left hk ⟨d3,d4⟩ QL f4
 ·show aV (st.2.2++[_])=_;unfold aV;rw[zan];show aV st.2.2++[D.getD i 0]=_;rw[I.Gl,zaE,kB (by omega)];rfl
theorem AD.fin {m:Int} {D A:aa} (h:wK m D A) {st:oV} (I:AD m D (D.length - 1) st):fV (m,B4 D st)=true:=by
 have l1:=h.l1;obtain⟨d,d1,d2,d3,d4⟩:=YQ h (i:=D.length - 1) (by omega);have hlen:=I.s.len;rw[sv (by omega),show D.length - 1+1=D.length by omega,rn,zai,d2] at hlen;have GZ:=I.s.jC;have jh:ia (o9 m) 0 1 (B4 D st)=some 1:=by
  unfold B4;rw[Ma,I.ch];show o9 m _ _ _=_;refine if_pos ⟨?_,rfl⟩;rw[d1];exact IH (c:=1) I.left (by omega) ⟨d3,d4⟩ (by rw[hlen,zai]) I.s.el
 have Bl:aV (B4 D st)=D:=by
  unfold B4 aV;rw[zan];show aV st.2.2++[D.getD (D.length - 1) 0]=_;rw[I.Gl];have:=zaE (l:=D) (i:=D.length - 1);rw[show D.length - 1+1=D.length by omega,zap,kB (by omega)] at this;exact this.symm
 have hp:dZ D<=4096:=by
  rw[uZ fun x hx=>(h.qK x hx).1];have:=h.pn;omega
 have hll:(B4 D st).length=D.length:=by
  unfold B4;rw[zad,GZ];show D.length - 1+1=_;omega
 simp only[fV,h.pr,jh,Bl,hll,zbm];rw[decide_eq_true ⟨l1,h.l8⟩,decide_eq_true hp];rfl
theorem aiv {n:Nat} (h1:1<=n) (h:n<=1000):lL .i64 (n:Int) 1=((n - 1:Nat):Int):=by rw[su (by omega) (by omega)];omega

def KY:ar:=[(.ptr,[.list [.int .u8],.int .i64,.int .i64]),(.one,[.int .i64]),(.one,[.int .i64]),(.one,[.int .i64])]
def VA:ar:=[(.agg,[.int .i64,.int .i64,.list [.int .i64]]),(.ptr,[.list [.int .u8],.int .i64,.int .i64])]
def apA:aU:=[[some .aL]]
def JM (NN:Nat):((aa×(Int×Int))×(Int×(Int×Int)))->(Option ((Int×(Int×aa))×(aa×(Int×Int)))):=
 (fun(((l0,i1,i2),i3,i4,i5):((aa×(Int×Int))×(Int×(Int×Int))))=>
 (AA (i4,i5)).af (fun(i6,i7,l8)=>
 cm ((bk 0 0 (ae (([]:aa)))).af (fun _=>
 ak l8 (
 cH NN (fun(((i9,fG,ie,eT,gE),(dQ,gF,fY),(gG,iI),(gM,e9),gI,eo):((Int×(Int×(Int×(Int×Int))))×((aa×(Int×Int))×((Int×Int)×((Int×Int)×(aa×aa))))))=>
 aI (cL gE eT)
 ((yB ((dQ,gF,fY),(3:Int))).af (fun(P1,jr,fA,gZ)=>
 aI (fw P1)
 ((t9 ((jr,fA,gZ),iB i9 (256:Int))).af (fun(gS,kl,pA,ig)=>
 (dB gE (ae eo)).af (fun uR=>
 (cW eo (aH 0 uR)).af (fun jV=>
 ak gI (
 (bk 0 (ae eo) (ae (bK eo (aH 0 uR) gS))).af (fun _=>
 some (Sum.inl ((i9,fG,ie,eT,br .i64 gE 1),(kl,pA,ig),(gG,iI),(gM,e9),gI,bK eo (aH 0 uR) gS))))))))
 (ak gI (
 ak eo (
 some (Sum.inl ((i9,fG,ie,eT,br .i64 gE 1),(jr,fA,gZ),(gG,iI),(gM,e9),gI,eo)))))))
 ((ak gI (
 ak eo (
 some (Sum.inl ((fG,ie),(dQ,gF,fY),(gG,iI),(gM,e9),gI,eo))))).af (fun gU=>
 some (Sum.inr gU))))
 ((i3,i4,i5,aS (ae l8),(0:Int)),(l0,i1,i2),((0:Int),(0:Int)),(i6,i7),([]:aa),l8))))
 (fun((kg,g0),(jt,qk,lD),(iJ,jo),(mg,ii),iw,iy)=>
 aI (cL (1:Int) kg)
 ((yB ((jt,qk,lD),(3:Int))).af (fun(b45,jZ,ij,ql)=>
 cm (aI (b45)
 (ak iw (
 ak iy (
 cH NN (fun(((pB,nY),(nw,tf,xL),(xN,zt),(vY,MJ),n7,g7):((Int×Int)×((aa×(Int×Int))×((Int×Int)×((Int×Int)×(aa×aa))))))=>
 aI (cL nY pB)
 ((dB nY (ae g7)).af (fun k60=>
 (cW g7 (aH 0 k60)).af (fun BB=>
 (dB (br .i64 pB nY) (ae g7)).af (fun Te=>
 (cW g7 (aH 0 Te)).af (fun vZ=>
 ak n7 (
 (bk 0 (ae g7) (ae (bK g7 (aH 0 Te) BB))).af (fun _=>
 some (Sum.inl ((pB,br .i64 nY 1),(nw,tf,xL),(xN,zt),(vY,MJ),n7,bK g7 (aH 0 Te) BB)))))))))
 ((ak n7 (
 ak g7 (
 some (Sum.inl ((nw,tf,xL),(xN,zt),(vY,MJ),n7,g7))))).af (fun BV=>
 some (Sum.inr BV))))
 ((g0,(0:Int)),(jZ,ij,ql),(iJ,jo),(mg,ii),iw,iy))))
 (ak iw (
 ak iy (
 some (Sum.inl ((jZ,ij,ql),(iJ,jo),(mg,ii),iw,iy))))))
 (fun((BW,BD,qm),(BE,zu),(zv,v5),BZ,EH)=>
 (cM EH 0 (ae EH)).af (fun xT=>
 some ((zv,v5,xT),BW,BD,qm)))))
 (cm (ak iw (
 ak iy (
 some (Sum.inl ((jt,qk,lD),(iJ,jo),(mg,ii),iw,iy)))))
 (fun((B0,Et,v7),(xO,BG),(Hs,zw),B2,wc)=>
 (cM wc 0 (ae wc)).af (fun B3=>
 some ((Hs,zw,B3),B0,Et,v7)))))))
def C8:((aa×(Int×Int))×(Int×(Int×Int)))->(Option ((Int×(Int×aa))×(aa×(Int×Int)))):=JM aM
theorem akK (x:((aa×(Int×Int))×(Int×(Int×Int)))) (z:((Int×(Int×aa))×(aa×(Int×Int)))) (h:C8 x=some z):JM aM x=some z:=h
theorem ab9 {p:Int} (h:2<=p):1<=iB p 256/\iB p 256<=p:=by rw[ab7];omega
theorem Tu {α:Type} (l:List α):ae l=l.length:=rfl
theorem ai4 (c:Cu) (p:Int) (r k:Nat) (h:lk c) (hp:eW p) (hr:r<=100) (hk:k<=100):
  ∃d c',C8 (c,p,(r:Int),(k:Int))=some (((r:Int),(k:Int),d),c')/\d.length=r*k/\gy p d/\lk c':=by
 obtain⟨cl,ci,ch⟩:=c;have hrk:r*k<=10000:=by
  have:=zag hr hk;omega
 simp only[C8,JM,ak];rw[adu (by omega) (by omega) (by omega)];simp only[aB,ak1,bE];generalize hL:cH aM _ _=o;obtain⟨s,rfl,c',d,rfl,dO,hl,hd⟩:∃s,o=some s/\∃(c':Cu) (d:aa),s=Sum.inl (((r:Int),(k:Int)),c',(0,0),((r:Int),(k:Int)),[],d)/\lk c'/\d.length=r*k/\gy p d:=by
  rw[<-hL];refine EN (r*k) (fun j (s:((Int×(Int×(Int×(Int×Int))))×((aa×(Int×Int))×((Int×Int)×((Int×Int)×(aa×aa))))))=>∃(c':Cu) (d:aa),s=((p,(r:Int),(k:Int),((r*k:Nat):Int),(j:Int)),c',(0,0),((r:Int),(k:Int)),[],d)/\lk c'/\d.length=r*k/\gy p d) _ ?_ ?_ ?_ (eP (by omega))
  ·rintro j s hj ⟨⟨l1,i1,h1⟩,d,rfl,hc,hl,hd⟩;dsimp only
   rw[bS (eB (by omega))];obtain⟨b,⟨l2,i2,h2⟩,e2,hc⟩:=TY _ 3 hc (by decide);rw[e2];simp only[aB];cases b
   ·rw[bS (show fw false=true from rfl)]
    obtain⟨x,⟨l3,i3,h3⟩,e3,hx,_,hc⟩:=Dn _ (iB p 256) hc (ab9 hp.1).1;have hm:=(ab9 hp.1).2;rw[e3];simp only[aB];have kD:j<d.length:=by omega
    rw[rD (show j<ae d by rw[Tu];exact kD)];simp only[aB,ja];rw[show cW d j=some d[j] from zab kD]
    simp only[aB];rw[show bk 0 (ae d) (ae (bK d j x))=some () from vH (by simp[ae,bK])]
    simp only[aB];rw[fU (by omega) (by omega)];refine⟨_,rfl,_,_,rfl,hc,by unfold bK;rw[zbz];exact hl,?_⟩;intro e he;unfold bK at he;rcases za0 he with h|h
    ·exact hd e h
    ·subst h;exact⟨hx.1,by omega⟩
   ·rw[bN (show fw true=false from rfl)]
    rw[fU (by omega) (by omega)];exact⟨_,rfl,_,_,rfl,hc,hl,hd⟩
  ·rintro s ⟨⟨l1,i1,h1⟩,d,rfl,hc,hl,hd⟩;dsimp only
   rw[bN (d8 (by omega))];exact⟨_,rfl,_,_,rfl,hc,hl,hd⟩
  ·refine⟨_,_,?_,h,uE r k _,vt.2 (fun i j _ _=>⟨Int.le_refl _,by have:=hp.1;omega⟩)⟩;rw[show aS (ae (aX r k fun _ _=>0))=((r*k:Nat):Int) by unfold aS ae;rw[uE]];rfl
 obtain⟨l1,i1,h1⟩:=c';simp only[cm,Option.bind,Option.af];by_cases hc:1<r
 ·rw[bS (eB (by omega))];obtain⟨b,⟨l2,i2,h2⟩,e2,y9⟩:=TY _ 3 dO (by decide);rw[e2];dsimp only
  cases b
  ·simp only[AR,bE,d6];exact⟨_,_,rfl,hl,hd,y9⟩
  ·simp only[DH,bE,d6];generalize hL:cH aM _ _=o;obtain⟨s,rfl,d',rfl,eN,hd'⟩:∃s,o=some s/\∃(d':aa),s=Sum.inl ((l2,i2,h2),(0,0),((r:Int),(k:Int)),[],d')/\d'.length=r*k/\gy p d':=by
    rw[<-hL];refine EN k (fun j (s:((Int×Int)×((aa×(Int×Int))×((Int×Int)×((Int×Int)×(aa×aa))))))=>∃(d:aa),s=(((k:Int),(j:Int)),(l2,i2,h2),(0,0),((r:Int),(k:Int)),[],d)/\d.length=r*k/\gy p d) _ ?_ ?_ ⟨_,rfl,hl,hd⟩ (eP (by omega))
    ·rintro j s hj ⟨d,rfl,hl,hd⟩;dsimp only
     have ave:2*k<=r*k:=zas k hc;rw[bS (eB (by omega))];have RU:j<d.length:=by omega
     have hj2:k+j<d.length:=by omega
     rw[fU (by omega) (by omega),show((k:Int)+(j:Int))=((k+j:Nat):Int) by push_cast;rfl];rw[rD (show j<ae d by rw[Tu];exact RU),rD (show k+j<ae d by rw[Tu];exact hj2)];simp only[ja];rw[show cW d j=some d[j] from zab RU,show cW d (k+j)=some d[k+j] from zab hj2]
     dsimp only
     rw[show bk 0 (ae d) (ae (bK d (k+j) d[j]))=some () from vH (by simp[ae,bK])]
     dsimp only
     rw[fU (by omega) (by omega)];refine⟨_,rfl,_,rfl,by unfold bK;rw[zbz];exact hl,?_⟩;intro e he;unfold bK at he;rcases za0 he with h|h
     ·exact hd e h
     ·subst h;exact hd _ (za7 RU)
    ·rintro s ⟨d,rfl,hl,hd⟩;dsimp only
     rw[bN (d8 (by omega))];exact⟨_,rfl,_,rfl,hl,hd⟩
   simp only[d6];exact⟨_,_,rfl,eN,hd',y9⟩
 ·rw[bN (d8 (by omega))];simp only[bE,d6];exact⟨_,_,rfl,hl,hd,dO⟩
theorem ar9:dJ 2=true:=by decide+kernel
theorem asa:dJ 3=true:=by decide+kernel
theorem asb:dJ 7=true:=by decide+kernel
theorem ar8:dJ 101=true:=by decide+kernel
theorem ar7:dJ 1000003=true:=by decide+kernel
structure FY (p:Int) (r:Nat) (M N:bF) (t k j:Nat) (inv:Int):Prop where
 tk:t<=k
 kr:k<r
 ne:M k j≠0
 one:M k j*inv%p=1
 nt:∀b,N t b=M k b*inv%p
 na:∀a,a<r->a≠t->∀b,N a b=(fk M t k a b+(p - fk M t k a j)*N t b)%p
 first:∀i,t<=i->i<k->M i j=0
theorem Um {p:Int} {r c:Nat} {s:bF×aa×Int} {j:Nat} (cr:dJ p=true) (I:RI p r c s j) (hj:j<c):
  (pO p r s j=s/\∀i,s.2.1.length<=i->i<r->s.1 i j=0)\/
   ∃k N inv,pO p r s j=(N,s.2.1++[(j:Int)],Ul p s.1 s.2.1.length j k s.2.2)/\FY p r s.1 N s.2.1.length k j inv/\s.2.1.length<r:=by
 have hp:eW p:=fQ cr;by_cases hl:s.2.1.length<r
 ·cases hk:tx s.1 j (r - s.2.1.length) s.2.1.length with
  |none=>exact .inl ⟨aef hl hk,fun i h1 h2=>Ud hk i h1 (by omega)⟩
  |some k=>
   have hq:=NT hk;have Br:k<r:=by omega
   have hx:eU p (s.1 k j):=I.m k Br j hj;have hi:=abo cr hx hq.2.2;have El:fk s.1 s.2.1.length k s.2.1.length j=s.1 k j:=if_pos rfl;refine .inr ⟨k,_,uQ p 1 (s.1 k j) (p - 2).toNat,aeg hl hk,⟨hq.1,Br,hq.2.2,hi,fun b=>?_,fun a ha cV b=>?_,adQ hk⟩,hl⟩
   ·unfold jT;rw[if_neg (by omega)];unfold wv x9;rw[if_pos rfl,El];congr 2;exact if_pos rfl
   ·have e1:∀y,wv p s.1 s.2.1.length j k a y=fk s.1 s.2.1.length k a y:=fun y=>by unfold wv x9;rw[if_neg cV]
    show jT p _ _ _ _ a b=_;rw[show jT p (wv p s.1 s.2.1.length j k) s.2.1.length j r s.2.1.length b=wv p s.1 s.2.1.length j k s.2.1.length b from if_neg (by omega)]
    unfold jT;rw[if_pos ⟨ha,cV⟩,e1,e1]
 ·refine .inl ⟨by unfold pO;rw[if_neg hl],fun i h1 h2=>by omega⟩
def pv (L:aa) (i:Nat):Nat:=(L.getD i 0).toNat
theorem Uj {L:aa} {x:Int} {i:Nat} (h:i<L.length):pv (L++[x]) i=pv L i:=by
 unfold pv;rw[zaa,zaa,za1 h]
theorem Cd {L:aa} {j:Nat}:pv (L++[(j:Int)]) L.length=j:=by
 unfold pv;rw[zaa,zaW (zaf _),zbK];rfl
structure RF (r:Nat) (s:bF×aa×Int) (j:Nat):Prop where
 lt:∀i,i<s.2.1.length->pv s.2.1 i<j
 mono:∀i i',i<i'->i'<s.2.1.length->pv s.2.1 i<pv s.2.1 i'
 one:∀i,i<s.2.1.length->s.1 i (pv s.2.1 i)=1
 fZ:∀i,i<s.2.1.length->∀a,a<r->a≠i->s.1 a (pv s.2.1 i)=0
 low:∀i,i<s.2.1.length->∀b,b<pv s.2.1 i->s.1 i b=0
 zero:∀i,s.2.1.length<=i->i<r->∀b,b<j->s.1 i b=0
theorem RF.step {p:Int} {r c:Nat} {s:bF×aa×Int} {j:Nat} (cr:dJ p=true) (I:RI p r c s j) (hj:j<c) (h:RF r s j):RF r (pO p r s j) (j+1):=by
 have hp:eW p:=fQ cr;rcases Um cr I hj with⟨e,hz⟩|⟨k,N,inv,e,P,hl⟩
 ·rw[e];refine⟨fun i hi=>by have:=h.lt i hi;omega,h.mono,h.one,h.fZ,h.low,fun i h1 h2 b hb=>?_⟩;by_cases Bi:b=j
  ·rw[Bi];exact hz i h1 h2
  ·exact h.zero i h1 h2 b (by omega)
 ·rw[e];obtain⟨M,L,d⟩:=s;obtain⟨tk,kr,ne,one,nt,na,first⟩:=P
  dsimp only at tk kr ne one nt na first hl e⊢
  have cD:∀i,i<L.length->pv L i<j:=h.lt;have Ej:∀i,i<L.length->pv (L++[(j:Int)]) i=pv L i:=fun i hi=>Uj hi;have s9:=hp.1;have TT:∀b,b<j->N L.length b=0:=fun b hb=>by
   rw[nt,show M k b=0 from h.zero k tk kr b hb,zbw,zaR]
  have TU:N L.length j=1:=by rw[nt];exact one
  have gW:∀a,a<r->a≠L.length->∀b,b<j->N a b=fk M L.length k a b:=fun a ha cV b hb=>by
   rw[na a ha cV,TT b hb,zar,zaI];have hs:eU p (fk M L.length k a b):=WG I.m hl kr a ha b (by omega);exact za2 hs.1 hs.2
  have WY:∀i,i<L.length->∀b,fk M L.length k i b=M i b:=fun i hi b=>by
   unfold fk;rw[if_neg (by omega),if_neg (by omega)]
  have ab0:∀a,L.length<=a->a<r->∀b,b<j->fk M L.length k a b=0:=fun a h1 h2 b hb=>by
   unfold fk;split
   ·exact h.zero k tk kr b hb
   ·split
    ·exact h.zero _ (zaf _) hl b hb
    ·exact h.zero a h1 h2 b hb
  refine⟨?_,?_,?_,?_,?_,?_⟩<;>dsimp only
  ·intro i hi;simp only[zad,zae,zah] at hi;by_cases fW:i<L.length
   ·rw[Ej i fW];have:=cD i fW;omega
   ·rw[show i=L.length by omega,Cd];omega
  ·intro i i' h1 h2;simp only[zad,zae,zah] at h2;rw[Ej i (by omega)];by_cases fW:i'<L.length
   ·rw[Ej i' fW];exact h.mono i i' h1 fW
   ·rw[show i'=L.length by omega,Cd];exact cD i (by omega)
  ·intro i hi;simp only[zad,zae,zah] at hi;by_cases fW:i<L.length
   ·rw[Ej i fW,gW i (by omega) (by omega) _ (cD i fW),WY i fW];exact h.one i fW
   ·rw[show i=L.length by omega,Cd];exact TU
  ·intro i hi a ha hai;simp only[zad,zae,zah] at hi;by_cases fW:i<L.length
   ·rw[Ej i fW];by_cases cV:a=L.length
    ·rw[cV];exact TT _ (cD i fW)
    ·rw[gW a ha cV _ (cD i fW)];by_cases GP:a<L.length
     ·rw[WY a GP];exact h.fZ i fW a ha hai
     ·exact ab0 a (by omega) ha _ (cD i fW)
   ·have Mv:i=L.length:=by omega
    rw[Mv,Cd];rw[na a ha (by omega),TU,zay];rw[show fk M L.length k a j+(p - fk M L.length k a j)=p by omega];exact zbI
  ·intro i hi b hb;simp only[zad,zae,zah] at hi;by_cases fW:i<L.length
   ·rw[Ej i fW] at hb;have hlj:=cD i fW;rw[gW i (by omega) (by omega) _ (by omega),WY i fW];exact h.low i fW b hb
   ·have Mv:i=L.length:=by omega
    rw[Mv,Cd] at hb;rw[Mv];exact TT b hb
  ·intro i h1 h2 b hb;simp only[zad,zae,zah] at h1;by_cases Bi:b=j
   ·rw[Bi,na i h2 (by omega),TU,zay];rw[show fk M L.length k i j+(p - fk M L.length k i j)=p by omega];exact zbI
   ·rw[gW i h2 (by omega) b (by omega)];exact ab0 i (by omega) h2 b (by omega)
theorem Cf {p:Int} {r c:Nat} {M:bF} (cr:dJ p=true) (hM:eR p r c M):∀j,j<=c->RF r (dR p r M j) j
 |0,_=>⟨fun i hi=>absurd hi (zaz i),fun i i' _ hi=>absurd hi (zaz i'),fun i hi=>absurd hi (zaz i),fun i hi=>absurd hi (zaz i),fun i hi=>absurd hi (zaz i),fun i _ _ b hb=>absurd hb (zaz b)⟩
 |j+1,hj=>RF.step cr (tC (fQ cr) hM j) (by omega) (Cf cr hM j (by omega))
def Sp (p:Int) (r c:Nat) (M:bF) (x:Nat->Int):Prop:=∃y:Nat->Int,∀b,b<c->x b%p=sm r (fun i=>y i*M i b)%p
theorem oZ {p:Int} {r c:Nat} {M:bF} {i:Nat} (hi:i<r):Sp p r c M (M i):=
 ⟨fun k=>if k=i then 1 else 0,fun b _=>by
  have e:sm r (fun k=>(if k=i then 1 else 0)*M k b)=M i b:=by
   rw[ye (a:=i) r hi (fun k _ aE=>by simp[aE])];simp
  exact congrArg (·%p) e.symm⟩
theorem yH {p:Int} {r c:Nat} {M:bF} {x x':Nat->Int} (h:Sp p r c M x) (e:∀b,b<c->x' b%p=x b%p):Sp p r c M x':=by
 obtain⟨y,hy⟩:=h;exact⟨y,fun b hb=>(e b hb).trans (hy b hb)⟩
theorem PN {p:Int} {r c:Nat} {M:bF} {x x':Nat->Int} (f:Int) (h:Sp p r c M x) (h':Sp p r c M x'):Sp p r c M (fun b=>x b+f*x' b):=by
 obtain⟨y,hy⟩:=h;obtain⟨y',hy'⟩:=h';refine⟨fun i=>y i+f*y' i,fun b hb=>?_⟩;have e:sm r (fun i=>(y i+f*y' i)*M i b)=sm r (fun i=>y i*M i b)+f*sm r (fun i=>y' i*M i b):=by
  rw[<-yf,<-IM];exact ku fun i _=>by rw[Int.add_mul,za4]
 rw[e,zba,zaA,hy b hb,hy' b hb,<-zaA,<-zba]
theorem ahr {p:Int} {r c:Nat} {M:bF}:Sp p r c M (fun _=>0):=⟨fun _=>0,fun b _=>by rw[Ab r fun i _=>zbw _]⟩
theorem Xy {p:Int} {r c:Nat} {M:bF} {x:Nat->Int} (f:Int) (h:Sp p r c M x):Sp p r c M (fun b=>x b*f):=
 yH (PN f ahr h) fun b _=>by rw[zaP,zaB]
theorem sH {p:Int} {r r' c:Nat} {M N:bF} (h:∀i,i<r'->Sp p r c M (N i)) {x:Nat->Int} (hx:Sp p r' c N x):Sp p r c M x:=by
 obtain⟨y,hy⟩:=hx;have h':∀i,∃y:Nat->Int,i<r'->∀b,b<c->N i b%p=sm r (fun k=>y k*M k b)%p:=by
  intro i;by_cases hi:i<r'
  ·obtain⟨y,hy⟩:=h i hi;exact⟨y,fun _=>hy⟩
  ·exact⟨fun _=>0,fun e7=>absurd e7 hi⟩
 obtain⟨Y,hY⟩:=Classical.axiomOfChoice h';refine⟨fun k=>sm r' (fun i=>y i*Y i k),fun b hb=>?_⟩;rw[hy b hb];have e:sm r (fun k=>sm r' (fun i=>y i*Y i k)*M k b)=sm r' (fun i=>y i*sm r (fun k=>Y i k*M k b)):=by
  rw[ku (g:=fun k=>sm r' (fun i=>y i*Y i k*M k b)) fun k _=>(af0 (M k b) _ r').symm];rw[IP];exact ku fun i _=>by rw[<-yf];exact ku fun k _=>za4 _ _ _
 rw[e];exact Cy fun i hi=>by rw[zaA,hY i hi b hb,<-zaA]
theorem FY.span {p:Int} {r c:Nat} {M N:bF} {t k j:Nat} {inv:Int} (h:FY p r M N t k j inv) (ht:t<r) (hj:j<c) (x:Nat->Int):Sp p r c N x↔Sp p r c M x:=by
 obtain⟨tk,kr,ne,one,nt,na,_⟩:=h;have sw:∀a,a<r->Sp p r c M (fk M t k a):=by
  intro a ha;unfold fk;by_cases h1:a=t
  ·simp only[h1,if_true];exact oZ kr
  ·by_cases h2:a=k
   ·simp only[h2];by_cases h3:k=t
    ·simp only[h3,if_true];exact oZ ht
    ·simp only[if_neg h3,if_true];exact oZ ht
   ·simp only[if_neg h1,if_neg h2];exact oZ ha
 have hNt:Sp p r c M (N t):=yH (Xy inv (oZ kr)) fun b _=>by rw[nt,zaF _ (zbb p)]
 constructor
 ·refine sH fun a ha=>?_;by_cases cV:a=t
  ·rw[cV];exact hNt
  ·exact yH (PN (p - fk M t k a j) (sw a ha) hNt) fun b _=>by rw[na a ha cV,zaF _ (zbb p)]
 ·
  have hk:Sp p r c N (M k):=yH (Xy (M k j) (oZ ht)) fun b _=>by
   rw[nt,zaA,zaF _ (zbb p),<-zaA];rw[show M k b*inv*M k j=M k b*(M k j*inv) by rw[za4,zaB inv]];rw[zaA,one,zay,zaF _ (zbb p)]
  have hs:∀a,a<r->Sp p r c N (fk M t k a):=by
   intro a ha;by_cases cV:a=t
   ·have e:fk M t k a=M k:=by unfold fk;funext b;rw[if_pos cV]
    rw[e];exact hk
   ·refine yH (PN (fk M t k a j) (oZ ha) (oZ ht)) fun b _=>?_;rw[na a ha cV,Int.emod_add_emod];rw[show fk M t k a b+(p - fk M t k a j)*N t b+fk M t k a j*N t b=fk M t k a b+p*N t b by grind];rw[zaX]
  refine sH fun a ha=>?_;by_cases cV:a=t
  ·have e:M a=fk M t k k:=by
    unfold fk;funext b;by_cases R3:k=t
    ·rw[if_pos R3,cV,R3]
    ·rw[if_neg R3,if_pos rfl,cV]
   rw[e];exact hs k kr
  ·by_cases hak:a=k
   ·rw[hak];exact hk
   ·have e:M a=fk M t k a:=by unfold fk;funext b;rw[if_neg cV,if_neg hak]
    rw[e];exact hs a ha
theorem NW {p:Int} {r c:Nat} {M:bF} (cr:dJ p=true) (hM:eR p r c M) (x:Nat->Int):∀j,j<=c->(Sp p r c (dR p r M j).1 x↔Sp p r c M x)
 |0,_=>Iff.rfl
 |j+1,hj=>by
  rw[<-NW cr hM x j (by omega)];show Sp p r c (pO p r (dR p r M j) j).1 x↔_;rcases Um cr (tC (fQ cr) hM j) (show j<c by omega) with⟨e,_⟩|⟨k,N,inv,e,P,hl⟩
  ·rw[e]
  ·rw[e];exact P.span hl (by omega) x
def ahl (p:Int) (x:Nat->Int) (j:Nat):Prop:=(∀b,b<j->x b%p=0)/\x j%p≠0
theorem Ue {p:Int} {r c:Nat} {M:bF} (cr:dJ p=true) (hM:eR p r c M) {j:Nat} (hj:j<c):
  (∃x,Sp p r c M x/\ahl p x j)↔∃i,i<(dR p r M c).2.1.length/\pv (dR p r M c).2.1 i=j:=by
 have hp:eW p:=fQ cr;have s9:=hp.1;have R:=Cf cr hM c (zaf c);have I:=tC hp hM c;have Sn:=fun x=>NW cr hM x c (zaf c);generalize dR p r M c=s at R I Sn;constructor
 ·rintro⟨x,hx,h0,h1⟩;obtain⟨y,hy⟩:=(Sn x).2 hx;have cI:∀i,i<s.2.1.length->x (pv s.2.1 i)%p=y i%p:=by
   intro i hi;rw[hy _ (R.lt i hi),ye (a:=i) r (by have:=I.l;omega) fun a ha aE=>by rw[R.fZ i hi a ha aE,zar]];rw[R.one i hi,zay]
  rw[hy j hj] at h1;apply Classical.byContradiction;intro dF;apply h1;rw[show(0:Int)=sm r (fun _=>0)%p by rw[Ab r fun _ _=>rfl,zaR]];refine Cy fun i hi=>?_;by_cases fW:i<s.2.1.length
  ·rcases Nat.lt_trichotomy (pv s.2.1 i) j with h|h|h
   ·have hz:y i%p=0:=by rw[<-cI i fW];exact h0 _ h
    rw[zaA,hz,zbw]
   ·exact absurd ⟨i,fW,h⟩ dF
   ·rw[R.low i fW j h,zar]
  ·rw[R.zero i (by omega) hi j hj,zar]
 ·rintro⟨i,hi,rfl⟩;refine⟨s.1 i,(Sn _).1 (oZ (by have:=I.l;omega)),fun b hb=>by rw[R.low i hi b hb,zaR],?_⟩;rw[R.one i hi,za2 (by decide) (by omega)];decide
def zC (L:aa) (j:Nat):Bool:=(List.range L.length).any fun i=>pv L i==j
theorem BM {L:aa} {j:Nat}:zC L j=true↔∃i,i<L.length/\pv L i=j:=by
 simp only[zC,List.any_eq_true,zav,beq_iff_eq]
theorem Lu (P:Nat->Bool) (j:Nat):(List.range (j+1)).countP P=(List.range j).countP P+(if P j=true then 1 else 0):=by
 rw[zbA,List.countP_append];simp[List.countP_cons]
theorem Lv {p:Int} {r c:Nat} {M:bF} (cr:dJ p=true) (hM:eR p r c M):∀j,j<=c->(List.range j).countP (zC (dR p r M j).2.1)=(dR p r M j).2.1.length
 |0,_=>rfl
 |j+1,hj=>by
  have ih:=Lv cr hM j (by omega);have R:=Cf cr hM j (by omega);show(List.range (j+1)).countP (zC (pO p r (dR p r M j) j).2.1)=(pO p r (dR p r M j) j).2.1.length;rw[Lu];rcases Um cr (tC (fQ cr) hM j) (show j<c by omega) with⟨e,_⟩|⟨k,N,inv,e,P,hl⟩
  ·rw[e,ih];have:zC (dR p r M j).2.1 j=false:=by
    rw[Bool.eq_false_iff];intro h;obtain⟨i,hi,he⟩:=BM.1 h;have:=R.lt i hi;omega
   rw[this];simp
  ·rw[e];dsimp only
   have h1:zC ((dR p r M j).2.1++[(j:Int)]) j=true:=BM.2 ⟨_,by simp,Cd⟩;have h2:(List.range j).countP (zC ((dR p r M j).2.1++[(j:Int)]))=(List.range j).countP (zC (dR p r M j).2.1):=by
    refine List.countP_congr fun b hb=>?_;have hb:=zav.1 hb;rw[BM,BM];constructor
    ·rintro⟨i,hi,he⟩;simp only[zad,zae,zah] at hi;by_cases fW:i<(dR p r M j).2.1.length
     ·rw[Uj fW] at he;exact⟨i,fW,he⟩
     ·rw[show i=(dR p r M j).2.1.length by omega,Cd] at he;omega
    ·rintro⟨i,hi,he⟩;exact⟨i,by simp only[zad];omega,by rw[Uj hi];exact he⟩
   rw[h1,h2,ih];simp
theorem YB {P Q:Nat->Bool}:∀n,(∀i,i<n->P i=true->Q i=true)->(List.range n).countP P<=(List.range n).countP Q
 |0,_=>zaf _
 |n+1,h=>by
  rw[Lu,Lu];have:=YB n fun i hi=>h i (by omega);cases hP:P n with
  |false=>simp;omega
  |true=>rw[h n (by omega) hP];omega
theorem zT {p:Int} {r r' c:Nat} {M M':bF} (cr:dJ p=true) (hM:eR p r c M) (nf:eR p r' c M') (h:∀x,Sp p r c M x->Sp p r' c M' x):
  (dR p r M c).2.1.length<=(dR p r' M' c).2.1.length:=by
 rw[<-Lv cr hM c (zaf c),<-Lv cr nf c (zaf c)];refine YB c fun j hj hP=>?_;obtain⟨x,hx,hl⟩:=(Ue cr hM hj).2 (BM.1 hP);exact BM.2 ((Ue cr nf hj).1 ⟨x,h x hx,hl⟩)
def KO:ar:=[(.one,[.list [.int .i64]]),(.one,[.list [.int .i64]])]
def Vq:ar:=[(.one,[.bool])]
def apq:aU:=[]
def JC (NN:Nat):(aa×aa)->(Option Bool):=
 (fun((l0,l1):(aa×aa))=>
 cm (cH NN (fun((l2,l3,l4,i5,i6):(aa×(aa×(aa×(Int×Int)))))=>
 aI (cL i6 i5)
 ((di l4 i6).af (fun i7=>
 aI (iz (aS (ae l3)) i6)
 (some (Sum.inr (Sum.inr false)))
 ((di l3 i6).af (fun i8=>
 aI (mn i8 i7)
 (some (Sum.inr (Sum.inr false)))
 (some (Sum.inl (l2,l3,l4,i5,br .i64 i6 1)))))))
 (some (Sum.inr (Sum.inl (l2,l3)))))
 (l0,l1,l0,aS (ae l0),(0:Int)))
 (fun(l9,c8)=>
 some (c7 (aS (ae l9)) (aS (ae c8)))))
def wQ:(aa×aa)->(Option Bool):=JC aM
theorem akA (x:(aa×aa)) (z:Bool) (h:wQ x=some z):JC aM x=some z:=h
theorem MU (l:aa) (h:l.length<=1048576):wQ (l,l)=some true:=by
 simp only[wQ,JC];generalize hL:cH aM _ _=o;obtain⟨r,rfl,rfl⟩:∃r,o=some r/\r=Sum.inl (l,l):=by
  rw[<-hL];refine EN l.length (fun i (x:aa×aa×aa×Int×Int)=>x=(l,l,l,(l.length:Int),(i:Int))) _ ?_ ?_ rfl (eP (by omega))
  ·rintro i x hi rfl;dsimp only
   rw[bS (eB (by omega)),fq,zab hi];simp only[aB];rw[bN (HS (by unfold aS ae;omega))];rw[show mn l[i] l[i]=false from bne_self_eq_false _]
   rw[AR,fU (by omega) (by omega)];exact⟨_,rfl,rfl⟩
  ·rintro x rfl;dsimp only
   rw[bN (d8 (by omega))];exact⟨_,rfl,rfl⟩
 simp only[cm,Option.bind];rw[show c7 (aS (ae l)) (aS (ae l))=true from beq_self_eq_true _]
def K4:ar:=[(.ptr,[.list [.int .u8],.int .i64,.int .i64])]
def VD:ar:=[(.one,[.list [.int .i64]]),(.ptr,[.list [.int .u8],.int .i64,.int .i64])]
def apD:aU:=[[some .aL]]
def JP (NN:Nat):(aa×(Int×Int))->(Option (aa×(aa×(Int×Int)))):=
 (fun((l0,i1,i2):(aa×(Int×Int)))=>
 (t9 ((l0,i1,i2),(4:Int))).af (fun(i3,l4,i5,i6)=>
 cm ((bk 0 0 (ae (([]:aa)))).af (fun _=>
 cH NN (fun((i7,(l8,i9,fG),eE):(Int×((aa×(Int×Int))×aa)))=>
 aI (cL (0:Int) i7)
 ((t9 ((l8,i9,fG),(3:Int))).af (fun(eT,ed,gB,gF)=>
 ak eE (
 (cM ((br .i64 (1:Int) eT::([]:aa))) 0 1).af (fun eG=>
 (mG (aH (ae eE) (ae eG)) 8).af (fun _=>
 (bk 0 (aH (ae eE) (ae eG)) (ae (fj eE eG))).af (fun _=>
 some (Sum.inl (lL .i64 i7 1,(ed,gB,gF),fj eE eG))))))))
 ((ak eE (
 some (Sum.inl ((l8,i9,fG),eE)))).af (fun dm=>
 some (Sum.inr dm))))
 (br .i64 (1:Int) i3,(l4,i5,i6),([]:aa))))
 (fun((fR,gM,e9),gI)=>
 (cM gI 0 (ae gI)).af (fun eo=>
 some (eo,fR,gM,e9)))))
def Dc:(aa×(Int×Int))->(Option (aa×(aa×(Int×Int)))):=JP aM
theorem akN (x:(aa×(Int×Int))) (z:(aa×(aa×(Int×Int)))) (h:Dc x=some z):JP aM x=some z:=h
def KR:ar:=[(.one,[.list [.int .u8]]),(.one,[.int .i64])]
def Vt:ar:=[(.one,[.list [.int .i64]])]
def apt:aU:=[[some .aL]]
def JF (NN:Nat):(aa×Int)->(Option aa):=
 (fun((l0,i1):(aa×Int))=>
 (yC (l0,i1)).af (fun(l2,i3,i4)=>
 (Dc (l2,i3,i4)).af (fun(l5,l6,i7,i8)=>
 some l5)))
def C3:(aa×Int)->(Option aa):=JF aM
theorem akD (x:(aa×Int)) (z:aa) (h:C3 x=some z):JF aM x=some z:=h
def K3:ar:=[(.ptr,[.list [.int .u8],.int .i64,.int .i64]),(.one,[.int .i64]),(.one,[.list [.int .i64]])]
def VC:ar:=[(.agg,[.int .i64,.list [.int .i64,.int .i64,.int .i64,.list [.int .i64]]]),(.ptr,[.list [.int .u8],.int .i64,.int .i64])]
def apC:aU:=[[some .aL]]
def JO (NN:Nat):((aa×(Int×Int))×(Int×aa))->(Option ((Int×(List (Int×(Int×(Int×aa)))))×(aa×(Int×Int)))):=
 (fun(((l0,i1,i2),i3,l4):((aa×(Int×Int))×(Int×aa)))=>
 cm ((bk 0 0 (ae (([]:List (Int×(Int×(Int×aa))))))).af (fun _=>
 (bk 0 0 (ae (([]:List (Int×(Int×(Int×aa))))))).af (fun _=>
 cH NN (fun(((i5,l6,i7,l8,i9,fG),(eE,eT,gE),gB,gF,eG,dm):((Int×(aa×(Int×(aa×(Int×Int)))))×((aa×(Int×Int))×(Int×(Int×((List (Int×(Int×(Int×aa))))×(List (Int×(Int×(Int×aa))))))))))=>
 aI (cL fG i9)
 ((di l8 fG).af (fun iI=>
 (t9 ((eE,eT,gE),(4:Int))).af (fun(gM,kj,fH,jF)=>
 (yB ((kj,fH,jF),(16:Int))).af (fun(P1,jr,fA,gZ)=>
 cm (aI (P1)
 (ak eG (
 ak dm (
 some (Sum.inl ((fG,i7,xW (1:Int) (iB (4:Int) iI),(0:Int),fG,i5,l6,l8,i9),(jr,fA,gZ),gB,gF,eG,dm)))))
 (ak eG (
 ak dm (
 some (Sum.inl ((fG,i7,xW (1:Int) (iB (4:Int) iI),br .i64 (1:Int) gM,fG,i5,l6,l8,i9),(jr,fA,gZ),gB,gF,eG,dm))))))
 (fun((gS,jm,pA,ig,jn,jV,gU,nv,g0),(jt,qk,lD),iJ,jo,jH,mP)=>
 cm (aI (c7 gS (lL .i64 (aS (ae gU)) (1:Int)))
 (ak jH (
 ak mP (
 some (Sum.inl ((jm,pA,(1:Int),jn,jV,gU,nv,g0),(jt,qk,lD),iJ,jo,jH,mP)))))
 (ak jH (
 ak mP (
 some (Sum.inl ((jm,pA,ig,jn,jV,gU,nv,g0),(jt,qk,lD),iJ,jo,jH,mP))))))
 (fun((iS,iT,gN,jp,ij,mQ,ra,nY),(nw,tf,xL),xN,zt,n6,jI)=>
 (C8 ((nw,tf,xL),ij,du .i64 iS iT,gN)).af (fun((BA,i59,lF),rb,uN,vZ)=>
 ak jI (
 (bk 0 1 (ae (((iS,iT,gN,lF)::([]:List (Int×(Int×(Int×aa)))))))).af (fun _=>
 (mG (aH (ae jI) (ae (((iS,iT,gN,lF)::([]:List (Int×(Int×(Int×aa)))))))) 48).af (fun _=>
 ak n6 (
 (bk 0 (aH (ae jI) (ae (((iS,iT,gN,lF)::([]:List (Int×(Int×(Int×aa)))))))) (ae (fj jI (((iS,iT,gN,lF)::([]:List (Int×(Int×(Int×aa))))))))).af (fun _=>
 some (Sum.inl ((ij,mQ,gN,ra,nY,br .i64 jp 1),(rb,uN,vZ),xN,zt,n6,fj jI (((iS,iT,gN,lF)::([]:List (Int×(Int×(Int×aa))))))))))))))))))))
 ((ak eG (
 ak dm (
 some (Sum.inl ((eE,eT,gE),gB,gF,eG,dm))))).af (fun BV=>
 some (Sum.inr BV))))
 ((i3,l4,(1:Int),l4,aS (ae l4),(0:Int)),(l0,i1,i2),(0:Int),i3,([]:List (Int×(Int×(Int×aa)))),([]:List (Int×(Int×(Int×aa))))))))
 (fun((BW,BD,qm),BE,zu,EG,BX)=>
 (cM BX 0 (ae BX)).af (fun BZ=>
 some ((zu,BZ),BW,BD,qm))))
def C9:((aa×(Int×Int))×(Int×aa))->(Option ((Int×(List (Int×(Int×(Int×aa)))))×(aa×(Int×Int)))):=JO aM
theorem akM (x:((aa×(Int×Int))×(Int×aa))) (z:((Int×(List (Int×(Int×(Int×aa)))))×(aa×(Int×Int)))) (h:C9 x=some z):JO aM x=some z:=h
def KQ:ar:=[(.one,[.list [.int .u8]]),(.one,[.int .i64]),(.one,[.int .i64]),(.one,[.list [.int .i64]])]
def Vs:ar:=[(.agg,[.int .i64,.list [.int .i64,.int .i64,.int .i64,.list [.int .i64]]])]
def aps:aU:=[[some .aL]]
def JE (NN:Nat):(aa×(Int×(Int×aa)))->(Option (Int×(List (Int×(Int×(Int×aa)))))):=
 (fun((l0,i1,i2,l3):(aa×(Int×(Int×aa))))=>
 (yC (l0,i1)).af (fun(l4,i5,i6)=>
 (C9 ((l4,i5,i6),i2,l3)).af (fun((i7,l8),l9,fG,ie)=>
 some (i7,l8))))
def yA:(aa×(Int×(Int×aa)))->(Option (Int×(List (Int×(Int×(Int×aa)))))):=JE aM
theorem akC (x:(aa×(Int×(Int×aa)))) (z:(Int×(List (Int×(Int×(Int×aa)))))) (h:yA x=some z):JE aM x=some z:=h
def KP:ar:=[(.agg,[.list [.int .i64],.list [.int .i64],.list [.int .i64]]),(.agg,[.list [.int .i64],.list [.int .i64],.list [.int .i64]])]
def Vr:ar:=[(.one,[.bool])]
def apr:aU:=[]
def JD (NN:Nat):((aa×(aa×aa))×(aa×(aa×aa)))->(Option Bool):=
 (fun(((l0,l1,l2),l3,l4,l5):((aa×(aa×aa))×(aa×(aa×aa))))=>
 (wQ (l0,l3)).af (fun b6=>
 aI (b6)
 ((wQ (l1,l4)).af (fun b7=>
 aI (b7)
 ((wQ (l2,l5)).af (fun b8=>
 some b8))
 (some false)))
 (some false)))
def Ay:((aa×(aa×aa))×(aa×(aa×aa)))->(Option Bool):=JD aM
theorem akB (x:((aa×(aa×aa))×(aa×(aa×aa)))) (z:Bool) (h:Ay x=some z):JD aM x=some z:=h
theorem atQ (c:Cu) (h:lk c):∃D c',Dc c=some (D,c')/\lk c'/\(1<=D.length/\D.length<=4)/\∀v∈D,1<=v/\v<=3:=by
 obtain⟨l,i,k⟩:=c;obtain⟨x,⟨l',i',k'⟩,e,hx,_,hc⟩:=Dn (l,i,k) 4 h (by decide);simp only[Dc,JP,ak];rw[e];simp only[aB];rw[show bk 0 0 (ae ([]:aa))=some () from rfl]
 simp only[aB];rw[fU (by omega) (by omega)];obtain⟨t,ht⟩:∃t:Nat,1+x=(t:Int):=⟨(1+x).toNat,by omega⟩;rw[ht];generalize hL:cH aM _ _=o;obtain⟨s,rfl,c',d,rfl,dO,hl,hd⟩:∃s,o=some s/\∃(c':Cu) (d:aa),s=Sum.inl (c',d)/\lk c'/\d.length=t/\∀v∈d,1<=v/\v<=3:=by
  rw[<-hL];refine EN t (fun j (s:(Int×((aa×(Int×Int))×aa)))=>∃(c':Cu) (d:aa),s=((t:Int) - (j:Int),c',d)/\lk c'/\d.length=j/\∀v∈d,1<=v/\v<=3) _ ?_ ?_ ?_ (eP (by omega))
  ·rintro j s hj ⟨⟨l1,i1,h1⟩,d,rfl,hc,hl,hd⟩;dsimp only
   rw[bS (eB (by omega))];obtain⟨y,⟨l3,i3,h3⟩,e3,hy,_,hc⟩:=Dn _ 3 hc (by decide);rw[e3];simp only[aB,bE];rw[fU (by omega) (by omega),FL];simp only[aB];rw[rO (by show(aH d.length 1)*8<=fe;simp only[aH,fe];omega)];simp only[aB];rw[GI];simp only[aB];rw[su (by omega) (by omega)];refine⟨_,rfl,(l3,i3,h3),fj d [1+y],by rw[show(t:Int) - (j:Int) - 1=(t:Int) - ((j+1:Nat):Int) by omega],hc,by simp[fj,hl],?_⟩;intro v hv;rcases zaC.1 hv with hv|hv
   ·exact hd v hv
   ·rw[zbn] at hv;subst hv;omega
  ·rintro s ⟨⟨l1,i1,h1⟩,d,rfl,hc,hl,hd⟩;dsimp only
   rw[bN (d8 (by omega))];simp only[aB,bE];exact⟨_,rfl,_,_,rfl,hc,hl,hd⟩
  ·exact⟨(l',i',k'),[],by rw[show(t:Int) - ((0:Nat):Int)=(t:Int) by omega],hc,rfl,fun v hv=>by cases hv⟩
 simp only[cm,Option.bind,d6,aB];exact⟨d,c',rfl,dO,by omega,hd⟩
structure yo (p:Int) (D:aa) (j:Nat) (left:Nat) (L:List bf):Prop where
 lf:left<=4
 fin:j=D.length->left=1
 jC:L.length=j
 Gl:aV L=D.take j
 ch:ia (o9 p) 0 1 L=some (left:Int)
 b4:∀s∈L,s.2.2.1<=4
theorem yo.next {p:Int} {D:aa} {j left right:Nat} {L:List bf} {d:aa} (I:yo p D j left L) (hj:j<D.length) (hd:∀v∈D,1<=v/\v<=3) (hr:right<=4) (hf:j+1=D.length->right=1)
  (hl:d.length=left*(D.getD j 0).toNat*right) (ha:gy p d):yo p D (j+1) right (L++[((left:Int),D.getD j 0,(right:Int),d)]):=by
 have hv:=hd _ (ir hj);have ava:=I.lf;refine⟨hr,hf,by rw[zad,I.jC];rfl,?_,?_,?_⟩
 ·unfold aV;rw[zan];show aV L++[D.getD j 0]=_;rw[I.Gl,zaE,kB hj];rfl
 ·rw[Ma,I.ch];show o9 p _ _ _=_;refine if_pos ⟨?_,rfl⟩;obtain⟨e,he⟩:∃e:Nat,D.getD j 0=(e:Int):=⟨(D.getD j 0).toNat,by omega⟩;rw[he] at hl hv⊢;rw[zac] at hl;exact IH (by omega) (by omega) ⟨by omega,by omega⟩ hl ha
 ·intro s hs;rcases zaC.1 hs with h|h
  ·exact I.b4 s h
  ·rw[zbn] at h;subst h;show(right:Int)<=4;omega
theorem yo.ok {p:Int} {D:aa} {left:Nat} {L:List bf} (I:yo p D D.length left L) (hp:dJ p=true) (hl:1<=D.length/\D.length<=4) (hd:∀v∈D,1<=v/\v<=3):fV (p,L)=true/\aV L=D:=by
 have Bl:aV L=D:=by rw[I.Gl,zap]
 have h1:=I.fin rfl;subst h1;have cr:dZ D<=4096:=by
  rw[uZ fun x hx=>(hd x hx).1];have:∀(l:aa),(∀v∈l,1<=v/\v<=3)->bh l<=3^l.length:=by
   intro l;induction l with
   |nil=>intro _;decide
   |cons a l ih=>
    intro h;have ha:=h a (by simp);have:=zag (show a.toNat<=3 by omega) (ih fun v hv=>h v (by simp[hv]));simp only[bh,zae,zbL];omega
  have h2:=this D hd;have h3:3^D.length<=3^4:=zbg (by decide) hl.2;omega
 refine⟨?_,Bl⟩;simp only[fV,hp,I.ch,Bl,I.jC,zbm];rw[decide_eq_true ⟨hl.1,by omega⟩,decide_eq_true cr];rfl
theorem aij (c:Cu) (p:Int) (D:aa) (h:lk c) (hp:dJ p=true) (hl:1<=D.length/\D.length<=4) (hd:∀v∈D,1<=v/\v<=3):
  ∃L c',C9 (c,p,D)=some ((p,L),c')/\lk c'/\yo p D D.length 1 L:=by
 obtain⟨cl,ci,ck⟩:=c;simp only[C9,JO,ak];rw[show bk 0 0 (ae ([]:List (Int×(Int×(Int×aa)))))=some () from rfl]
 simp only[aB];generalize hL:cH aM _ _=o;obtain⟨s,rfl,c',L,rfl,dO,hI⟩:∃s,o=some s/\∃(c':Cu) (L:List bf),s=Sum.inl (c',(0:Int),p,([]:List bf),L)/\lk c'/\yo p D D.length 1 L:=by
  rw[<-hL];refine EN D.length (fun j (s:((Int×(aa×(Int×(aa×(Int×Int)))))×((aa×(Int×Int))×(Int×(Int×((List (Int×(Int×(Int×aa))))×(List (Int×(Int×(Int×aa))))))))))=>∃(c':Cu) (left:Nat) (L:List bf),s=((p,D,(left:Int),D,(D.length:Int),(j:Int)),c',(0:Int),p,([]:List bf),L)/\lk c'/\yo p D j left L) _ ?_ ?_ ?_ (eP (by omega))
  ·rintro j s hj ⟨⟨l1,i1,h1⟩,left,L,rfl,hc,I⟩;dsimp only
   have hv:=hd _ (ir hj);have hlf:=I.lf;rw[bS (eB (by omega)),fq,kB hj];simp only[aB];obtain⟨y,⟨l2,i2,h2⟩,e2,hy,_,hc⟩:=Dn _ 4 hc (by decide);rw[e2];simp only[aB];obtain⟨b,⟨l3,i3,h3⟩,e3,hc⟩:=TY _ 16 hc (by decide);rw[e3];simp only[aB,bE];rw[fU (a:=1) (b:=y) (by omega) (by omega)];have eA:xW (1:Int) (iB (4:Int) (D.getD j 0))=D.getD j 0:=by unfold xW iB;omega
   rw[eA];have ic:lL .i64 (aS (ae D)) 1=((D.length - 1:Nat):Int):=aiv (n:=D.length) hl.1 (by omega);have cI:∀r:Int,0<=r/\r<=4->∃right:Nat,(right<=4/\(j+1=D.length->right=1))/\(right:Int)=if j=D.length - 1 then 1 else r:=fun r hr=>by
    by_cases e:j=D.length - 1
    ·exact⟨1,⟨by omega,fun _=>rfl⟩,by rw[if_pos e];rfl⟩
    ·exact⟨r.toNat,⟨by omega,fun _=>by omega⟩,by rw[if_neg e];omega⟩
   obtain⟨r,hr,Rx⟩:∃r:Int,(0<=r/\r<=4)/\r=if b=true then 0 else 1+y:=by
    cases b
    ·exact⟨1+y,by omega,rfl⟩
    ·exact⟨0,by omega,rfl⟩
   obtain⟨right,⟨g1,g2⟩,g3⟩:=cI r hr;have hld:du .i64 (left:Int) (D.getD j 0)=((left*(D.getD j 0).toNat:Nat):Int):=by
    obtain⟨e,he⟩:∃e:Nat,D.getD j 0=(e:Int):=⟨(D.getD j 0).toNat,by omega⟩;rw[he,ES (by omega) (by omega)];rfl
   have ji:left*(D.getD j 0).toNat<=4*3:=zag hlf (by omega);obtain⟨d,⟨l4,i4,h4⟩,e4,q1,q2,hc⟩:=ai4 (l3,i3,h3) p (left*(D.getD j 0).toNat) right hc (fQ hp) (by omega) (by omega);have I':=I.next hj hd g1 g2 q1 q2;by_cases e:j=D.length - 1
   ·rw[if_pos e] at g3;cases b<;>
    ·first|rw[bN rfl]|rw[bS rfl]
     simp only[cm,Option.bind];rw[ic];rw[bS (by unfold c7;exact beq_iff_eq.2 (by omega))];simp only[bE,aB,hld];rw[g3] at e4;rw[e4];simp only[aB,bE];rw[show∀s:bf,bk 0 1 (ae [s])=some () from fun _=>rfl]
     simp only[aB];rw[rO (by show(aH L.length 1)*48<=fe;rw[I.jC];simp only[aH,fe];omega)];simp only[aB];rw[Rf,fU (by omega) (by omega)];exact⟨_,rfl,(l4,i4,h4),right,L++[((left:Int),D.getD j 0,(right:Int),d)],by rw[g3];rfl,hc,I'⟩
   ·rw[if_neg e,Rx] at g3;cases b<;>
    ·first|rw[bN rfl]|rw[bS rfl]
     simp only[cm,Option.bind];rw[ic];rw[bN (by unfold c7;rw[beq_eq_false_iff_ne];omega)];simp only[bE,aB,hld];simp only[Bool.false_eq_true,if_false,if_true] at g3;rw[g3] at e4;rw[e4];simp only[aB,bE];rw[show∀s:bf,bk 0 1 (ae [s])=some () from fun _=>rfl]
     simp only[aB];rw[rO (by show(aH L.length 1)*48<=fe;rw[I.jC];simp only[aH,fe];omega)];simp only[aB];rw[Rf,fU (by omega) (by omega)];exact⟨_,rfl,(l4,i4,h4),right,L++[((left:Int),D.getD j 0,(right:Int),d)],by rw[g3];rfl,hc,I'⟩
  ·rintro s ⟨⟨l1,i1,h1⟩,left,L,rfl,hc,I⟩;dsimp only
   rw[bN (d8 (by omega))];simp only[aB,bE];have:=I.fin rfl;subst this;exact⟨_,rfl,_,_,rfl,hc,I⟩
  ·exact⟨(cl,ci,ck),1,[],rfl,h,⟨by decide,fun _=>rfl,rfl,rfl,rfl,fun s hs=>by cases hs⟩⟩
 simp only[cm,Option.bind,d6,aB];exact⟨L,c',rfl,dO,hI⟩
def d2 (a b c d:Int):Int:=a*d - b*c
def d3 (a b c d e f g h i:Int):Int:=a*d2 e f h i - b*d2 d f g i+c*d2 d e g h
theorem bV.sub {p a b c d:Int} (h:bV p a b) (h':bV p c d):bV p (a - c) (b - d):=by
 obtain⟨q,rfl⟩:=h;obtain⟨q',rfl⟩:=h';exact⟨q - q',by grind⟩
section
variable {p:Int} {n:Nat} {M0:bF}
end
def ET (n:Nat) (X Y:bF):bF:=fun a b=>sm n (fun i=>X a i*Y i b)
theorem rI {p a b:Int}:bV p a b↔a%p=b%p:=by
 constructor
 ·rintro⟨q,rfl⟩;exact zaX b p q
 ·intro h;exact((DN p a).symm).trans (by rw[h];exact DN p b)
theorem m9 {p:Int} {f g:Nat->Int} {n:Nat} (h:∀i,i<n->bV p (f i) (g i)):bV p (sm n f) (sm n g):=rI.2 (Cy fun i hi=>rI.1 (h i hi))
structure ahp (p:Int) (n:Nat) (A B:bF) (t k:Nat) (inv:Int) (f:Nat->Int):Prop where
 bt:∀b,b<n->bV p (B t b) (inv*A k b)
 ba:∀a,a<n->a≠t->∀b,b<n->bV p (B a b) (fk A t k a b+f a*B t b)
theorem FY.x8 {p:Int} {n:Nat} {M N:bF} {t k j:Nat} {inv:Int} (P:FY p n M N t k j inv) (Y:bF):ahp p n (ET n M Y) (ET n N Y) t k inv (fun a=>p - fk M t k a j):=by
 constructor
 ·intro b _;unfold ET;rw[<-yf];refine m9 fun i _=>?_;rw[P.nt i];refine(bV.mul (DN p _) (bV.refl p (Y i b))).trans ?_;exact⟨0,by grind⟩
 ·intro a ha cV b _;have e:fk (ET n M Y) t k a b=sm n (fun i=>fk M t k a i*Y i b):=by
   unfold fk ET;split
   ·rfl
   ·split<;>rfl
  rw[e];unfold ET;rw[<-yf,<-IM];refine m9 fun i _=>?_;rw[P.na a ha cV i];refine(bV.mul (DN p _) (bV.refl p (Y i b))).trans ?_;exact⟨0,by grind⟩
theorem YA {P:Nat->Bool}:∀n,(List.range n).countP P=n↔∀i,i<n->P i=true
 |0=>by simp
 |n+1=>by
  rw[Lu];have h:=YA (P:=P) n;have kf:(List.range n).countP P<=n:=by have:=List.countP_le_length (p:=P) (l:=List.range n);simpa using this
  constructor
  ·intro hh;cases hP:P n with
   |false=>rw[hP] at hh;simp at hh;omega
   |true=>
    rw[hP] at hh;simp only[if_true] at hh;have:=h.1 (by omega);intro i hi;by_cases gQ:i=n
    ·rw[gQ];exact hP
    ·exact this i (by omega)
  ·intro hh;rw[hh n (by omega),h.2 fun i hi=>hh i (by omega)];simp
theorem TO (p:Int) (k:Nat) (A B:bF) (i j:Nat):bV p (iL p k A B i j) (sm k (fun t=>A i t*B t j)):=by
 unfold iL;rw[YV];exact DN _ _
theorem aeo {p:Int} {r c:Nat} {M:bF} (cr:dJ p=true) (hM:eR p r c M) {i j:Nat} (hi:i<r) (hj:j<c):
  bV p (sm (dR p r M c).2.1.length (fun t=>M i (pv (dR p r M c).2.1 t)*(dR p r M c).1 t j)) (M i j):=by
 have hp:eW p:=fQ cr;have R:=Cf cr hM c (zaf c);have I:=tC hp hM c;obtain⟨y,hy⟩:=(NW cr hM (M i) c (zaf c)).2 (oZ hi);generalize dR p r M c=s at R I hy;have cI:∀t,t<s.2.1.length->bV p (M i (pv s.2.1 t)) (y t):=fun t ht=>by
  refine rI.2 ?_;rw[hy _ (R.lt t ht),ye (a:=t) r (by have:=I.l;omega) fun a ha aE=>by rw[R.fZ t ht a ha aE,zar]];rw[R.one t ht,zay]
 have e1:bV p (sm s.2.1.length (fun t=>M i (pv s.2.1 t)*s.1 t j)) (sm s.2.1.length (fun t=>y t*s.1 t j)):=m9 fun t ht=>bV.mul (cI t ht) (bV.refl _ _);refine e1.trans (rI.2 ?_);rw[hy j hj,V6 (m:=s.2.1.length) r I.l fun a ha hla=>by rw[R.zero a hla ha j hj,zar]]
theorem agU {p:Int} {r c:Nat} {M:bF} (cr:dJ p=true) (hM:eR p r c M):(dR p c (j4 M) r).2.1.length<=(dR p r M c).2.1.length:=by
 have hp:eW p:=fQ cr;have R:=Cf cr hM c (zaf c);have hT:eR p c r (j4 M):=fun j hj i hi=>hM i hi j hj;have hB:eR p (dR p r M c).2.1.length r (fun t i=>M i (pv (dR p r M c).2.1 t)):=fun t ht i hi=>hM i hi _ (R.lt t ht);refine zaO (zT cr hT hB fun x hx=>sH (fun j hj=>?_) hx) (tC hp hB r).l;refine⟨fun t=>(dR p r M c).1 t j,fun i hi=>?_⟩;show M i j%p=_;rw[<-rI.1 (aeo cr hM hi hj)];congr 1;exact ku fun t _=>zaB _ _
theorem auB {p:Int} {r c:Nat} {M:bF} (cr:dJ p=true) (hM:eR p r c M):(dR p c (j4 M) r).2.1.length=(dR p r M c).2.1.length:=
 zaU (agU cr hM) (agU (M:=j4 M) cr (fun j hj i hi=>hM i hi j hj))
theorem Oo (N k:Nat) (y g:Nat->Int) (L:bF):sm N (fun u=>y u*sm k (fun t=>L u t*g t))=sm k (fun t=>sm N (fun u=>y u*L u t)*g t):=by
 have e1:sm N (fun u=>y u*sm k (fun t=>L u t*g t))=sm N (fun u=>sm k (fun t=>y u*L u t*g t)):=ku fun u _=>by
  rw[<-yf];exact ku fun t _=>by rw[za4]
 rw[e1,IP];exact ku fun t _=>by rw[af0]
theorem ai2 (p:Int) (f g:Nat->Int) (n:Nat):bV p (lA p f g n) (sm n (fun t=>f t*g t)):=TO p n (fun _=>f) (fun t _=>g t) 0 0
theorem af2 {k t:Nat} (g:Nat->Int) (ht:t<k):sm k (fun b=>(if b=t then(1:Int) else 0)*g b)=g t:=by
 rw[ye (a:=t) k ht (fun i _ aE=>by simp[aE])];simp
theorem Gt {p a b:Int} (h:a=b):bV p a b:=h▸bV.refl p a
theorem vD {p a:Int}:bV p (a%p) a:=DN p a
def LI (m:Int) (N k:Nat) (L:bF):Prop:=∀x:Nat->Int,Sp m N k L x
def th:bF:=fun a b=>if b=a then 1 else 0
theorem ahq {m:Int} {k:Nat} (x:Nat->Int):Sp m k k th x:=⟨x,fun b hb=>by
 have:sm k (fun i=>x i*th i b)=x b:=by
  rw[ye (a:=b) k hb (fun i _ aE=>by unfold th;rw[if_neg (fun h=>aE h.symm),zar])];unfold th;rw[if_pos rfl,zay]
 rw[this]⟩
theorem ahk {m:Int} {N k:Nat} {L:bF} (h:∀t,t<k->∃i,i<N/\∀b,b<k->th t b%m=L i b%m):LI m N k L:=fun x=>
 sH (fun t ht=>by
  obtain⟨i,hi,e⟩:=h t ht;exact yH (oZ hi) e) (ahq x)
theorem ahj {m:Int} {N k N' k' K:Nat} {L A L':bF} (hL:LI m N k L) (hA:LI m K k' A)
  (h:∀a,a<K->∃(t:Nat) (φ ψ:Nat->Nat),t<k/\ψ t=a/\(∀u,u<N->φ u<N')/\∀u,u<N->∀b,b<k'->bV m (L' (φ u) b) (sm k (fun t=>L u t*A (ψ t) b))):LI m N' k' L':=fun x=>by
 refine sH (fun a ha=>?_) (hA x);obtain⟨t,φ,ψ,ht,hψ,hφ,e⟩:=h a ha;refine sH (N:=fun u=>L' (φ u)) (r':=N) (fun u hu=>oZ (hφ u hu)) ?_;obtain⟨y,hy⟩:=hL (fun b=>if b=t then 1 else 0)
 refine⟨y,fun b hb=>rI.1 (bV.symm ?_)⟩;refine(m9 fun u hu=>bV.mul (bV.refl _ (y u)) (e u hu b hb)).trans ?_;rw[Oo];refine(m9 fun q hq=>bV.mul (rI.2 (hy q hq).symm) (bV.refl _ (A (ψ q) b))).trans ?_;rw[af2 (fun q=>A (ψ q) b) ht,hψ];exact bV.refl _ _
theorem abb {m:Int} (hm:eW m) (k:Nat):eR m k k th:=fun a _ b _=>by
 have:=hm.1;unfold th eU;split<;>omega
theorem asB {m:Int} {k:Nat} (cr:dJ m=true):(dR m k th k).2.1.length=k:=by
 have hm:=fQ cr;have h2:=hm.1;have hI:=abb hm k;rw[<-Lv cr hI k (zaf k)];refine(YA k).2 fun j hj=>BM.2 ((Ue cr hI hj).1 ⟨th j,oZ hj,fun b hb=>?_,?_⟩)
 ·unfold th;rw[if_neg (by omega)];exact zaR _
 ·unfold th;rw[if_pos rfl,za2 (by omega) (by omega)];decide
theorem asy {m:Int} {N k:Nat} {L:bF} (cr:dJ m=true) (hL:eR m N k L) (h:LI m N k L):(dR m N L k).2.1.length=k:=by
 have hm:=fQ cr;refine zaU (tC hm hL k).lj ?_;have:=zT cr (abb hm k) hL fun x _=>h x;rwa[asB cr] at this
theorem ahi {m:Int} {N k:Nat} {L L':bF} (h:LI m N k L) (e:∀u,u<N->∀b,b<k->bV m (L' u b) (L u b)):LI m N k L':=fun x=>by
 obtain⟨y,hy⟩:=h x;refine⟨y,fun b hb=>(hy b hb).trans (rI.1 (m9 fun u hu=>bV.mul (bV.refl _ _) (e u hu b hb).symm))⟩
theorem asz {m:Int} {N k c:Nat} {U L R:bF} (cr:dJ m=true) (hU:eR m N c U) (hL:LI m N k L) (hR:LI m c k (j4 R)) (h:∀u,u<N->∀w,w<c->bV m (U u w) (sm k (fun t=>L u t*R t w))):
  (dR m N U c).2.1.length=k:=by
 have hm:=fQ cr;have h2:=hm.1;let R':bF:=fun t w=>R t w%m;have y7:eR m k c R':=fun t _ w _=>⟨zbB _ (by omega),zbo _ (by omega)⟩;have hT:eR m c k (j4 R'):=fun w hw t ht=>y7 t ht w hw;have k1:(dR m c (j4 R') k).2.1.length=k:=asy cr hT (ahi hR fun w _ t _=>vD);rw[auB cr y7] at k1;refine zaU ?_ ?_
 ·refine zaO (zT cr hU y7 fun x hx=>sH (fun u hu=>?_) hx) (Nat.le_of_eq k1);refine⟨fun t=>L u t,fun w hw=>?_⟩;refine rI.1 ((h u hu w hw).trans (m9 fun t _=>bV.mul (bV.refl _ _) vD.symm))
 ·rw[<-k1];refine(zT cr y7 hU fun x hx=>sH (fun t ht=>?_) hx);obtain⟨y,hy⟩:=hL (fun b=>if b=t then 1 else 0)
  refine⟨y,fun w hw=>rI.1 (bV.symm ?_)⟩;refine(m9 fun u hu=>bV.mul (bV.refl _ (y u)) (h u hu w hw)).trans ?_;rw[Oo];refine(m9 fun q hq=>bV.mul (rI.2 (hy q hq).symm) (bV.refl _ (R q w))).trans ?_;rw[af2 (fun q=>R q w) ht];exact vD.symm
theorem asC {m:Int} {N k c:Nat} {U L R:bF} (cr:dJ m=true) (hU:eR m N c U) (h:∀u,u<N->∀w,w<c->bV m (U u w) (sm k (fun t=>L u t*R t w))):(dR m N U c).2.1.length<=k:=by
 have hm:=fQ cr;have h2:=hm.1;have y7:eR m k c (fun t w=>R t w%m):=fun t _ w _=>⟨zbB _ (by omega),zbo _ (by omega)⟩;refine zaO (zT cr hU y7 fun x hx=>sH (fun u hu=>?_) hx) (tC hm y7 c).l;refine⟨fun t=>L u t,fun w hw=>rI.1 ((h u hu w hw).trans (m9 fun t _=>bV.mul (bV.refl _ _) vD.symm))⟩
theorem akR {m:Int} {r c:Nat} {d:aa} (cr:dJ m=true) (hl:d.length=r*c) (hd:gy m d) {i j:Nat} (hi:i<r) (hj:j<c):
  bV m (dD c d i j) (sm (lB m r c d) (fun t=>dD (lB m r c d) (rM m r c d) i t*dD c (xg m r c d) t j)):=by
 have hM:=Dk hl hd;refine(aeo cr hM hi hj).symm.trans (m9 fun t ht=>?_);have h1:dD (lB m r c d) (rM m r c d) i t=dD c d i (pv (dR m r (dD c d) c).2.1 t):=wm _ hi ht;have h2:dD c (xg m r c d) t j=(dR m r (dD c d) c).1 t j:=wm _ ht hj;rw[h1,h2];exact bV.refl _ _
theorem akP {m:Int} {r c:Nat} {d:aa} (cr:dJ m=true) (hl:d.length=r*c) (hd:gy m d):LI m r (lB m r c d) (dD (lB m r c d) (rM m r c d)):=fun x=>by
 have hM:=Dk hl hd;have R:=Cf cr hM c (zaf c);have I:=tC (fQ cr) hM c;have hs:Sp m r c (dR m r (dD c d) c).1 (fun b=>sm (lB m r c d) (fun s=>x s*(dR m r (dD c d) c).1 s b)):=by
  refine sH (N:=(dR m r (dD c d) c).1) (r':=lB m r c d) (fun i hi=>oZ (zaY hi I.l)) ⟨x,fun b _=>rfl⟩
 obtain⟨y,hy⟩:=(NW cr hM _ c (zaf c)).1 hs;refine⟨y,fun t ht=>?_⟩;have e1:=hy (pv (dR m r (dD c d) c).2.1 t) (R.lt t ht);have e2:sm (lB m r c d) (fun s=>x s*(dR m r (dD c d) c).1 s (pv (dR m r (dD c d) c).2.1 t))=x t:=by
  rw[ye (a:=t) _ ht (fun s hs aE=>by rw[R.fZ t ht s (zaY hs I.l) aE,zar]),R.one t ht,zay]
 have e1:=(congrArg (·%m) e2).symm.trans e1;refine Eq.trans e1 ?_;congr 1;refine ku fun i hi=>?_;have h1:dD (lB m r c d) (rM m r c d) i t=dD c d i (pv (dR m r (dD c d) c).2.1 t):=wm _ hi ht;rw[h1]
theorem akQ {m:Int} {r c:Nat} {d:aa} (cr:dJ m=true) (hl:d.length=r*c) (hd:gy m d):LI m c (lB m r c d) (j4 (dD c (xg m r c d))):=by
 have hM:=Dk hl hd;have R:=Cf cr hM c (zaf c);have I:=tC (fQ cr) hM c;refine ahk fun t ht=>⟨_,R.lt t ht,fun b hb=>?_⟩;have h2:j4 (dD c (xg m r c d)) (pv (dR m r (dD c d) c).2.1 t) b=(dR m r (dD c d) c).1 b (pv (dR m r (dD c d) c).2.1 t):=wm _ hb (R.lt t ht);rw[h2];unfold th;by_cases h:b=t
 ·rw[if_pos h,h,R.one t ht]
 ·rw[if_neg h,R.fZ t ht b (zaY hb I.l) h]
theorem adw (c p:Nat) (l:aa) (a v j:Nat):dD c l (a*p+v) j=dD (p*c) l a (v*c+j):=by
 unfold dD;congr 1;rw[zat,zaJ,zbp]
def lN (m:Int) (l:List bf) (D:aa):Nat->Nat->Nat->Int
 |0,_=>fun _=>1
 |i+1,u=>x8 m (lN m l D i (u/(D.getD i 0).toNat)) (l.getD i bO) (u%(D.getD i 0).toNat)
def rL:List bf->bF
 |[]=>fun _ _=>1
 |s::l=>fun t w=>sm s.2.2.1.toNat (fun j=>qB s (w/bh (aV l)) t j*rL l j (w%bh (aV l)))
theorem aem {m:Int} {l:List bf} {D:aa} {n:Nat}:∀i,i<=D.length->tI m l (cA D n) i=lN m l D i (n/bQ D i)
 |0,_=>rfl
 |i+1,hi=>by
  show x8 m (tI m l (cA D n) i) _ _=x8 m (lN m l D i (n/bQ D (i+1)/(D.getD i 0).toNat)) _ _;rw[aem i (by omega),Hu (by omega),Nat.div_div_eq_div_mul,sv (show i<D.length by omega),zaq];rfl
theorem Tr {m:Int} (hm:eW m) (l:List bf) (D:aa):∀i u j,eU m (lN m l D i u j)
 |0,_,_=>by have:=hm.1;exact⟨by show(0:Int)<=1;decide,by show(1:Int)<m;omega⟩
 |i+1,_,_=>DK hm _ _ _
theorem HQ {m:Int} {l:List bf} {D:aa} {i u v j:Nat} (hv:v<(D.getD i 0).toNat):
  bV m (lN m l D (i+1) (u*(D.getD i 0).toNat+v) j) (sm (l.getD i bO).1.toNat (fun t=>lN m l D i u t*qB (l.getD i bO) v t j)):=by
 show bV m (x8 m (lN m l D i ((u*(D.getD i 0).toNat+v)/(D.getD i 0).toNat)) _ ((u*(D.getD i 0).toNat+v)%(D.getD i 0).toNat) j) _;rw[qX hv,qY hv];exact ai2 _ _ _ _
theorem abN {m:Int} {l l':List bf} {D:aa}:∀i,(∀k,k<i->l.getD k bO=l'.getD k bO)->lN m l D i=lN m l' D i
 |0,_=>rfl
 |i+1,h=>by
  funext u;show x8 m (lN m l D i _) _ _=x8 m (lN m l' D i _) _ _;rw[abN i (fun k hk=>h k (by omega)),h i (by omega)]
def g9 (m:Int) (l:List bf) (n:Nat):Int:=lN m l (aV l) l.length n 0
theorem aii {m:Int} {l:List bf} (n:Nat):uk m l (cA (aV l) n)=g9 m l n:=by
 unfold uk g9;rw[aem l.length (by rw[gw];exact zaf _),<-gw l,rn,zbC]
structure Ch (m:Int) (D:aa) (L:List bf):Prop where
 fit:QQ m L
 qK:aV L=D
 len:1<=L.length
 fst:(L.getD 0 bO).1=1
 pH:(L.getD (L.length - 1) bO).2.2.1=1
theorem Ch.left {m:Int} {D:aa} {L:List bf} (h:Ch m D L):∀{k:Nat},k<L.length->(L.getD k bO).1.toNat=cg L k
 |0,_=>by rw[h.fst];rfl
 |k+1,hk=>by rw[h.fit.2 k hk];rfl
theorem Ch.aiO {m:Int} {D:aa} {L:List bf} (h:Ch m D L) (k:Nat):D.getD k 0=(L.getD k bO).2.1:=by rw[<-h.qK];exact rG L k
theorem Ch.YR {m:Int} {D:aa} {L:List bf} (h:Ch m D L):D.length=L.length:=by rw[<-h.qK];exact gw L
theorem Ch.last {m:Int} {D:aa} {L:List bf} (h:Ch m D L):cg L L.length=1:=by
 have:=h.len;have e:L.length=L.length - 1+1:=by omega
 rw[e];show(L.getD (L.length - 1) bO).2.2.1.toNat=1;rw[h.pH];rfl
theorem ai5 (L:List bf) (k:Nat):bh (aV (L.drop k))=bQ (aV L) k:=by
 unfold bQ aV;rw[List.map_drop]
theorem ai6 {L:List bf} {k:Nat} (hk:k<L.length):L.drop k=L.getD k bO::L.drop (k+1):=by
 rw[zaG hk];congr 1;rw[zaa,zab hk];rfl
theorem asw {m:Int} {D:aa} {L:List bf} (h:Ch m D L) {i t v w:Nat} (hi:i<L.length) (hw:w<bQ D (i+1)):
  rL (L.drop i) t (v*bQ D (i+1)+w)=sm (cg L (i+1)) (fun j=>qB (L.getD i bO) v t j*rL (L.drop (i+1)) j w):=by
 rw[ai6 hi];show sm _ (fun j=>qB (L.getD i bO) ((v*bQ D (i+1)+w)/bh (aV (L.drop (i+1)))) t j*rL (L.drop (i+1)) j ((v*bQ D (i+1)+w)%bh (aV (L.drop (i+1)))))=_;rw[ai5,h.qK,qX hw,qY hw];rfl
theorem Ch.split {m:Int} {D:aa} {L:List bf} (h:Ch m D L):∀(q i:Nat),i+q=L.length->∀u w,w<bQ D i->
  bV m (lN m L D L.length (u*bQ D i+w) 0) (sm (cg L i) (fun t=>lN m L D i u t*rL (L.drop i) t w))
 |0,i,hi,u,w,hw=>by
  have hi:i=L.length:=hi;subst hi;have e:bQ D L.length=1:=by rw[<-h.YR];exact rn D
  rw[e] at hw⊢;have:w=0:=by omega
  subst this;rw[h.last,List.drop_length,zai,zbv];refine Gt ?_;show _=0+_*1;rw[zay,zaP]
 |q+1,i,hi,u,w,hw=>by
  have fW:i<L.length:=by omega
  have ih:=Ch.split h q (i+1) (by omega);rw[sv (by rw[h.YR];exact fW)] at hw⊢;have hP:0<bQ D (i+1):=by
   rcases zbq (bQ D (i+1)) with h0|h0
   ·rw[h0,zbx] at hw;omega
   ·exact h0
  have hv:w/bQ D (i+1)<(D.getD i 0).toNat:=zbh (by rw[zaq];exact hw);have hr:w%bQ D (i+1)<bQ D (i+1):=zaS _ hP;have ew:w=w/bQ D (i+1)*bQ D (i+1)+w%bQ D (i+1):=by rw[zaq];exact(zbD _ _).symm
  generalize w/bQ D (i+1)=v at hv ew;generalize w%bQ D (i+1)=w' at hr ew;subst ew;have e:u*((D.getD i 0).toNat*bQ D (i+1))+(v*bQ D (i+1)+w')=(u*(D.getD i 0).toNat+v)*bQ D (i+1)+w':=by
   rw[zat,zaJ,zbp]
  rw[e];refine(ih _ _ hr).trans ?_;refine(m9 fun j _=>bV.mul (HQ hv) (bV.refl _ _)).trans (Gt ?_);rw[h.left fW,<-Oo];exact ku fun t _=>by rw[asw h fW hr]
def agY (m:Int) (L:List bf) (D:aa) (i:Nat):bF:=fun u w=>lN m L D L.length (u*bQ D i+w) 0
theorem Ch.zT {m:Int} {D:aa} {L:List bf} (h:Ch m D L) (cr:dJ m=true) {i:Nat} (hi:i<=L.length) (N:Nat):(dR m N (agY m L D i) (bQ D i)).2.1.length<=cg L i:=
 asC cr (fun _ _ _ _=>Tr (fQ cr) _ _ _ _ _) fun u _ w hw=>Ch.split h (L.length - i) i (by omega) u w hw
def lY (D:aa):Nat->Nat
 |0=>1
 |i+1=>lY D i*(D.getD i 0).toNat
theorem head_tail (D:aa):∀i,i<=D.length->lY D i*bQ D i=bh D
 |0,_=>by rw[I3];exact zaT _
 |i+1,hi=>by
  rw[<-head_tail D i (by omega),sv (show i<D.length by omega),<-zaJ];rfl
def tW (D A:aa) (i:Nat):bF:=dD (bQ D i) A
structure yD (m:Int) (D A:aa) (i:Nat) (st:oV):Prop where
 c:AD m D i st
 b4:st.1<=4
 val:∀u,u<lY D i->∀w,w<bQ D i->bV m (tW D A i u w) (sm st.1 (fun t=>lN m st.2.2 D i u t*dD (bQ D i) st.2.1 t w))
 li:LI m (lY D i) st.1 (lN m st.2.2 D i)
 rk:∀k,k<i->(dR m (lY D (k+1)) (tW D A (k+1)) (bQ D (k+1))).2.1.length=((st.2.2.getD k bO).2.2.1).toNat
theorem aaA {l l':List bf} {k:Nat} (h:k<l.length):(l++l').getD k bO=l.getD k bO:=by
 rw[zaa,zaa,za1 h]
theorem aaB {l:List bf} {s:bf} {k:Nat} (h:l.length=k):(l++[s]).getD k bO=s:=by
 rw[zaa,zaW (by omega),h,zbK];rfl
theorem Fv {d u N:Nat} (hu:u<N*d):∃u' v,u=u'*d+v/\u'<N/\v<d:=by
 have hd:0<d:=by
  rcases zbq d with h|h
  ·rw[h,zbx] at hu;omega
  ·exact h
 exact⟨u/d,u%d,by rw[zaq];exact(zbD _ _).symm,zbh (by rw[zaq];exact hu),zaS _ hd⟩
theorem agX {m:Int} {D A:aa} (h:wK m D A) {i:Nat} (hi:i<=D.length):eR m (lY D i) (bQ D i) (tW D A i):=
 Dk (by rw[h.len,head_tail D i hi]) h.el
theorem af7 {m:Int} {D:aa} {l:List bf} {a k i u v z:Nat} {fa:aa} (hl:l.length=i) (hv:v<(D.getD i 0).toNat):
  bV m (lN m (l++[((a:Int),D.getD i 0,(k:Int),fa)]) D (i+1) (u*(D.getD i 0).toNat+v) z) (sm a (fun t=>lN m l D i u t*dD k fa (t*(D.getD i 0).toNat+v) z)):=by
 refine(HQ hv).trans (Gt ?_);rw[aaB hl,abN (l:=l++[((a:Int),D.getD i 0,(k:Int),fa)]) (l':=l) i (fun q hq=>aaA (by omega))];rfl
theorem yD.next {m:Int} {D A:aa} (h:wK m D A) (G0:∀x∈D,x<=3) (hn:D.length<=4) {i:Nat} (hi:i<D.length - 1)
  (hr:(dR m (lY D (i+1)) (tW D A (i+1)) (bQ D (i+1))).2.1.length<=4) {st:oV} (I:yD m D A i st):F8 D i st=true/\cK m D i st<=4/\yD m D A (i+1) (wZ m D i st):=by
 have e7:i<D.length:=by omega
 have h3:(D.getD i 0).toNat<=3:=by have:=G0 _ (ir e7);omega
 have np:=vm.rc h (by omega) I.c.s;have cr:=h.pr;have kc:F8 D i st=true:=by
  refine decide_eq_true ⟨zaO (zag I.b4 h3) (by decide),?_⟩;have cI:∀q i,i+q=D.length->1<=i->bQ D i<=3^q:=by
   intro q;induction q with
   |zero=>intro i hi _;have:i=D.length:=hi;subst this;rw[rn];decide
   |succ q ih=>
    intro i hi h1;rw[sv (by omega),zbL,zaq];have h3:(D.getD i 0).toNat<=3:=by have:=G0 _ (ir (l:=D) (i:=i) (by omega));omega
    exact zag (ih (i+1) (by omega) (by omega)) h3
  have:=cI (D.length - (i+1)) (i+1) (by omega) (by omega);have h4:3^(D.length - (i+1))<=3^3:=zbg (by decide) (by omega);have:(3:Nat)^3=27:=by decide
  omega
 have hN:lY D (i+1)=lY D i*(D.getD i 0).toNat:=rfl;have hT:bQ D i=(D.getD i 0).toNat*bQ D (i+1):=sv e7;have GZ:=I.c.s.jC;have ag2:∀u,u<lY D (i+1)->∀w,w<bQ D (i+1)->bV m (tW D A (i+1) u w) (sm (cK m D i st) (fun t=>lN m (wZ m D i st).2.2 D (i+1) u t*dD (bQ D (i+1)) (wZ m D i st).2.1 t w)):=by
  intro u hu w hw;obtain⟨u',v,rfl,nX,hv⟩:=Fv hu;have e1:tW D A (i+1) (u'*(D.getD i 0).toNat+v) w=tW D A i u' (v*bQ D (i+1)+w):=by
   unfold tW;rw[adw,<-hT]
  rw[e1];have hw2:v*bQ D (i+1)+w<bQ D i:=by rw[hT];exact uO hv hw
  refine(I.val u' nX _ hw2).trans ?_;have e2:∀t,t<st.1->bV m (dD (bQ D i) st.2.1 t (v*bQ D (i+1)+w)) (sm (cK m D i st) (fun z=>dD (cK m D i st) (rM m (st.1*(D.getD i 0).toNat) (bQ D (i+1)) st.2.1) (t*(D.getD i 0).toNat+v) z*dD (bQ D (i+1)) (wZ m D i st).2.1 z w)):=by
   intro t ht;rw[hT,<-adw];exact akR cr np I.c.s.el (uO ht hv) hw
  refine(m9 fun t ht=>bV.mul (bV.refl _ _) (e2 t ht)).trans ?_;rw[Oo];exact m9 fun z _=>bV.mul (af7 GZ hv).symm (bV.refl _ _)
 have li':LI m (lY D (i+1)) (cK m D i st) (lN m (wZ m D i st).2.2 D (i+1)):=by
  refine ahj I.li (akP cr np I.c.s.el) fun a ha=>?_;obtain⟨t,v,rfl,ht,hv⟩:=Fv ha;refine⟨t,fun u=>u*(D.getD i 0).toNat+v,fun t=>t*(D.getD i 0).toNat+v,ht,rfl,fun u hu=>uO hu hv,fun u hu b hb=>af7 GZ hv⟩
 have hk:(dR m (lY D (i+1)) (tW D A (i+1)) (bQ D (i+1))).2.1.length=cK m D i st:=
  asz cr (agX h (by omega)) li' (akQ cr np I.c.s.el) ag2
 have hk4:cK m D i st<=4:=by omega
 refine⟨kc,hk4,AD.next h hi I.c kc (by omega),hk4,ag2,li',fun k dj=>?_⟩;by_cases Bq:k<i
 ·rw[I.rk k Bq];show _=((st.2.2++[_]).getD k bO).2.2.1.toNat
  rw[aaA (by omega)]
 ·have:k=i:=by omega
  subst this;rw[hk];show _=((st.2.2++[_]).getD k bO).2.2.1.toNat
  rw[aaB GZ];rfl
theorem yD.run {m:Int} {D A:aa} (h:wK m D A) (G0:∀x∈D,x<=3) (hn:D.length<=4)
  (hr:∀i,i<D.length - 1->(dR m (lY D (i+1)) (tW D A (i+1)) (bQ D (i+1))).2.1.length<=4):∀(es:List Nat) (i:Nat) (st:oV),i+es.length=D.length - 1->yD m D A i st->
  ∃Wt,ia (Qt m D) i st es=some Wt/\yD m D A (D.length - 1) Wt
 |[],i,st,hi,I=>by
  rw[zah,zbv] at hi;subst hi;exact⟨st,rfl,I⟩
 |e::es,i,st,hi,I=>by
  rw[zae] at hi;obtain⟨h1,h2,h3⟩:=yD.next h G0 hn (i:=i) (by omega) (hr i (by omega)) I;simp only[ia];rw[show Qt m D i st e=some (wZ m D i st) by unfold Qt;rw[if_pos h1,if_pos (by omega)]];exact yD.run h G0 hn hr es (i+1) _ (by omega) h3
def Bd (L:List bf):Prop:=∀k,k<L.length->(L.getD k bO).1.toNat<=4/\(L.getD k bO).2.1.toNat<=3/\(L.getD k bO).2.2.1.toNat<=4
theorem Gy {l l':aa} (hl:l.length=l'.length) (h:∀k,k<l.length->l.getD k 0=l'.getD k 0):l=l':=
 List.ext_getElem hl fun k h1 h2=>by
  have:=h k h1;rw[zaa,zaa,zab h1,zab h2] at this;exact this
structure Two (m:Int) (D:aa) (L L':List bf) (i:Nat):Prop where
 len:L'.length=L.length
 ch:Ch m D L'
 bd:∀k,k<=L.length->k≠i+1->cg L' k=cg L k
 val:∀k,k<=L.length->k≠i+1->∀u j,j<cg L k->lN m L' D k u j=lN m L D k u j
 b4:Bd L'
theorem atK (b p c:Nat) (d:aa) (v x q:Nat):qB ((b:Int),(p:Int),(c:Int),d) v x q=dD c d (x*p+v) q:=rfl
structure FwI (m:Int) (D:aa) (l L:List bf) (i:Nat):Prop where
 ch:Ch m D L
 len:L.length=l.length
 b4:Bd L
 val:∀u,lN m L D l.length u 0=lN m l D l.length u 0
 li:∀k,k<=i->LI m (lY D k) (cg L k) (lN m L D k)
structure BwI (m:Int) (D:aa) (l L:List bf) (i:Nat):Prop where
 f:FwI m D l L (l.length - 1)
 ri:∀k,i<k->k<=l.length->LI m (bQ D k) (cg L k) (j4 (rL (L.drop k)))
theorem Ch.of {m:Int} {l:List bf} (h:fV (m,l)=true):Ch m (aV l) l:=by
 obtain⟨_,⟨h1,h8⟩,_,hb,hs⟩:=ul h;refine⟨LY h,rfl,h1,?_,?_⟩
 ·obtain⟨p,M,e,_⟩:=hs 0 (by omega);rw[e];rfl
 ·obtain⟨p,M,e,_⟩:=hs (l.length - 1) (by omega);have e1:l.length - 1+1=l.length:=by omega
  rw[e,e1,hb];rfl
theorem Ch.ok {m:Int} {D:aa} {L:List bf} (h:Ch m D L) (cr:dJ m=true) (h8:L.length<=8) (hp:dZ D<=4096):fV (m,L)=true:=by
 have jh:ia (o9 m) 0 1 L=some 1:=by
  refine(Qi L 0 1 1).2 ⟨fun k hk=>⟨h.fit.1 k hk,?_⟩,?_⟩
  ·cases k with
   |zero=>exact h.fst
   |succ k=>exact h.fit.2 k hk
  ·have:=h.len;rw[show L.length=L.length - 1+1 by omega];exact h.pH.symm
 simp only[fV,cr,jh,h.qK,zbm];rw[decide_eq_true ⟨h.len,h8⟩,decide_eq_true hp];rfl
theorem vw {m:Int} {l:List bf} (h:fV (m,l)=true):dJ m=true/\l.length<=8/\dZ (aV l)<=4096:=by
 obtain⟨_,h8,hp,_⟩:=ul h;refine⟨?_,h8.2,hp⟩;simp only[fV,zaj] at h;exact h.1
theorem asA {p:Int} {r c:Nat} {A B:bF} (cr:dJ p=true) (hA:eR p r c A) (hB:eR p r c B) (h:∀a,a<r->∀b,b<c->A a b=B a b):(dR p r A c).2.1.length=(dR p r B c).2.1.length:=by
 apply zaU
 ·exact zT cr hA hB fun x hx=>sH (fun i hi=>yH (oZ hi) fun b hb=>by rw[h i hi b hb]) hx
 ·exact zT cr hB hA fun x hx=>sH (fun i hi=>yH (oZ hi) fun b hb=>by rw[h i hi b hb]) hx
theorem aF {α β:Type} (x:α) (f:α->Option β):(some x).af f=f x:=by
 have h:∀o:Option α,o=some x->o.af f=f x:=by intro o h;subst h;rfl
 exact h _ rfl
theorem m7 {α:Type} (x y:α):aI true x y=x:=rfl
theorem jb {α:Type} (x y:α):aI false x y=y:=rfl
theorem akW {m:Int} {L:List bf} (F:QQ m L) (h:L.length<=8):tS (m,L)<=131072:=by
 show L.length+(L.map tT).sum<=_;have cI:∀l:List bf,(∀e∈l,tT e<=8192)->(l.map tT).sum<=l.length*8192:=by
  intro l;induction l with
  |nil=>intro _;simp
  |cons a l ih=>
   intro hl;have h1:=hl a zbr;have h2:=ih fun e he=>hl e (zbi _ he);rw[zal,zaK,zae,zat];omega
 have:=cI L fun e he=>by
  obtain⟨k,hk⟩:=List.mem_iff_getElem?.1 he;have hl:=HV hk;obtain⟨b,p,c,d,e1,h1,h2,h3,h4,_⟩:=Ol (F.1 k hl);have e2:=getD_some bO hl;rw[hk] at e2;injection e2 with e2;rw[<-e2] at e1;subst e1;show d.length<=_;have q1:b*p<=32*8:=zag h1 h3.2;have q2:b*p*c<=(32*8)*32:=zag q1 h2;omega
 have h2:L.length*8192<=8*8192:=zas _ h;omega
theorem Ih {m:Int} {L:List bf} (h:fV (m,L)=true):tS (m,L)<=1048576:=by
 have:=akW (LY h) (vw h).2.1;omega
theorem OR {m:Int} {L:List bf} (h:fV (m,L)=true):t6 (m,L)=some (gL m L):=by
 simp only[t6,O9];rw[if_pos (Ih h),if_pos h]
theorem WQ {m:Int} {L:List bf} (h:fV (m,L)=true):(gL m L).1.length=L.length/\(gL m L).2.1.length=L.length/\(gL m L).2.2.length=bh (aV L)/\L.length<=8/\bh (aV L)<=4096:=by
 obtain⟨_,⟨_,hp⟩,h8,_⟩:=QB h;rw[gw] at h8;exact⟨eO _ _,gw L,eO _ _,h8,hp⟩
theorem atd (t:aa×aa×aa) (h1:t.1.length<=1048576) (h2:t.2.1.length<=1048576) (h3:t.2.2.length<=1048576):Ay (t,t)=some true:=by
 obtain⟨a,b,c⟩:=t;simp only[Ay,JD];rw[MU a h1];simp only[aF,m7];rw[MU b h2];simp only[aF,m7];rw[MU c h3];rfl
theorem Cs {n k:Nat} (h:k<n):(bz n).getD k 0=(k:Int):=by
 unfold bz;rw[zaa,lK _ h];rfl
theorem atJ {l:aa} (h:∀k,k+1<l.length->l.getD k 0<=l.getD (k+1) 0):∀k,k<l.length->yd k l=l
 |0,_=>rfl
 |k+1,hk=>by
  unfold yd;rw[if_neg (by have:=h k hk;omega)]
theorem agc {l:aa} (h:∀k,k+1<l.length->l.getD k 0<=l.getD (k+1) 0):∀i,i<=l.length->pR l i=l
 |0,_=>rfl
 |i+1,hi=>by
  show yd i (pR l i)=l;rw[agc h i (by omega),atJ h i (by omega)]
theorem V8 (n:Nat):pR (bz n) n=bz n:=by
 have hl:(bz n).length=n:=eO _ _;have:=agc (l:=bz n) (fun k hk=>by rw[hl] at hk;rw[Cs (by omega),Cs hk];omega) n (by rw[hl];exact zaf n);exact this
theorem ahU {D:aa} (hl:D.length<=12) (hd:∀x∈D,1<=x/\x<=8):p9 (bz D.length) D=true:=by
 have hs:(bz D.length).length=D.length:=eO _ _;simp only[p9,zaj,decide_eq_true_eq];refine⟨by omega,hs,fun j hj=>⟨?_,hd _ (ir (by omega)),?_⟩⟩
 ·rw[Cs (by omega)];omega
 ·rw[Cs (by omega)];intro hm;obtain⟨k,hk,e⟩:=zbj.1 hm;rw[zau,hs] at hk;rw[zbt] at e;have e2:=Cs (n:=D.length) (k:=k) (by omega);rw[zaa,zab (by omega)] at e2;have e2:(bz D.length)[k]'(by omega)=(k:Int):=e2;rw[e2] at e;omega
theorem asO {p:Int} (h:dJ p=true):jO (2,p,0)=true:=by
 have:jO (2,p,0)=(dJ p&&decide ((0:Int)=0)):=rfl;rw[this,h];rfl
theorem auw {p:Int} {L D A:aa} (hp:dJ p=true) (rQ:p9 L D=true) (hP:bh D<=4096) (hA:A.length=bh D) (ha:gy p A):jz (2,p,0) (L,D,A)=true:=by
 have hd:=AO rQ;have hI:=uZ (D:=D) fun x hx=>(hd x hx).1;have ht:j3 L D=dZ D:=if_pos ⟨rQ,by omega⟩;simp only[jz,zaj,decide_eq_true_eq];refine⟨asO hp,by rw[ht,hI];omega,?_,?_⟩
 ·rw[ht,hI,hA];show _=(bh D:Int)*1;omega
 ·refine zaH.2 fun x hx=>decide_eq_true ?_;have h1:=ha x hx;have h2:fT (2,p,0)=p - 1:=rfl;rw[h2];exact⟨h1.1,by have:=h1.2;omega⟩
theorem Yh {p:Int} {A:aa} {off:Nat->Nat}:∀n,n<=A.length->(∀k,k<n->off k=k)->sK (2,p,0) A off n=A.take n
 |0,_,_=>rfl
 |n+1,hn,h=>by
  unfold sK;rw[Yh n (by omega) fun k hk=>h k (by omega),h n (by omega),show cB (2,p,0)=1 from rfl,zai]
  unfold jw;have bU:n<A.length:=by omega
  have e1:A.take (n+1)=A.take n++[A[n]]:=by rw[zaE,zab bU];rfl
  rw[e1,zaG bU];rfl
theorem at2 {p:Int} {D A:aa} (ht:jz (2,p,0) (bz D.length,D,A)=true):OI (2,p,0) (bz D.length,D,A)=(bz D.length,D,A):=by
 have rQ:=(I6 ht).1;have hs:(bz D.length).length=D.length:=eO _ _;have hS:pR (bz D.length) (bz D.length).length=bz D.length:=by rw[hs];exact V8 _
 have I:=kw.mk' rQ (S:=bz D.length) hS.symm;obtain⟨_,_,_,_,hA,hG,_⟩:=yj ht;have hpd:gp (bz D.length) D (bz D.length)=D:=by
  unfold gp;rw[hs];refine Gy (eO _ _) fun k hk=>?_;rw[eO] at hk;rw[zaa,lK _ hk];show D.getD (bY (bz D.length) ((bz D.length).getD k 0)) 0=_;rw[pM I.nL (by rw[hs];exact hk)]
 have Ei:∀k,k<bh D->mq (bz D.length) D (bz D.length) k=k:=fun k hk=>by
  rw[<-I.off k];have e:xY (bz D.length) D (bz D.length) k=cA D k:=by
   unfold xY cA;refine gJ fun q hq=>?_;rw[hpd,pM I.nL (by rw[hs];exact hq)]
  rw[e,NL hG hk D.length (zaf _),rn,zbC]
 have e:OI (2,p,0) (bz D.length,D,A)=zP (2,p,0) (bz D.length,D,A) (bz D.length):=by
  unfold OI;rw[if_pos ht];show zP _ _ (pR (bz D.length) (bz D.length).length)=_;rw[hS]
 rw[e];unfold zP;have Mj:A.length=bh D:=by rw[hA,show cB (2,p,0)=1 from rfl,zai]
 show(bz D.length,gp (bz D.length) D (bz D.length),sK (2,p,0) A (mq (bz D.length) D (bz D.length)) (bh (gp (bz D.length) D (bz D.length))))=_;rw[hpd,Yh _ (by omega) Ei,<-Mj,zap]
structure DC (p:Int) (L:List bf):Prop where
 ok:fV (p,L)=true
 b4:Bd L
 n4:L.length<=4
theorem DC.pr {p:Int} {L:List bf} (h:DC p L):dJ p=true:=(vw h.ok).1
theorem DC.d3 {p:Int} {L:List bf} (h:DC p L):∀x∈aV L,1<=x/\x<=3:=fun x hx=>by
 obtain⟨hG,_⟩:=QB h.ok;obtain⟨k,hk,e⟩:=zbj.1 hx;have e2:(aV L).getD k 0=x:=by rw[zaa,zab hk];exact e
 rw[rG] at e2;rw[gw] at hk;have:=(h.b4 k hk).2.1;have:=(hG.2 x hx).1;omega
theorem DC.len {p:Int} {L:List bf} (h:DC p L):1<=L.length:=(Ch.of h.ok).len
theorem Jd {p:Int} (hp:dJ p=true) (L:List bf) (n:Nat):eU p (g9 p L n):=Tr (fQ hp) _ _ _ _ _
theorem CJ {m:Int} {L:List bf}:gL m L=(bz (aV L).length,aV L,bu (bh (aV L)) (g9 m L)):=by
 unfold gL;rw[gw];congr 2;exact gJ fun n _=>aii n
theorem UA {p:Int} {n:Nat} {f:Nat->Int} (h:∀k,eU p (f k)):gy p (bu n f):=fun x hx=>by
 unfold bu at hx;obtain⟨k,_,rfl⟩:=zaw.1 hx;exact h k
theorem DC.I5 {p:Int} {L:List bf} (h:DC p L):jz (2,p,0) (gL p L)=true:=by
 have n4:=h.n4;obtain⟨_,_,_,_,hP⟩:=WQ h.ok;rw[CJ];refine auw h.pr (ahU (by rw[gw];omega) fun x hx=>?_) hP (eO _ _) (UA fun k=>Jd h.pr L k);have:=h.d3 x hx;omega
theorem DC.da {p:Int} {L:List bf} (h:DC p L):wK p (aV L) (bu (bh (aV L)) (g9 p L)):=by
 have n4:=h.n4;have l1:=h.len;obtain⟨_,_,_,_,hP⟩:=WQ h.ok;refine⟨h.pr,by rw[gw];exact l1,by rw[gw];omega,fun x hx=>?_,hP,eO _ _,UA fun k=>Jd h.pr L k⟩;have:=h.d3 x hx;omega
theorem DC.kv {p:Int} {L:List bf} (h:DC p L) {i:Nat} (hi:i<=L.length):
  (dR p (lY (aV L) i) (tW (aV L) (bu (bh (aV L)) (g9 p L)) i) (bQ (aV L) i)).2.1.length=(dR p (lY (aV L) i) (agY p L (aV L) i) (bQ (aV L) i)).2.1.length:=by
 refine asA h.pr (agX h.da (by rw[gw];exact hi)) (fun _ _ _ _=>Tr (fQ h.pr) _ _ _ _ _) fun u hu w hw=>?_;have hn:u*bQ (aV L) i+w<bh (aV L):=by
  rw[<-head_tail (aV L) i (by rw[gw];exact hi)];exact uO hu hw
 unfold tW dD;rw[zaa,lK _ hn];rfl
theorem aiS (l:aa) (n:Int) (h:l.length<=1048576) (hn:0<=n):∃D,C3 (l,n)=some D/\(1<=D.length/\D.length<=4)/\∀v∈D,1<=v/\v<=3:=by
 obtain⟨⟨a,b,c⟩,e,hc⟩:=PY l n h hn;obtain⟨D,⟨a',b',c'⟩,e2,_,h1,h2⟩:=atQ _ hc;refine⟨D,?_,h1,h2⟩;simp only[C3,JF];rw[e];simp only[aF];rw[e2];rfl
theorem Qk (l:aa) (n p:Int) (D:aa) (h:l.length<=1048576) (hn:0<=n) (hp:dJ p=true) (hl:1<=D.length/\D.length<=4) (hd:∀v∈D,1<=v/\v<=3):
  ∃L,yA (l,n,p,D)=some (p,L)/\DC p L/\aV L=D:=by
 obtain⟨⟨a,b,c⟩,e,hc⟩:=PY l n h hn;obtain⟨L,⟨a',b',c'⟩,e2,_,I⟩:=aij _ p D hc hp hl hd;obtain⟨h1,h2⟩:=I.ok hp hl hd;refine⟨L,?_,⟨h1,fun k hk=>?_,by rw[<-gw,h2];exact hl.2⟩,h2⟩
 ·simp only[yA,JE];rw[e];simp only[aF];rw[e2];rfl
 ·have hF:=LY h1;have hb:∀k,k<L.length->(L.getD k bO).2.2.1.toNat<=4:=fun k hk=>by
   have:=I.b4 (L.getD k bO) (zaQ (getD_some bO hk));omega
  refine⟨?_,?_,hb k hk⟩
  ·have hC:=Ch.of h1;cases k with
   |zero=>rw[hC.fst];decide
   |succ k=>rw[hF.2 k hk];exact hb k (by omega)
  ·rw[<-rG,h2];have:=hd _ (ir (l:=D) (i:=k) (by rw[<-h2,gw];exact hk));omega
theorem af4 (k P:Nat) (l x:Nat->Int) (Y:bF):sm k (fun t=>l t*sm P (fun q=>x q*Y q t))=sm P (fun q=>x q*sm k (fun t=>l t*Y q t)):=by
 have e1:sm k (fun t=>l t*sm P (fun q=>x q*Y q t))=sm k (fun t=>sm P (fun q=>x q*(l t*Y q t))):=ku fun t _=>by
  rw[<-yf];exact ku fun q _=>by rw[Int.mul_left_comm]
 rw[e1,IP];exact ku fun q _=>by rw[yf]
structure Opd (m:Int) (L L':List bf) (k P:Nat) (X:aa):Prop where
 ok:fV (m,L')=true
 qK:aV L'=aV L
 bd:∀i,i<=L.length->i≠k+1->cg L' i=cg L i
 val:∀u r w,r<P->w<bQ (aV L) (k+2)->bV m (g9 m L' ((u*P+r)*bQ (aV L) (k+2)+w)) (sm P (fun q=>dD P X r q*g9 m L ((u*P+q)*bQ (aV L) (k+2)+w)))
theorem ar4 {f:aa} {v:Int} (h:bY f v<f.length):f[bY f v]? =some v:=by
 rw[zab h];have:=zbf (w:=h);congr 1;exact of_decide_eq_true this
theorem Rj {α:Type}:bk 0 0 (ae ([]:List α))=some ():=bE 0
theorem IK {a b n:Nat} (h1:a<=b) (h2:b<=n):j0 (a:Int) (b:Int) n=some (a,b - a):=by
 unfold j0;rw[if_pos ⟨by omega,by omega,by omega⟩];congr 2;omega
section
variable {m:Int} {L K R:Nat} {X:bF} {d:aa}
end
theorem XS {m:Int} {l:List bf} {k:Nat} (hc:fV (m,l)=true) (hk:k<l.length):∃(L K R:Nat) (d:aa),l[k]? =some ((L:Int),(K:Int),(R:Int),d)/\l.getD k bO=((L:Int),(K:Int),(R:Int),d)/\
  L<=32/\R<=32/\(1<=K/\K<=8)/\d.length=L*K*R/\gy m d:=by
 obtain⟨L,K,R,d,e,h1,h2,h3,h4,h5⟩:=Ol ((LY hc).1 k hk);refine⟨L,K,R,d,?_,e,h1,h2,h3,h4,h5⟩;rw[getD_some bO hk,e]
def Ku:ar:=[(.one,[.list [.int .i64]]),(.one,[.list [.int .i64]])]
def U6:ar:=[(.one,[.list [.int .i64]])]
def ao9:aU:=[]
def Jv (NN:Nat):(aa×aa)->(Option aa):=
 (fun((l0,l1):(aa×aa))=>
 (sE l0).af (fun l2=>
 cm (ak l2 (
 cH NN (fun(((l3,l4,i5,i6),l7):((aa×(aa×(Int×Int)))×aa))=>
 aI (cL i6 i5)
 ((di l4 i6).af (fun i8=>
 (pW (l3,i8)).af (fun b9=>
 aI (fw b9)
 (ak l7 (
 (cM ((i8::([]:aa))) 0 1).af (fun c8=>
 (mG (aH (ae l7) (ae c8)) 8).af (fun _=>
 (bk 0 (aH (ae l7) (ae c8)) (ae (fj l7 c8))).af (fun _=>
 some (Sum.inl ((l3,l4,i5,br .i64 i6 1),fj l7 c8)))))))
 (ak l7 (
 some (Sum.inl ((l3,l4,i5,br .i64 i6 1),l7)))))))
 ((ak l7 (
 some (Sum.inl l7))).af (fun eE=>
 some (Sum.inr eE))))
 ((l0,l1,aS (ae l1),(0:Int)),l2)))
 (fun fJ=>
 (fg fJ (ae fJ)).af (fun ed=>
 some ed))))
def CV:(aa×aa)->(Option aa):=Jv aM
theorem akf (x:(aa×aa)) (z:aa) (h:CV x=some z):Jv aM x=some z:=h
def Kt:ar:=[(.agg,[.list [.int .i64],.list [.int .i64],.list [.int .i64]]),(.agg,[.list [.int .i64],.list [.int .i64],.list [.int .i64]])]
def U5:ar:=[(.one,[.list [.int .i64]]),(.one,[.list [.int .i64]]),(.one,[.bool])]
def ao8:aU:=[]
def Ju (NN:Nat):((aa×(aa×aa))×(aa×(aa×aa)))->(Option (aa×(aa×Bool))):=
 (fun(((l0,l1,l2),l3,l4,l5):((aa×(aa×aa))×(aa×(aa×aa))))=>
 (CV (l0,l3)).af (fun l6=>
 (km (aS (ae l6)) (aS (ae l6)) 8).af (fun k7=>
 cm (ak l6 (
 (bk 0 k7 (ae (dk k7 (0:Int)))).af (fun _=>
 ak l6 (
 cH NN (fun(((i8,i9),(c8,eE,fJ),(ed,dQ,fv),eG,dm):((Int×Int)×((aa×(aa×aa))×((aa×(aa×aa))×(aa×aa)))))=>
 aI (cL i9 i8)
 ((dB i9 (ae eG)).af (fun S6=>
 (cW eG (aH 0 S6)).af (fun gM=>
 (vj ((c8,eE,fJ),gM)).af (fun e9=>
 (vj ((ed,dQ,fv),gM)).af (fun fH=>
 aI (iz (0:Int) e9)
 (aI (iz (0:Int) fH)
 ((di eE e9).af (fun jF=>
 (di dQ fH).af (fun jl=>
 aI (mn jF jl)
 (some (Sum.inr (Sum.inr (([]:aa),([]:aa),false))))
 (aI (iz (0:Int) e9)
 ((di eE e9).af (fun fI=>
 (dB i9 (ae dm)).af (fun BR=>
 (cW dm (aH 0 BR)).af (fun gZ=>
 ak eG (
 (bk 0 (ae dm) (ae (bK dm (aH 0 BR) fI))).af (fun _=>
 ak eG (
 some (Sum.inl ((i8,br .i64 i9 1),(c8,eE,fJ),(ed,dQ,fv),eG,bK dm (aH 0 BR) fI)))))))))
 ((di dQ fH).af (fun gS=>
 (dB i9 (ae dm)).af (fun xP=>
 (cW dm (aH 0 xP)).af (fun pA=>
 ak eG (
 (bk 0 (ae dm) (ae (bK dm (aH 0 xP) gS))).af (fun _=>
 ak eG (
 some (Sum.inl ((i8,br .i64 i9 1),(c8,eE,fJ),(ed,dQ,fv),eG,bK dm (aH 0 xP) gS)))))))))))))
 (aI (iz (0:Int) e9)
 ((di eE e9).af (fun ig=>
 (dB i9 (ae dm)).af (fun uR=>
 (cW dm (aH 0 uR)).af (fun jV=>
 ak eG (
 (bk 0 (ae dm) (ae (bK dm (aH 0 uR) ig))).af (fun _=>
 ak eG (
 some (Sum.inl ((i8,br .i64 i9 1),(c8,eE,fJ),(ed,dQ,fv),eG,bK dm (aH 0 uR) ig)))))))))
 ((di dQ fH).af (fun nr=>
 (dB i9 (ae dm)).af (fun HH=>
 (cW dm (aH 0 HH)).af (fun g0=>
 ak eG (
 (bk 0 (ae dm) (ae (bK dm (aH 0 HH) nr))).af (fun _=>
 ak eG (
 some (Sum.inl ((i8,br .i64 i9 1),(c8,eE,fJ),(ed,dQ,fv),eG,bK dm (aH 0 HH) nr)))))))))))
 (aI (iz (0:Int) e9)
 ((di eE e9).af (fun kS=>
 (dB i9 (ae dm)).af (fun BS=>
 (cW dm (aH 0 BS)).af (fun lD=>
 ak eG (
 (bk 0 (ae dm) (ae (bK dm (aH 0 BS) kS))).af (fun _=>
 ak eG (
 some (Sum.inl ((i8,br .i64 i9 1),(c8,eE,fJ),(ed,dQ,fv),eG,bK dm (aH 0 BS) kS)))))))))
 ((di dQ fH).af (fun iJ=>
 (dB i9 (ae dm)).af (fun Ta=>
 (cW dm (aH 0 Ta)).af (fun mg=>
 ak eG (
 (bk 0 (ae dm) (ae (bK dm (aH 0 Ta) iJ))).af (fun _=>
 ak eG (
 some (Sum.inl ((i8,br .i64 i9 1),(c8,eE,fJ),(ed,dQ,fv),eG,bK dm (aH 0 Ta) iJ)))))))))))))))
 ((ak eG (
 ak dm (
 some (Sum.inl (eG,dm))))).af (fun mP=>
 some (Sum.inr mP))))
 ((aS (ae l6),(0:Int)),(l0,l1,l2),(l3,l4,l5),l6,dk k7 (0:Int))))))
 (fun(iw,iy)=>
 (fg iw (ae iw)).af (fun oN=>
 (fg iy (ae iy)).af (fun jZ=>
 some (oN,jZ,true)))))))
def CU:((aa×(aa×aa))×(aa×(aa×aa)))->(Option (aa×(aa×Bool))):=Ju aM
theorem ake (x:((aa×(aa×aa))×(aa×(aa×aa)))) (z:(aa×(aa×Bool))) (h:CU x=some z):Ju aM x=some z:=h
def Kv:ar:=[(.one,[.list [.int .i64]]),(.one,[.list [.int .i64]])]
def U7:ar:=[(.one,[.list [.int .i64]])]
def apa:aU:=[]
def Jw (NN:Nat):(aa×aa)->(Option aa):=
 (fun((l0,l1):(aa×aa))=>
 cm ((bk 0 0 (ae (([]:aa)))).af (fun _=>
 cH NN (fun(((l2,l3,i4,i5),l6):((aa×(aa×(Int×Int)))×aa))=>
 aI (cL i5 i4)
 ((di l3 i5).af (fun i7=>
 (pW (l2,i7)).af (fun b8=>
 aI (b8)
 (ak l6 (
 (cM ((i7::([]:aa))) 0 1).af (fun l9=>
 (mG (aH (ae l6) (ae l9)) 8).af (fun _=>
 (bk 0 (aH (ae l6) (ae l9)) (ae (fj l6 l9))).af (fun _=>
 some (Sum.inl ((l2,l3,i4,br .i64 i5 1),fj l6 l9)))))))
 (ak l6 (
 some (Sum.inl ((l2,l3,i4,br .i64 i5 1),l6)))))))
 ((ak l6 (
 some (Sum.inl l6))).af (fun c8=>
 some (Sum.inr c8))))
 ((l1,l0,aS (ae l0),(0:Int)),([]:aa))))
 (fun eE=>
 (fg eE (ae eE)).af (fun fJ=>
 some fJ)))
def CW:(aa×aa)->(Option aa):=Jw aM
theorem akg (x:(aa×aa)) (z:aa) (h:CW x=some z):Jw aM x=some z:=h
def Kp:ar:=[(.agg,[.int .i64,.int .i64,.int .i64]),(.one,[.list [.int .i64]]),(.one,[.list [.int .i64]]),(.one,[.list [.int .i64]])]
def U1:ar:=[(.agg,[.list [.int .i64],.list [.int .i64],.list [.int .i64]])]
def ao4:aU:=[]
def Jt (NN:Nat):((Int×(Int×Int))×(aa×(aa×aa)))->(Option (aa×(aa×aa))):=
 (fun(((i0,i1,i2),l3,l4,l5):((Int×(Int×Int))×(aa×(aa×aa))))=>
 (sE l3).af (fun l6=>
 (sE l4).af (fun l7=>
 (vk l4).af (fun i8=>
 (km (0:Int) (du .i64 i8 (aS (ae l5))) 8).af (fun k9=>
 cm ((bk 0 0 (ae (([]:aa)))).af (fun _=>
 (bk 0 0 (ae (([]:aa)))).af (fun _=>
 (bk 0 0 (ae (([]:aa)))).af (fun _=>
 ak l6 (
 ak l7 (
 (bk 0 k9 (ae (dk k9 (0:Int)))).af (fun _=>
 cH NN (fun(((c8,ie,eT),ed,dQ,fv,eG,dm,fR):((aa×(Int×Int))×(aa×(aa×(aa×(aa×(aa×aa)))))))=>
 aI (cL eT ie)
 (ak fR (
 (mG (aH (ae fR) (ae c8)) 8).af (fun _=>
 ak ed (
 ak dQ (
 ak fv (
 ak eG (
 ak dm (
 (bk 0 (aH (ae fR) (ae c8)) (ae (fj fR c8))).af (fun _=>
 some (Sum.inl ((c8,ie,br .i64 eT 1),ed,dQ,fv,eG,dm,fj fR c8)))))))))))
 ((ak ed (
 ak dQ (
 ak fv (
 ak eG (
 ak dm (
 ak fR (
 some (Sum.inl (ed,dQ,fv,eG,dm,fR))))))))).af (fun ik=>
 some (Sum.inr ik))))
 ((l5,i8,(0:Int)),([]:aa),([]:aa),([]:aa),l6,l7,dk k9 (0:Int)))))))))
 (fun(kj,gI,eo,gT,jr,kH)=>
 (fg gT (ae gT)).af (fun kI=>
 (fg jr (ae jr)).af (fun qn=>
 (fg kH (ae kH)).af (fun kl=>
 some (kI,qn,kl))))))))))
def CR:((Int×(Int×Int))×(aa×(aa×aa)))->(Option (aa×(aa×aa))):=Jt aM
theorem aka (x:((Int×(Int×Int))×(aa×(aa×aa)))) (z:(aa×(aa×aa))) (h:CR x=some z):Jt aM x=some z:=h
def X6:ar:=[(.agg,[.int .i64,.int .i64,.int .i64]),(.one,[.list [.int .i64]]),(.one,[.list [.int .i64]])]
def XK:ar:=[(.one,[.int .i64]),(.one,[.int .i64]),(.agg,[.int .i64,.int .i64,.int .i64]),(.one,[.list [.int .i64]]),(.one,[.list [.int .i64]])]
def UQ:ar:=[(.one,[.list [.int .i64]])]
def Nv:aU:=[[some .aL,some .aL,some .aL],[],[some .bc]]
def Jp (NN:Nat):(Int×(Int×((Int×(Int×Int))×(aa×aa))))->(Option aa):=
 (fun((i0,i1,(i2,i3,i4),l5,l6):(Int×(Int×((Int×(Int×Int))×(aa×aa)))))=>
 (j0 i0 i1 (ae l5)).af (fun(k7,k8)=>
 cm (aI (c7 i2 (1:Int))
 (some (Sum.inl ((true,i2,(k7,k8),l6),l5,i2,i3,i4)))
 (some (Sum.inl ((c7 i2 (5:Int),i2,(k7,k8),l6),l5,i2,i3,i4))))
 (fun((b9,fG,(nu,tj),ed),dQ,gF,fY,gG)=>
 aI (b9)
 ((dB (0:Int) tj).af (fun S6=>
 (cW dQ (aH nu S6)).af (fun gM=>
 (di ed (0:Int)).af (fun e9=>
 (dB (0:Int) tj).af (fun BP=>
 (cW dQ (aH nu BP)).af (fun jF=>
 (mU (ae (bK dQ (aH nu BP) (xW gM e9))) (ae l5)).af (fun _=>
 some (bK dQ (aH nu BP) (xW gM e9)))))))))
 (aI (c7 fG (3:Int))
 ((dB (0:Int) tj).af (fun k23=>
 (cW dQ (aH nu k23)).af (fun fI=>
 (di ed (0:Int)).af (fun fA=>
 (dB (0:Int) tj).af (fun S8=>
 (cW dQ (aH nu S8)).af (fun gS=>
 (mU (ae (bK dQ (aH nu S8) (iB (br .i64 fI fA) fY))) (ae l5)).af (fun _=>
 some (bK dQ (aH nu S8) (iB (br .i64 fI fA) fY)))))))))
 (aI (c7 fG (4:Int))
 ((dB (0:Int) tj).af (fun xP=>
 (cW dQ (aH nu xP)).af (fun pA=>
 (di ed (0:Int)).af (fun ig=>
 (dB (0:Int) tj).af (fun uR=>
 (cW dQ (aH nu uR)).af (fun jV=>
 (mU (ae (bK dQ (aH nu uR) (iB pA ig))) (ae l5)).af (fun _=>
 some (bK dQ (aH nu uR) (iB pA ig)))))))))
 (aI (c7 fG (6:Int))
 ((dB (0:Int) tj).af (fun zE=>
 (cW dQ (aH nu zE)).af (fun kg=>
 (di ed (0:Int)).af (fun g0=>
 (dB (0:Int) tj).af (fun S9=>
 (cW dQ (aH nu S9)).af (fun qk=>
 (mU (ae (bK dQ (aH nu S9) (TZ .i64 kg g0))) (ae l5)).af (fun _=>
 some (bK dQ (aH nu S9) (TZ .i64 kg g0)))))))))
 (cH NN (fun((((M3,HI),qq,mg,ii),iw,iT,gN,jp):(((Nat×Nat)×(aa×(Int×Int)))×(aa×(Int×(Int×Int)))))=>
 aI (cL ii mg)
 ((dB ii HI).af (fun k47=>
 (cW iw (aH M3 k47)).af (fun ql=>
 (di qq ii).af (fun pB=>
 (iM (br .i64 ql pB) gN).af (fun nY=>
 (dB ii HI).af (fun k51=>
 (cW iw (aH M3 k51)).af (fun tf=>
 some (Sum.inl (((M3,HI),qq,mg,br .i64 ii 1),bK iw (aH M3 k51) nY,iT,gN,jp)))))))))
 (((mU (ae iw) (ae l5)).af (fun _=>
 some iw)).af (fun n5=>
 some (Sum.inr n5))))
 (((nu,tj),ed,aS tj,(0:Int)),dQ,gF,fY,gG))))))))
def yt:(Int×(Int×((Int×(Int×Int))×(aa×aa))))->(Option aa):=Jp aM
theorem aj0 (x:(Int×(Int×((Int×(Int×Int))×(aa×aa))))) (z:aa) (h:yt x=some z):Jp aM x=some z:=h
theorem ZI {P:Int->Bool} {l:aa} {i:Nat} (h:i<l.length):(l.take (i+1)).filter P=if P (l.getD i 0)=true then(l.take i).filter P++[l.getD i 0] else(l.take i).filter P:=by
 have e:l.take (i+1)=l.take i++[l.getD i 0]:=by
  rw[zaE,kB h];rfl
 rw[e,List.filter_append];clear e;generalize l.getD i 0=x;cases hp:P x with
 |true=>rw[if_pos rfl];simp[List.filter,hp]
 |false=>rw[if_neg (by simp)];simp[List.filter,hp]
theorem ZH {P:Int->Bool} (l:aa) (i:Nat):((l.take i).filter P).length<=l.length:=by
 have:=zbc P (l.take i);rw[zau] at this;omega
theorem an6 (l keep:aa) (h:l.length<=1000) (hk:keep.length<=1000):CW (l,keep)=some (l.filter fun x=>decide (x∈keep)):=by
 simp only[CW,Jw,ak];rw[show bk 0 0 (ae ([]:aa))=some () from rfl]
 try simp only[aF]
 rw[fS (fun i=>((keep,l,aS (ae l),(i:Int)),(l.take i).filter fun x=>decide (x∈keep))) l.length ?a1 ?a2 ?a3 (eP (by omega))]
 case a1=>
  intro i hi;dsimp only
  have hlen:=ZH (P:=fun x=>decide (x∈keep)) l i;rw[bS (eB (by show(i:Int)<(l.length:Int);omega)),fq,kB hi]
  try simp only[aF]
  rw[show pW (keep,l.getD i 0)=some (decide (l.getD i 0∈keep)) from if_pos (by dsimp only;omega),ZI hi,iP (by omega)]
  try simp only[aF]
  by_cases hc:l.getD i 0∈keep
  ·rw[decide_eq_true hc,m7,if_pos rfl]
   try simp only[bE,aF]
   rw[FL]
   try simp only[aF]
   rw[rO (by simp only[aH,ae,zae,zah,fe];omega)]
   try simp only[aF]
   rw[GI];rfl
  ·rw[decide_eq_false hc,jb,if_neg (by simp)]
   try simp only[bE,aF]
 case a2=>
  dsimp only
  rw[bN (d8 (by show(l.length:Int)<=(l.length:Int);omega)),zap]
  try simp only[bE,aF]
  try rfl
 case a3=>rfl
 simp only[cm,Option.bind,mr,aF]
def jL (a b:aa):aa:=a++b.filter fun x=> !decide (x∈a)
theorem amX (a b:aa) (h:a.length<=1000) (hb:b.length<=1000):CV (a,b)=some (jL a b):=by
 simp only[CV,Jv,ak];rw[show sE a=some a from if_pos (by omega)]
 try simp only[aF,bE]
 rw[fS (fun i=>((a,b,aS (ae b),(i:Int)),a++(b.take i).filter fun x=> !decide (x∈a))) b.length ?a1 ?a2 ?a3 (eP (by omega))]
 case a1=>
  intro i hi;dsimp only
  have hlen:=ZH (P:=fun x=> !decide (x∈a)) b i;rw[bS (eB (by show(i:Int)<(b.length:Int);omega)),fq,kB hi]
  try simp only[aF]
  rw[show pW (a,b.getD i 0)=some (decide (b.getD i 0∈a)) from if_pos (by dsimp only;omega),ZI hi,iP (by omega)]
  try simp only[aF]
  by_cases hc:b.getD i 0∈a
  ·rw[decide_eq_true hc,show fw true=false from rfl,jb,if_neg (by simp)]
   try simp only[bE,aF]
  ·rw[decide_eq_false hc,show fw false=true from rfl,m7,if_pos (show(!false)=true from rfl)]
   try simp only[bE,aF]
   rw[FL]
   try simp only[aF]
   rw[rO (by simp only[aH,ae,zae,zah,zad,fe];omega)]
   try simp only[aF]
   rw[GI];simp only[aF,fj,List.append_assoc]
 case a2=>
  dsimp only
  rw[bN (d8 (by show(b.length:Int)<=(b.length:Int);omega)),zap]
  try simp only[bE,aF]
  try rfl
 case a3=>
  rw[List.take_zero,List.filter_nil,zaL];rfl
 simp only[cm,Option.bind,mr,aF]
 try rfl
def jd (La Da Lb Db:aa) (v:Int):Int:=if bY La v<La.length then Da.getD (bY La v) 0 else Db.getD (bY Lb v) 0
theorem Cb {l:aa} {v:Int}:bY l v<l.length↔v∈l:=by
 constructor
 ·intro h;exact zaQ (ar4 h)
 ·exact se
theorem asU {n:Nat} (f:Nat->Int) (i:Nat) (x:Int) (hx:x=f i):bK (bu n (fun q=>if q<i then f q else 0)) i x=bu n (fun q=>if q<i+1 then f q else 0):=by
 rw[wC];refine gJ fun q _=>?_;by_cases e:q=i
 ·rw[if_pos e,if_pos (by omega),hx,e]
 ·rw[if_neg e];by_cases e2:q<i
  ·rw[if_pos e2,if_pos (by omega)]
  ·rw[if_neg e2,if_neg (by omega)]
theorem abx {a b:aa} {v:Int} (h:v∈jL a b):v∈a\/v∈b:=by
 unfold jL at h;rcases zaC.1 h with h|h
 ·exact .inl h
 ·exact .inr (zaM.1 h).1
theorem amW {La Da A Lb Db B:aa} (ha:La.length=Da.length) (hb:Lb.length=Db.length) (Mh:La.length<=12) (au3:Lb.length<=12) (hc:∀v,v∈La->v∈Lb->Da.getD (bY La v) 0=Db.getD (bY Lb v) 0):
  CU ((La,Da,A),Lb,Db,B)=some (jL La Lb,(jL La Lb).map (jd La Da Lb Db),true):=by
 simp only[CU,Ju,ak];rw[amX La Lb (by omega) (by omega)]
 try simp only[aF]
 have hl:(jL La Lb).length<=24:=by
  unfold jL;rw[zad];have:=zbc (fun x=> !decide (x∈La)) Lb;omega
 have qi:∀q,q<(jL La Lb).length->(jL La Lb).getD q 0∈La\/(jL La Lb).getD q 0∈Lb:=fun q hq=>abx (ir hq);generalize jL La Lb=S at hl qi;rw[uU (by simp only[ae,fe];omega)]
 try simp only[aF,bE]
 rw[show bk 0 (ae S) (ae (dk (ae S) (0:Int)))=some () from vH (by simp[ae,dk])]
 try simp only[aF]
 rw[fS (fun i=>((aS (ae S),(i:Int)),(La,Da,A),(Lb,Db,B),S,bu S.length (fun q=>if q<i then jd La Da Lb Db (S.getD q 0) else 0))) S.length ?a1 ?a2 ?a3 (eP (by omega))]
 case a1=>
  intro i hi;dsimp only
  rw[bS (eB (by show(i:Int)<(S.length:Int);omega)),rD (by show i<S.length;omega)]
  try simp only[aF]
  rw[ja,show cW S i=some (S.getD i 0) from kB hi]
  try simp only[aF]
  generalize hv:S.getD i 0=v;rw[show vj ((La,Da,A),v)=some (qL La v) from if_pos (by dsimp only;omega),show vj ((Lb,Db,B),v)=some (qL Lb v) from if_pos (by dsimp only;omega)]
  try simp only[aF]
  have RL:∀x,x=jd La Da Lb Db v->bK (bu S.length (fun q=>if q<i then jd La Da Lb Db (S.getD q 0) else 0)) (aH 0 i) x=bu S.length (fun q=>if q<i+1 then jd La Da Lb Db (S.getD q 0) else 0):=fun x hx=>by
   rw[ja];exact asU (fun q=>jd La Da Lb Db (S.getD q 0)) i x (by rw[hx,hv])
  have nj:∀x:Int,cW (bu S.length (fun q=>if q<i then jd La Da Lb Db (S.getD q 0) else 0)) (aH 0 i)=some (if i<i then jd La Da Lb Db (S.getD i 0) else 0):=fun _=>by rw[ja];exact qe _ hi
  have hm:=qi i hi;rw[hv] at hm;by_cases h1:v∈La
  ·have p1:=Cb.2 h1;have e1:qL La v=((bY La v:Nat):Int):=if_pos p1;have g1:di Da ((bY La v:Nat):Int)=some (Da.getD (bY La v) 0):=by rw[fq,kB (by omega)]
   have hj:jd La Da Lb Db v=Da.getD (bY La v) 0:=if_pos p1;have z1:iz 0 ((bY La v:Nat):Int)=true:=zG (by omega);rw[e1,z1,m7];by_cases h2:v∈Lb
   ·have p2:=Cb.2 h2;have e2:qL Lb v=((bY Lb v:Nat):Int):=if_pos p2;have g2:di Db ((bY Lb v:Nat):Int)=some (Db.getD (bY Lb v) 0):=by rw[fq,kB (by omega)]
    rw[e2,show iz 0 ((bY Lb v:Nat):Int)=true from zG (by omega),m7,g1]
    try simp only[aF]
    rw[g2]
    try simp only[aF]
    rw[bN (H6 (hc v h1 h2)),m7,uo _ hi]
    try simp only[aF]
    rw[nj 0]
    try simp only[aF]
    rw[RL _ hj.symm,lV]
    try simp only[aF,bE]
    rw[iP (by omega)]
   ·have p2:¬bY Lb v<Lb.length:=fun h=>h2 (Cb.1 h);have e2:qL Lb v= -1:=if_neg p2;rw[e2,show iz 0 (-1:Int)=false from rfl,jb,m7,g1]
    try simp only[aF]
    rw[uo _ hi]
    try simp only[aF]
    rw[nj 0]
    try simp only[aF]
    rw[RL _ hj.symm,lV]
    try simp only[aF,bE]
    rw[iP (by omega)]
  ·have p1:¬bY La v<La.length:=fun h=>h1 (Cb.1 h);have e1:qL La v= -1:=if_neg p1;have h2:v∈Lb:=hm.resolve_left h1;have p2:=Cb.2 h2;have e2:qL Lb v=((bY Lb v:Nat):Int):=if_pos p2;have g2:di Db ((bY Lb v:Nat):Int)=some (Db.getD (bY Lb v) 0):=by rw[fq,kB (by omega)]
   have hj:jd La Da Lb Db v=Db.getD (bY Lb v) 0:=if_neg p1;rw[e1,e2,show iz 0 (-1:Int)=false from rfl,jb,jb,g2]
   try simp only[aF]
   rw[uo _ hi]
   try simp only[aF]
   rw[nj 0]
   try simp only[aF]
   rw[RL _ hj.symm,lV]
   try simp only[aF,bE]
   rw[iP (by omega)]
 case a2=>
  dsimp only
  rw[bN (d8 (by show(S.length:Int)<=(S.length:Int);omega))]
  try simp only[bE,aF]
  try rfl
 case a3=>
  rw[Fa];rfl
 have e:bu S.length (fun q=>if q<S.length then jd La Da Lb Db (S.getD q 0) else 0)=S.map (jd La Da Lb Db):=by
  rw[<-Ux];exact gJ fun q hq=>if_pos hq
 rw[e];simp only[cm,Option.bind,mr,aF]
theorem akU {r:Int×Int×Int} {L D:aa} (x:Int) (hL:L.length<=1000) (hD:D.length<=12) (hd:∀v∈D,1<=v/\v<=8) (hP:bh D<=65536):CR (r,L,D,[x])=some (L,D,bu (bh D) fun _=>x):=by
 obtain⟨r1,r2,r3⟩:=r;simp only[CR,Jt,ak];have hI:=uZ (D:=D) fun v hv=>(hd v hv).1;rw[show sE L=some L from if_pos (by omega)]
 try simp only[aF]
 rw[show sE D=some D from if_pos (by omega)]
 try simp only[aF]
 rw[show vk D=some (dZ D) from if_pos ⟨hD,hd⟩,hI]
 try simp only[aF]
 rw[show aS (ae [x])=1 from rfl,qv (by omega) (by omega),zay]
 have hk:km 0 ((bh D:Nat):Int) 8=some 0:=by
  unfold km;rw[if_pos (by refine⟨by omega,by omega,?_⟩;simp only[fe];omega)];rfl
 rw[hk]
 try simp only[aF,bE]
 rw[show bk 0 0 (ae ([]:aa))=some () from rfl,show bk 0 0 (ae (dk 0 (0:Int)))=some () from rfl]
 try simp only[aF]
 rw[fS (fun i=>(([x],((bh D:Nat):Int),(i:Int)),([]:aa),([]:aa),([]:aa),L,D,bu i fun _=>x)) (bh D) ?a1 ?a2 ?a3 (eP (by omega))]
 case a1=>
  intro i hi;dsimp only
  rw[bS (eB (by omega))]
  try simp only[aF,bE]
  rw[rO (by simp only[aH,ae,eO,zae,zah,fe];omega)]
  try simp only[aF]
  rw[GI]
  try simp only[aF]
  rw[iP (by omega),NZ i (fun _=>x)]
 case a2=>
  dsimp only
  rw[bN (d8 (by omega))]
  try simp only[aF,bE]
  try rfl
 case a3=>rfl
 simp only[cm,Option.bind,mr,aF]
theorem XJ {p n y:Int} {xs:aa} {lo:Nat} (h:lo<xs.length) (hl:xs.length<=1048576) (hp:0<p) (hx:0<=xs.getD lo 0/\xs.getD lo 0<=1048576) (hy:0<=y/\y<=1048576):
  yt ((lo:Int),((lo+1:Nat):Int),(2,p,n),xs,[y])=some (bK xs lo ((xs.getD lo 0+y)%p)):=by
 simp only[yt,Jp];rw[IK (by omega) (by show lo+1<=xs.length;omega)]
 try simp only[aF]
 rw[show lo+1 - lo=1 by omega,bN (xf (by decide))];simp only[cm,Option.bind];rw[show c7 (2:Int) 5=false from rfl,jb,show c7 (2:Int) 3=false from rfl,jb,show c7 (2:Int) 4=false from rfl,jb,show c7 (2:Int) 6=false from rfl,jb]
 have cI:True:=trivial
 ·refine fS (fun i=>(((lo,1),[y],aS 1,(i:Int)),if i=0 then xs else bK xs lo ((xs.getD lo 0+y)%p),2,p,n)) 1 ?_ ?_ rfl (eP (by omega))
  ·intro i hi;have:i=0:=by omega
   subst this;dsimp only
   rw[bS (eB (by decide)),if_pos rfl,show dB ((0:Nat):Int) 1=some 0 from rfl]
   try simp only[aF]
   rw[show aH lo 0=lo from rfl,show cW xs lo=some (xs.getD lo 0) from kB h]
   try simp only[aF]
   rw[show di [y] ((0:Nat):Int)=some y from rfl]
   try simp only[aF]
   rw[fU (by omega) (by omega),u5 (by omega) hp]
   try simp only[aF]
   try rfl
  ·dsimp only
   rw[bN (d8 (by decide)),if_neg (by decide)];rw[z6 (by show(bK xs lo _).length=xs.length;simp[bK])];rfl

structure Ops (m:Int) (L L':List bf) (k P:Nat) (X:aa):Prop where
 ok:fV (m,L')=true
 qK:aV L'=aV L
 val:∀u r w,r<P->w<bQ (aV L) (k+1)->bV m (g9 m L' ((u*P+r)*bQ (aV L) (k+1)+w)) (sm P (fun q=>dD P X r q*g9 m L ((u*P+q)*bQ (aV L) (k+1)+w)))
def B7 (D ix:aa):Nat:=oS D ix D.length
theorem adv {D:aa} (hD:lz D) {n:Nat} (hn:n<bh D):B7 D (cA D n)=n:=by
 unfold B7;rw[NL hD hn _ (zaf _),rn,zbC]
def AZ (J I:aa) (v:Int):Int:=I.getD (bY J v) 0
theorem aoD {J I:aa} (hn:J.Nodup) (hl:I.length=J.length):J.map (AZ J I)=I:=by
 refine Gy (by rw[zao,hl]) fun k hk=>?_;rw[zao] at hk;rw[zaa,zak,kB hk];show I.getD (bY J (J.getD k 0)) 0=_;rw[pM hn hk]
theorem aug {L J:aa} (hL:L.Nodup) (hJ:J.Nodup) (hs:∀v∈L,v∈J) {g:Int->Nat} (h0:∀v,v∉L->g v=0):(J.map g).sum=(L.map g).sum:=by
 have h1:∀l:aa,(l.map g).sum=((l.filter fun v=>decide (v∈L)).map g).sum:=by
  intro l;induction l with
  |nil=>rfl
  |cons a l ih=>
   by_cases hc:a∈L
   ·rw[List.filter_cons_of_pos (by simpa using hc),zal,zaK,zal,zaK,ih]
   ·rw[List.filter_cons_of_neg (by simpa using hc),zal,zaK,ih,h0 a hc,Nat.zero_add]
 rw[h1 J];refine List.Perm.sum_nat (List.Perm.map g ((List.perm_ext_iff_of_nodup (hJ.filter _) hL).2 fun v=>?_));rw[zaM];exact⟨fun h=>by simpa using h.2,fun h=>⟨hs v h,by simpa using h⟩⟩
def jf (L D J I:aa):Nat:=sN (fun i=>(I.getD i 0).toNat*((oU L D J).getD i 0).toNat) (oU L D J).length
theorem YU {L D J I:aa} (hL:L.Nodup) (hJ:J.Nodup) (hs:∀v∈L,v∈J) (hl:L.length=D.length) (hI:I.length=J.length):jf L D J I=B7 D (L.map (AZ J I)):=by
 have hlen:(oU L D J).length=J.length:=eO _ _;let g:Int->Nat:=fun v=>(AZ J I v).toNat*(if bY L v<L.length then bQ D (bY L v+1) else 0)
 have e1:jf L D J I=(J.map g).sum:=by
  unfold jf;rw[hlen,<-N8 g J];refine Iu _ fun i hi=>?_;show _=(I.getD (bY J (J.getD i 0)) 0).toNat*_;rw[pM hJ hi];congr 1;unfold oU;rw[zaa,lK _ hi];show(if bY L (J.getD i 0)<L.length then((bQ D (bY L (J.getD i 0)+1):Nat):Int) else 0).toNat=_
  split
  ·exact zac _
  ·rfl
 have e2:B7 D (L.map (AZ J I))=(L.map g).sum:=by
  unfold B7;have:=TW (D:=D) (ix:=L.map (AZ J I)) D.length (zaf _);rw[rn,zai] at this;rw[this,<-N8 g L,<-hl];refine Iu _ fun i hi=>?_;show _=(AZ J I (L.getD i 0)).toNat*(if bY L (L.getD i 0)<L.length then bQ D (bY L (L.getD i 0)+1) else 0)
  rw[pM hL hi,if_pos hi];congr 1;rw[zaa,zak,kB hi];rfl
 rw[e1,e2];refine aug hL hJ hs fun v hv=>?_;show _*_=0;rw[if_neg fun h=>hv (Cb.1 h),zbx]
theorem aq4 {D ix:aa} (h:∀k,k<D.length->(ix.getD k 0).toNat<(D.getD k 0).toNat):B7 D ix<bh D:=by
 have:=TV h D.length (zaf _);rw[rn,zai] at this;unfold B7;omega
def J6:ar:=[(.agg,[.int .i64,.int .i64,.int .i64]),(.agg,[.list [.int .i64],.list [.int .i64],.list [.int .i64]]),(.agg,[.list [.int .i64],.list [.int .i64],.list [.int .i64]]),(.one,[.list [.int .i64]])]
def UH:ar:=[(.agg,[.list [.int .i64],.list [.int .i64],.list [.int .i64]]),(.one,[.bool])]
def aoO:aU:=[]
def Jm (NN:Nat):((Int×(Int×Int))×((aa×(aa×aa))×((aa×(aa×aa))×aa)))->(Option ((aa×(aa×aa))×Bool)):=
 (fun(((i0,i1,i2),(l3,l4,l5),(l6,l7,l8),l9):((Int×(Int×Int))×((aa×(aa×aa))×((aa×(aa×aa))×aa))))=>
 (sD ((i0,i1,i2),l3,l4,l5)).af (fun m4=>
 aI (fw m4)
 (some ((([]:aa),([]:aa),([]:aa)),false))
 ((sD ((i0,i1,i2),l6,l7,l8)).af (fun wY=>
 aI (fw wY)
 (some ((([]:aa),([]:aa),([]:aa)),false))
 ((CU ((l3,l4,l5),l6,l7,l8)).af (fun(fJ,ed,P0)=>
 aI (fw P0)
 (some ((([]:aa),([]:aa),([]:aa)),false))
 ((cM ed 0 (ae ed)).af (fun fv=>
 (vk fv).af (fun fY=>
 aI (cL (65536:Int) fY)
 (some ((([]:aa),([]:aa),([]:aa)),false))
 ((cM fJ 0 (ae fJ)).af (fun dm=>
 (CW (dm,l9)).af (fun fR=>
 (km (aS (ae fR)) (aS (ae fR)) 8).af (fun S7=>
 cm (ak fJ (
 ak ed (
 ak fR (
 (bk 0 0 (ae (([]:aa)))).af (fun _=>
 (bk 0 0 (ae (([]:aa)))).af (fun _=>
 (bk 0 0 (ae (([]:aa)))).af (fun _=>
 ak fR (
 (bk 0 S7 (ae (dk S7 (0:Int)))).af (fun _=>
 (bk 0 0 (ae (([]:aa)))).af (fun _=>
 cH NN (fun(((e9,fH),(jF,jl,fI),(kH,kI,qn),(kl,iU,mO),jX,jY,gU,nv,qp,jt,iK,lE):((Int×Int)×((Int×(Int×Int))×((aa×(aa×aa))×((aa×(aa×aa))×(aa×(aa×(aa×(aa×(aa×(aa×(aa×aa))))))))))))=>
 aI (cL fH e9)
 (cm ((dB fH (ae nv)).af (fun HI=>
 (cW nv (aH 0 HI)).af (fun jo=>
 ak iK (
 ak lE (
 ak nv (
 ak iK (
 ak jX (
 ak jY (
 ak gU (
 ak nv (
 ak qp (
 ak jt (
 cH NN (fun(((mg,ii,iS,iT,gN,jp),(ij,ql,pB),(EE,nw,mR),(n5,nz,oP),n6,jI,n7,g7,lF,rb,tm,oQ):((Int×(Int×(Int×(Int×(Int×Int)))))×((Int×(Int×Int))×((aa×(aa×aa))×((aa×(aa×aa))×(aa×(aa×(aa×(aa×(aa×(aa×(aa×aa))))))))))))=>
 aI (cL jp gN)
 ((dB jp (ae tm)).af (fun k64=>
 (cW tm (aH 0 k64)).af (fun BC=>
 aI (c7 BC ii)
 ((dB jp (ae oQ)).af (fun k66=>
 (cW oQ (aH 0 k66)).af (fun qm=>
 (dB mg (ae lF)).af (fun Tf=>
 (cW lF (aH 0 Tf)).af (fun zu=>
 ak tm (
 ak oQ (
 ak g7 (
 ak tm (
 ak n6 (
 ak jI (
 ak n7 (
 ak g7 (
 (bk 0 (ae lF) (ae (bK lF (aH 0 Tf) qm))).af (fun _=>
 ak rb (
 some (Sum.inl ((mg,ii,iS,iT,gN,br .i64 jp 1),(ij,ql,pB),(EE,nw,mR),(n5,nz,oP),n6,jI,n7,g7,bK lF (aH 0 Tf) qm,rb,tm,oQ)))))))))))))))))
 (ak tm (
 ak oQ (
 ak g7 (
 ak tm (
 ak n6 (
 ak jI (
 ak n7 (
 ak g7 (
 ak lF (
 ak rb (
 some (Sum.inl ((mg,ii,iS,iT,gN,br .i64 jp 1),(ij,ql,pB),(EE,nw,mR),(n5,nz,oP),n6,jI,n7,g7,lF,rb,tm,oQ))))))))))))))))
 ((ak tm (
 ak oQ (
 ak g7 (
 ak n6 (
 ak jI (
 ak n7 (
 ak g7 (
 ak lF (
 ak rb (
 some (Sum.inl ((iT,iS),(ij,ql,pB),(EE,nw,mR),(n5,nz,oP),n6,jI,n7,g7,lF,rb,tm,oQ)))))))))))).af (fun EG=>
 some (Sum.inr EG))))
 ((fH,jo,e9,fH,aS (ae iK),(0:Int)),(jF,jl,fI),(kH,kI,qn),(kl,iU,mO),jX,jY,gU,nv,qp,jt,iK,lE))))))))))))))
 (fun((v5,tg),(BF,SG,Es),(EI,l77,l78),(Tp,B1,Tq),B2,wc,B3,HO,Nj,tn,pG,wg)=>
 ak pG (
 ak wg (
 ak HO (
 ak B2 (
 ak wc (
 ak B3 (
 ak HO (
 ak Nj (
 ak tn (
 some (Sum.inl ((tg,br .i64 v5 1),(BF,SG,Es),(EI,l77,l78),(Tp,B1,Tq),B2,wc,B3,HO,Nj,tn,pG,wg)))))))))))))
 ((ak iK (
 ak lE (
 ak jX (
 ak jY (
 ak gU (
 ak nv (
 ak qp (
 ak jt (
 some (Sum.inl ((jF,jl,fI),(kH,kI,qn),(kl,iU,mO),jX,jY,gU,nv,qp,jt,iK,lE))))))))))).af (fun Nk=>
 some (Sum.inr Nk))))
 ((aS (ae fR),(0:Int)),(i0,i1,i2),(l3,l4,l5),(l6,l7,l8),([]:aa),([]:aa),([]:aa),fR,dk S7 (0:Int),([]:aa),fJ,ed)))))))))))
 (fun((zx,MN,zy),(l94,l95,l96),(EJ,l98,l99),EB,abB,abC,M4,EC,HJ,uS,M5)=>
 (cM M4 0 (ae M4)).af (fun an7=>
 (cM EC 0 (ae EC)).af (fun an8=>
 (cM HJ 0 (ae HJ)).af (fun Tj=>
 (yr (an7,an8,Tj)).af (fun Hq=>
 aI (c7 Hq ((-1:Int)))
 (some ((([]:aa),([]:aa),([]:aa)),false))
 ((C1 (zx,MN,zy)).af (fun Tk=>
 (cM M4 0 (ae M4)).af (fun M6=>
 (cM EC 0 (ae EC)).af (fun HK=>
 (cM Tk 0 (ae Tk)).af (fun an9=>
 (CR ((zx,MN,zy),M6,HK,an9)).af (fun(M7,BT,BU)=>
 (cM uS 0 (ae uS)).af (fun Tl=>
 (sG ((l94,l95,l96),Tl)).af (fun abD=>
 (cM uS 0 (ae uS)).af (fun aoa=>
 (sG ((EJ,l98,l99),aoa)).af (fun M8=>
 (cM M7 0 (ae M7)).af (fun aob=>
 (cM BT 0 (ae BT)).af (fun aoc=>
 (cM BU 0 (ae BU)).af (fun Tm=>
 (cM uS 0 (ae uS)).af (fun aod=>
 (sG ((aob,aoc,Tm),aod)).af (fun abE=>
 (km (aS (ae uS)) (aS (ae uS)) 8).af (fun S0=>
 (qE (zx,MN,zy)).af (fun MI=>
 (km MI MI 8).af (fun S3=>
 ak M5 (
 ak abD (
 ak M8 (
 ak abE (
 (bk 0 S0 (ae (dk S0 (0:Int)))).af (fun _=>
 (bk 0 S3 (ae (dk S3 (0:Int)))).af (fun _=>
 ak EB (
 ak abB (
 ak abC (
 ak M7 (
 ak BT (
 ak BU (
 cH NN (fun(((Er,zq,zr),(M9,abG,abH),(Na,abI,abJ),HL,Nb,abK,ED,xQ,xR,Nc,Nd,Nf,Ng,xS,Nh):((Int×(Int×Int))×((aa×(aa×aa))×((aa×(aa×aa))×(aa×(aa×(aa×(aa×(aa×(aa×(aa×(aa×(aa×(aa×(aa×aa)))))))))))))))=>
 (cM Nd 0 (ae Nd)).af (fun aoe=>
 (cM xS 0 (ae xS)).af (fun aof=>
 (t8 (aoe,aof)).af (fun amv=>
 (oW ((Er,zq,zr),(M9,abG,abH),amv)).af (fun aog=>
 (cM Nf 0 (ae Nf)).af (fun aoh=>
 (cM xS 0 (ae xS)).af (fun aoi=>
 (t8 (aoh,aoi)).af (fun amw=>
 (oW ((Er,zq,zr),(Na,abI,abJ),amw)).af (fun aoj=>
 ak Nh (
 (CX ((Er,zq,zr),Nh,aog,aoj)).af (fun Tn=>
 (cM Ng 0 (ae Ng)).af (fun aok=>
 (cM xS 0 (ae xS)).af (fun aol=>
 (t8 (aok,aol)).af (fun amx=>
 (cM ED 0 (ae ED)).af (fun aom=>
 (cM xQ 0 (ae xQ)).af (fun aon=>
 ak xR (
 (vl ((Er,zq,zr),(aom,aon,xR),amx)).af (fun(amy,amz)=>
 (j0 amy amz (ae xR)).af (fun(M1,abz)=>
 (cW xR M1).af (fun avm=>
 (cM xR M1 abz).af (fun avo=>
 ak xR (
 (cM Tn 0 (ae Nh)).af (fun aoo=>
 (yt (aS M1,aS (aH M1 abz),(Er,zq,zr),xR,aoo)).af (fun To=>
 (cM Nc 0 (ae Nc)).af (fun aop=>
 ak xS (
 (sF (aop,xS)).af (fun(ahW,abL)=>
 aI (fw ahW)
 (((fg ED (ae ED)).af (fun aoq=>
 (fg xQ (ae xQ)).af (fun aor=>
 (fg To (ae xR)).af (fun aos=>
 some ((aoq,aor,aos),true))))).af (fun(((aot,aou,aov),ahX):((aa×(aa×aa))×Bool))=>
 some (Sum.inr ((aot,aou,aov),ahX))))
 (ak Nc (
 ak Nd (
 ak Nf (
 ak Ng (
 (bk 0 (ae xS) (ae abL)).af (fun _=>
 (bk 0 (ae Nh) (ae Tn)).af (fun _=>
 ak HL (
 ak Nb (
 ak abK (
 ak ED (
 ak xQ (
 (bk 0 (ae xR) (ae To)).af (fun _=>
 some (Sum.inl ((Er,zq,zr),(M9,abG,abH),(Na,abI,abJ),HL,Nb,abK,ED,xQ,To,Nc,Nd,Nf,Ng,abL,Tn))))))))))))))))))))))))))))))))))))))))))
 ((zx,MN,zy),(l94,l95,l96),(EJ,l98,l99),EB,abB,abC,M7,BT,BU,M5,abD,M8,abE,dk S0 (0:Int),dk S3 (0:Int))))))))))))))))))))))))))))))))))))))))))))))))))
def yq:((Int×(Int×Int))×((aa×(aa×aa))×((aa×(aa×aa))×aa)))->(Option ((aa×(aa×aa))×Bool)):=Jm aM
theorem ajR (x:((Int×(Int×Int))×((aa×(aa×aa))×((aa×(aa×aa))×aa)))) (z:((aa×(aa×aa))×Bool)) (h:yq x=some z):Jm aM x=some z:=h
theorem amU {a b:aa} (ha:a.Nodup) (hb:b.Nodup):(jL a b).Nodup:=by
 unfold jL;rw[zbu];refine⟨ha,hb.filter _,fun x hx y hy=>?_⟩;have:=(zaM.1 hy).2;intro e;subst e;simp[hx] at this
theorem abw {a b:aa}:∀v∈a,v∈jL a b:=fun v hv=>List.mem_append_left _ hv
theorem amV {a b:aa}:∀v∈b,v∈jL a b:=fun v hv=>by
 by_cases h:v∈a
 ·exact abw v h
 ·exact List.mem_append_right _ (zaM.2 ⟨hv,by simp[h]⟩)
structure Sub (L D J DJ:aa):Prop where
 nL:L.Nodup
 nJ:J.Nodup
 s:∀v∈L,v∈J
 l:L.length=D.length
 lJ:DJ.length=J.length
 d:∀i,i<L.length->DJ.getD (bY J (L.getD i 0)) 0=D.getD i 0
 pos:∀x∈DJ,1<=x
theorem Sub.lt {L D J DJ:aa} (h:Sub L D J DJ) (k:Nat):jf L D J (cA DJ k)<bh D:=by
 have hl:(cA DJ k).length=J.length:=by unfold cA;rw[eO,h.lJ]
 rw[YU h.nL h.nJ h.s h.l hl];refine aq4 fun i hi=>?_;have e7:i<L.length:=by have:=h.l;omega
 have hp:bY J (L.getD i 0)<DJ.length:=by rw[h.lJ];exact se (h.s _ (ir e7))
 have e:(L.map (AZ J (cA DJ k))).getD i 0=gm DJ k (bY J (L.getD i 0)):=by
  rw[zaa,zak,kB e7];exact Hu hp
 rw[e,<-h.d i e7];unfold gm;rw[zac];refine zaS _ ?_;have:=h.pos _ (ir hp);omega
def nP (A B:aa) (oa ob oc:Nat->Nat) (n k:Nat):Int:=sm k fun j=>if oc j=n then A.getD (oa j) 0*B.getD (ob j) 0 else 0
theorem au1 (p:Int):Jg (2,p,0)=[0]:=rfl
theorem apJ (p a b:Int):qu (2,p,0) [a] [b]=[a*b%p]:=rfl
theorem YX {p a:Int} (h:eU p a):oE (2,p,0) [a]=true:=by
 have e:oE (2,p,0) [a]=(uP (p - 1) a&&true):=rfl;rw[e,zbH];exact decide_eq_true ⟨h.1,by have:=h.2;omega⟩
theorem abg {p:Int} {A:aa} (h:∀x∈A,uP (fT (2,p,0)) x=true):gy p A:=fun x hx=>by
 have:=of_decide_eq_true (h x hx);have e:fT (2,p,0)=p - 1:=rfl;rw[e] at this;exact⟨this.1,by have:=this.2;omega⟩
theorem aaz {p:Int} {A:aa} (h:gy p A) {i:Nat} (hi:i<A.length):eU p (A.getD i 0):=h _ (ir hi)
theorem V4 {A:aa} {i:Nat} (hi:i<A.length):jw A (i*1) 1=[A.getD i 0]:=by
 unfold jw;rw[zai,zaG hi,zaa,zab hi];rfl
theorem W6 {α:Type} {xs:List α} {lo n:Nat} (h:lo+n<=ae xs):cM xs lo n=some ((xs.drop lo).take n):=if_pos h
theorem agJ {α:Type} {xs:List α} {n:Nat} (h:xs.length=n):fg xs n=some xs:=by
 subst h;exact mr xs
theorem Mf {l:aa} {f:Int->Int} {i:Nat} (hi:i<l.length):(l.map f).getD i 0=f (l.getD i 0):=by
 rw[zaa,zak,kB hi];rfl
def qJ (J DS S:aa) (k i q:Nat):Int:=if q<k\/(q=k/\bY J (S.getD k 0)<i) then DS.getD q 0 else 0
set_option maxHeartbeats 4000000 in
theorem aiD {p:Int} {La Da A Lb Db Bd keep J DJ S DS:aa} (ha:jz (2,p,0) (La,Da,A)=true) (hb:jz (2,p,0) (Lb,Db,Bd)=true)
  (hc:∀v,v∈La->v∈Lb->Da.getD (bY La v) 0=Db.getD (bY Lb v) 0) (hJ:jL La Lb=J) (D3:J.map (jd La Da Lb Db)=DJ) (alh:J.length<=12) (hP:bh DJ<=65536) (hk:keep.length<=1000)
  (hS:(J.filter fun x=>decide (x∈keep))=S) (Rl:S.map (jd La Da Lb Db)=DS) (rQ:p9 S DS=true) (hPS:bh DS<=4096):
  yq ((2,p,0),(La,Da,A),(Lb,Db,Bd),keep)=some ((S,DS,bu (bh DS) (fun n=>nP A Bd (fun k=>jf La Da J (cA DJ k)) (fun k=>jf Lb Db J (cA DJ k)) (fun k=>jf S DS J (cA DJ k)) n (bh DJ)%p)),true)/\
   Sub La Da J DJ/\Sub Lb Db J DJ/\Sub S DS J DJ:=by
 obtain⟨tc,⟨a12,ad⟩,hta,⟨ap1,XQ⟩,hA,aG,aT⟩:=yj ha;obtain⟨hrb,⟨Lc,bd⟩,htb,⟨bp1,Yd⟩,hB,bG,bT⟩:=yj hb;rw[show cB (2,p,0)=1 from rfl,zai] at hA hB
 have PQ:=(I6 ha).1;have P8:=(I6 hb).1;have na:=F6 PQ;have nb:=F6 P8;have lea:=(uf PQ).2.1;have leb:=(uf P8).2.1;have nJ:J.Nodup:=by rw[<-hJ];exact amU na nb
 have sa:∀v∈La,v∈J:=by rw[<-hJ];exact abw
 have sb:∀v∈Lb,v∈J:=by rw[<-hJ];exact amV
 have cr:dJ p=true:=by
  have h:=tc;have e:jO (2,p,0)=(dJ p&&decide ((0:Int)=0)):=rfl;rw[e] at h;simpa using h
 have hm:=fQ cr;have oJ:=hm.1;have hm3:=hm.2;have aP:=abg (zaH.1 aT.2.2);have bP:=abg (zaH.1 bT.2.2);have HP:DJ.length=J.length:=by rw[<-D3,zao]
 have jda:∀i,i<La.length->jd La Da Lb Db (La.getD i 0)=Da.getD i 0:=fun i hi=>by
  unfold jd;rw[pM na hi,if_pos hi]
 have jdb:∀i,i<Lb.length->jd La Da Lb Db (Lb.getD i 0)=Db.getD i 0:=fun i hi=>by
  unfold jd;by_cases h:Lb.getD i 0∈La
  ·rw[if_pos (se h),hc _ h (ir hi),pM nb hi]
  ·rw[if_neg (fun q=>h (Cb.1 q)),pM nb hi]
 have jdd:∀v∈J,1<=jd La Da Lb Db v/\jd La Da Lb Db v<=8:=fun v hv=>by
  rw[<-hJ] at hv;rcases abx hv with h|h
  ·have:=jda (bY La v) (se h);rw[E4 h] at this;rw[this];exact ad _ (ir (by have:=se h;omega))
  ·have:=jdb (bY Lb v) (se h);rw[E4 h] at this;rw[this];exact bd _ (ir (by have:=se h;omega))
 have yS:∀x∈DJ,1<=x/\x<=8:=fun x hx=>by
  rw[<-D3] at hx;obtain⟨v,hv,rfl⟩:=zaw.1 hx;exact jdd v hv
 have Mc:∀v,v∈J->DJ.getD (bY J v) 0=jd La Da Lb Db v:=fun v hv=>by
  rw[<-D3,Mf (se hv),E4 hv]
 have sS:∀v∈S,v∈J:=fun v hv=>by rw[<-hS] at hv;exact(zaM.1 hv).1
 have nS:S.Nodup:=by rw[<-hS];exact nJ.filter _
 have leS:S.length=DS.length:=by rw[<-Rl,zao]
 have Wx:Sub La Da J DJ:=⟨na,nJ,sa,lea,HP,fun i hi=>by rw[Mc _ (sa _ (ir hi)),jda i hi],fun x hx=>(yS x hx).1⟩;have Wy:Sub Lb Db J DJ:=⟨nb,nJ,sb,leb,HP,fun i hi=>by rw[Mc _ (sb _ (ir hi)),jdb i hi],fun x hx=>(yS x hx).1⟩;have Wz:Sub S DS J DJ:=⟨nS,nJ,sS,leS,HP,fun i hi=>by rw[Mc _ (sS _ (ir hi)),<-Rl,Mf hi],fun x hx=>(yS x hx).1⟩;refine⟨?_,Wx,Wy,Wz⟩;have avp:S.length<=12:=(uf rQ).1;have dS:=AO rQ;have nJl:J.length<=12:=alh;simp only[yq,Jm,ak];rw[show sD ((2,p,0),La,Da,A)=some (jz (2,p,0) (La,Da,A)) from if_pos ⟨by dsimp only;omega,by dsimp only;omega,by dsimp only;omega⟩,ha]
 try simp only[aF]
 rw[show fw true=false from rfl,jb,show sD ((2,p,0),Lb,Db,Bd)=some (jz (2,p,0) (Lb,Db,Bd)) from if_pos ⟨by dsimp only;omega,by dsimp only;omega,by dsimp only;omega⟩,hb]
 try simp only[aF]
 rw[show fw true=false from rfl,jb,amW lea leb (by omega) (by omega) hc,hJ,D3]
 try simp only[aF,d6]
 rw[show fw true=false from rfl,jb,show vk DJ=some (dZ DJ) from if_pos ⟨by omega,yS⟩,uZ fun x hx=>(yS x hx).1]
 try simp only[aF,d6]
 rw[bN (d8 (by omega)),an6 J keep (by omega) hk,hS]
 try simp only[aF,d6,bE]
 rw[uU (by simp only[ae,fe];omega)]
 try simp only[aF,bE]
 rw[show bk 0 0 (ae ([]:aa))=some () from rfl,show bk 0 (ae S) (ae (dk (ae S) (0:Int)))=some () from vH (by simp[ae,dk])]
 try simp only[aF,bE]
 rw[fS (fun k=>(((S.length:Int),(k:Int)),(2,p,0),(La,Da,A),(Lb,Db,Bd),([]:aa),([]:aa),([]:aa),S,bu S.length (qJ J DS S k 0),([]:aa),J,DJ)) S.length ?a1 ?a2 ?a3 (eP (by omega))]
 case a1=>
  intro k dj;dsimp only
  rw[bS (eB (by omega)),rD (by show k<S.length;omega)]
  try simp only[aF]
  rw[ja,show cW S k=some (S.getD k 0) from kB dj]
  try simp only[aF,bE]
  have gQ:=se (sS _ (ir dj));rw[fS (fun i=>(((k:Int),S.getD k 0,(S.length:Int),(k:Int),(J.length:Int),(i:Int)),(2,p,0),(La,Da,A),(Lb,Db,Bd),([]:aa),([]:aa),([]:aa),S,bu S.length (qJ J DS S k i),([]:aa),J,DJ)) J.length ?b1 ?b2 ?b3 (eP (by omega))]
  case b1=>
   intro i hi;dsimp only
   rw[bS (eB (by omega)),rD (by show i<J.length;omega)]
   try simp only[aF]
   rw[ja,show cW J i=some (J.getD i 0) from kB hi]
   try simp only[aF]
   by_cases hv:J.getD i 0=S.getD k 0
   ·have ft:bY J (S.getD k 0)=i:=by rw[<-hv];exact pM nJ hi
    rw[bS (A8 hv),rD (by show i<DJ.length;omega)]
    try simp only[aF]
    rw[ja,show cW DJ i=some (DJ.getD i 0) from kB (by omega)]
    try simp only[aF]
    rw[uo _ dj]
    try simp only[aF]
    rw[ja,qe _ dj]
    try simp only[aF]
    have vT:bK (bu S.length (qJ J DS S k i)) k (DJ.getD i 0)=bu S.length (qJ J DS S k (i+1)):=by
     rw[wC];refine gJ fun q hq=>?_;unfold qJ;by_cases e:q=k
     ·subst e;rw[if_pos rfl,if_pos (.inr ⟨rfl,by omega⟩),<-Rl,Mf hq,<-Mc _ (sS _ (ir hq)),ft]
     ·rw[if_neg e];exact BH ⟨fun h=>h.imp id fun h=>absurd h.1 e,fun h=>h.imp id fun h=>absurd h.1 e⟩ _ _
    rw[vT,lV]
    try simp only[aF,bE]
    rw[iP (by omega)]
   ·rw[bN (xf hv)]
    try simp only[aF,bE]
    rw[iP (by omega)];have:bu S.length (qJ J DS S k i)=bu S.length (qJ J DS S k (i+1)):=gJ fun q hq=>by
     unfold qJ;refine BH ⟨fun h=>h.imp id fun h=>⟨h.1,by omega⟩,fun h=>h.imp id fun h=>⟨h.1,?_⟩⟩ _ _;have aE:bY J (S.getD k 0)≠i:=fun e=>hv (by rw[<-e];exact E4 (sS _ (ir dj)));have:=h.2;omega
    rw[this]
  case b2=>
   dsimp only
   rw[bN (d8 (by omega))]
   try simp only[aF,bE]
   try rfl
  case b3=>rfl
  simp only[cm,Option.bind]
  try simp only[aF,bE]
  rw[iP (by omega)];have:bu S.length (qJ J DS S k J.length)=bu S.length (qJ J DS S (k+1) 0):=gJ fun q hq=>by
   unfold qJ;exact BH ⟨fun h=>.inl (by rcases h with h|h<;>omega),fun h=>by
    rcases h with h|h
    ·by_cases e:q=k
     ·exact .inr ⟨e,gQ⟩
     ·exact .inl (by omega)
    ·omega⟩ _ _
  rw[this]
 case a2=>
  dsimp only
  rw[bN (d8 (by omega))]
  try simp only[aF,bE]
  try rfl
 case a3=>
  rw[Fa];have:bu (ae S) (fun _=>(0:Int))=bu S.length (qJ J DS S 0 0):=gJ fun q _=>by
   unfold qJ;rw[if_neg (by omega)]
  rw[this];rfl
 have Ms:bu S.length (qJ J DS S S.length 0)=DS:=by
  refine Gy (by rw[eO];exact leS) fun q hq=>?_;rw[eO] at hq;rw[zaa,lK _ hq];exact if_pos (.inl hq)
 rw[Ms];simp only[cm,Option.bind]
 try simp only[aF,d6]
 have ali:=uZ (D:=DS) fun x hx=>(dS x hx).1;have au6:1<=bh DS:=Cc fun x hx=>(dS x hx).1;rw[show yr (S,DS,([]:aa))=some (j3 S DS) from if_pos ⟨by show S.length<=_;omega,by show DS.length<=_;omega⟩,show j3 S DS=dZ DS from if_pos ⟨rQ,by omega⟩,ali]
 try simp only[aF,d6]
 rw[bN (xf (by omega)),show C1 (2,p,0)=some (Jg (2,p,0)) from if_pos tc,au1]
 try simp only[aF,d6]
 rw[akU 0 (by omega) (by omega) dS (by omega)]
 try simp only[aF,d6]
 rw[show sG ((La,Da,A),J)=some (oU La Da J) from if_pos ⟨PQ,by show J.length<=_;omega,XQ⟩]
 try simp only[aF,d6]
 rw[show sG ((Lb,Db,Bd),J)=some (oU Lb Db J) from if_pos ⟨P8,by show J.length<=_;omega,Yd⟩]
 try simp only[aF,d6]
 rw[show sG ((S,DS,bu (bh DS) fun _=>(0:Int)),J)=some (oU S DS J) from if_pos ⟨rQ,by show J.length<=_;omega,hPS⟩]
 try simp only[aF,d6]
 rw[uU (by simp only[ae,fe];omega)]
 try simp only[aF,d6]
 rw[show qE (2,p,0)=some 1 from rfl]
 try simp only[aF,d6]
 rw[show km (1:Int) 1 8=some 1 from rfl]
 try simp only[aF,bE]
 rw[show bk 0 (ae J) (ae (dk (ae J) (0:Int)))=some () from vH (by simp[ae,dk]),show bk 0 1 (ae (dk 1 (0:Int)))=some () from rfl]
 try simp only[aF,bE]
 have au5:1<=bh DJ:=Cc fun x hx=>(yS x hx).1;have hxI:lz DJ:=⟨by omega,fun x hx=>by have:=yS x hx;omega⟩;have VW:∀{L D:aa},bh D<=4096->(∀x∈D,1<=x/\x<=8)->Sub L D J DJ->∀k,t8 (oU L D J,cA DJ k)=some ((jf L D J (cA DJ k):Nat):Int):=fun{L D} h1 h2 hs k=>by
  have hD:lz D:=⟨by have:=hs.l;have:=List.Nodup.length_le_of_subset hs.nL (l₂:=J) hs.s;omega,fun x hx=>by have:=h2 x hx;omega⟩;refine if_pos ⟨⟨by show(bu J.length _).length<=24;rw[eO];omega,fun x hx=>?_⟩,⟨by unfold cA;rw[eO];omega,fun x hx=>?_⟩,by unfold oU cA;rw[eO,eO,HP]⟩
  ·obtain⟨i,hi,rfl⟩:=zaw.1 hx
   try dsimp only
   split
   ·rename_i h;have:=WN hD (i:=bY L (J.getD i 0)+1) (by have:=hs.l;omega);omega
   ·omega
  ·obtain⟨i,hi,rfl⟩:=zaw.1 hx;have hi:=zav.1 hi;have:=yS _ (ir (l:=DJ) hi);have h3:(DJ.getD i 0).toNat<=8:=by omega
   have h4:=zaS (k/bQ DJ (i+1)) (show(DJ.getD i 0).toNat>0 by omega);unfold gm;omega
 have oa:∀k,jf La Da J (cA DJ k)<A.length:=fun k=>by rw[hA];exact Wx.lt k
 have ob:∀k,jf Lb Db J (cA DJ k)<Bd.length:=fun k=>by rw[hB];exact Wy.lt k
 have oc:∀k,jf S DS J (cA DJ k)<bh DS:=fun k=>Wz.lt k;have da:=VW XQ ad Wx;have db:=VW Yd bd Wy;have dc:=VW hPS dS Wz;have hA1:A.length<=4096:=by omega
 have hB1:Bd.length<=4096:=by omega
 have ga:∀k,eU p (A.getD (jf La Da J (cA DJ k)) 0):=fun k=>aaz aP (oa k);have gb:∀k,eU p (Bd.getD (jf Lb Db J (cA DJ k)) 0):=fun k=>aaz bP (ob k);generalize hoa:(fun k=>jf La Da J (cA DJ k))=fa;generalize hob:(fun k=>jf Lb Db J (cA DJ k))=fb;generalize hoc:(fun k=>jf S DS J (cA DJ k))=fc;have eoa:∀k,jf La Da J (cA DJ k)=fa k:=fun k=>by rw[<-hoa]
 have eob:∀k,jf Lb Db J (cA DJ k)=fb k:=fun k=>by rw[<-hob]
 have eoc:∀k,jf S DS J (cA DJ k)=fc k:=fun k=>by rw[<-hoc]
 simp only[eoa] at da oa ga;simp only[eob] at db ob gb;simp only[eoc] at dc oc;have vP:∀k,k<bh DJ->sF (DJ,cA DJ k)=some (decide (k+1<bh DJ),cA DJ (k+1)):=fun k dj=>by
  have e:oS DJ (cA DJ k) DJ.length=k:=adv hxI dj;have:=show sF (DJ,cA DJ k)=_ from if_pos ⟨hxI,by rw[e],by rw[e];exact dj,by show bh DJ<=1048576;omega⟩
  rw[this,e]
 have xH:∀k n,n<bh DS->nP A Bd fa fb fc n (k+1)%p=if n=fc k then(nP A Bd fa fb fc n k%p+A.getD (fa k) 0*Bd.getD (fb k) 0%p)%p else nP A Bd fa fb fc n k%p:=fun k n _=>by
  show(nP A Bd fa fb fc n k+(if fc k=n then _ else 0))%p=_
  by_cases e:n=fc k
  ·rw[if_pos e.symm,if_pos e,<-zba]
  ·rw[if_neg (Ne.symm e),if_neg e,zaI]
 have gQ:∀n k,eU p (nP A Bd fa fb fc n k%p):=fun n k=>sP hm _;have Hj:∀k,∀(x:Int),(t8 (oU La Da J,cA DJ k)=some ((fa k:Nat):Int))/\(oW ((2,p,0),(La,Da,A),((fa k:Nat):Int))=some [A.getD (fa k) 0])/\
   (oW ((2,p,0),(Lb,Db,Bd),((fb k:Nat):Int))=some [Bd.getD (fb k) 0])/\(CX ((2,p,0),[x],[A.getD (fa k) 0],[Bd.getD (fb k) 0])=some [A.getD (fa k) 0*Bd.getD (fb k) 0%p])/\
   (∀c:aa,c.length=bh DS->vl ((2,p,0),(S,DS,c),((fc k:Nat):Int))=some (((fc k:Nat):Int),((fc k+1:Nat):Int))):=by
  intro k x;have h1:=oa k;have h2:=ob k;have h3:=oc k;refine⟨da k,?_,?_,?_,fun c cY=>?_⟩
  ·have:=show oW ((2,p,0),(La,Da,A),((fa k:Nat):Int))=_ from if_pos ⟨tc,by show(0:Int)<=((fa k:Nat):Int);omega,by show(((fa k:Nat):Int).toNat+1)*1<=A.length;rw[zac];omega,by show A.length<=_;omega⟩
   rw[this];show some (jw A (((fa k:Nat):Int).toNat*1) 1)=_;rw[zac,V4 h1]
  ·have:=show oW ((2,p,0),(Lb,Db,Bd),((fb k:Nat):Int))=_ from if_pos ⟨tc,by show(0:Int)<=((fb k:Nat):Int);omega,by show(((fb k:Nat):Int).toNat+1)*1<=Bd.length;rw[zac];omega,by show Bd.length<=_;omega⟩
   rw[this];show some (jw Bd (((fb k:Nat):Int).toNat*1) 1)=_;rw[zac,V4 h2]
  ·rw[<-apJ];exact if_pos ⟨tc,rfl,YX (ga k),YX (gb k)⟩
  ·have:=show vl ((2,p,0),(S,DS,c),((fc k:Nat):Int))=_ from if_pos ⟨tc,by show(0:Int)<=((fc k:Nat):Int);omega,by show(((fc k:Nat):Int).toNat+1)*1<=c.length;rw[zac];omega,by show c.length<=_;omega⟩
   rw[this];show some (((((fc k:Nat):Int).toNat*1:Nat):Int),(((((fc k:Nat):Int).toNat+1)*1:Nat):Int))=_;rw[zac,zai,zai]
 have nk:∀k,yt (((fc k:Nat):Int),((fc k+1:Nat):Int),(2,p,0),bu (bh DS) (fun n=>nP A Bd fa fb fc n k%p),[A.getD (fa k) 0*Bd.getD (fb k) 0%p])=some (bu (bh DS) (fun n=>nP A Bd fa fb fc n (k+1)%p)):=by
  intro k;have h3:=oc k;have hg:(bu (bh DS) (fun n=>nP A Bd fa fb fc n k%p)).getD (fc k) 0=nP A Bd fa fb fc (fc k) k%p:=by
   rw[zaa,lK _ h3];rfl
  have i1:=gQ (fc k) k;have i2:eU p (A.getD (fa k) 0*Bd.getD (fb k) 0%p):=sP hm _;unfold eU at i1 i2;rw[XJ (by rw[eO];exact h3) (by rw[eO];omega) (by omega) (by rw[hg];omega) (by omega),hg,wC];congr 1;refine gJ fun n hn=>?_;rw[xH k n hn];by_cases e:n=fc k
  ·rw[if_pos e,if_pos e,e]
  ·rw[if_neg e,if_neg e]
 have au8:True:=trivial;rw[fS (fun k=>((2,p,0),(La,Da,A),(Lb,Db,Bd),([]:aa),([]:aa),([]:aa),S,DS,bu (bh DS) (fun n=>nP A Bd fa fb fc n k%p),DJ,oU La Da J,oU Lb Db J,oU S DS J,cA DJ k,[if k=0 then 0 else A.getD (fa (k - 1)) 0*Bd.getD (fb (k - 1)) 0%p])) (bh DJ - 1) ?c1 ?c2 ?c3 (eP (by omega))]
 case c1=>
  intro k dj;dsimp only
  obtain⟨r1,r2,r3,r4,r5⟩:=Hj k (if k=0 then 0 else A.getD (fa (k - 1)) 0*Bd.getD (fb (k - 1)) 0%p)
  try simp only[aF,d6,bE]
  rw[r1]
  try simp only[aF,d6,bE]
  rw[r2]
  try simp only[aF,d6,bE]
  rw[db k]
  try simp only[aF,d6,bE]
  rw[r3]
  try simp only[aF,d6,bE]
  rw[r4]
  try simp only[aF,d6,bE]
  rw[dc k]
  try simp only[aF,d6,bE]
  rw[r5 _ (eO _ _)]
  try simp only[aF,d6,bE]
  have h3:=oc k;rw[IK (by omega) (by rw[lG];omega)]
  try simp only[aF]
  rw[show fc k+1 - fc k=1 by omega,qe _ h3]
  try simp only[aF]
  rw[W6 (by rw[lG];omega)]
  try simp only[aF]
  rw[show ae [if k=0 then 0 else A.getD (fa (k - 1)) 0*Bd.getD (fb (k - 1)) 0%p]=1 from rfl,FL]
  try simp only[aF]
  rw[show aS (fc k)=((fc k:Nat):Int) from rfl,show aS (aH (fc k) 1)=((fc k+1:Nat):Int) from rfl,nk k]
  try simp only[aF,d6,bE]
  rw[vP k (by omega)]
  try simp only[aF]
  rw[decide_eq_true (show k+1<bh DJ by omega),show fw true=false from rfl,jb,lV]
  try simp only[aF,bE]
  rw[show bk 0 (ae (cA DJ k)) (ae (cA DJ (k+1)))=some () from lV _ _ _,show bk 0 1 (ae [A.getD (fa k) 0*Bd.getD (fb k) 0%p])=some () from rfl]
  try simp only[aF]
  rw[if_neg (show k+1≠0 by omega),Nat.add_sub_cancel]
 case c2=>
  dsimp only
  obtain⟨k,dj⟩:∃k,bh DJ=k+1:=⟨bh DJ - 1,by omega⟩;rw[show bh DJ - 1=k by omega];obtain⟨r1,r2,r3,r4,r5⟩:=Hj k (if k=0 then 0 else A.getD (fa (k - 1)) 0*Bd.getD (fb (k - 1)) 0%p)
  try simp only[aF,d6,bE]
  rw[r1]
  try simp only[aF,d6,bE]
  rw[r2]
  try simp only[aF,d6,bE]
  rw[db k]
  try simp only[aF,d6,bE]
  rw[r3]
  try simp only[aF,d6,bE]
  rw[r4]
  try simp only[aF,d6,bE]
  rw[dc k]
  try simp only[aF,d6,bE]
  rw[r5 _ (eO _ _)]
  try simp only[aF,d6,bE]
  have h3:=oc k;rw[IK (by omega) (by rw[lG];omega)]
  try simp only[aF]
  rw[show fc k+1 - fc k=1 by omega,qe _ h3]
  try simp only[aF]
  rw[W6 (by rw[lG];omega)]
  try simp only[aF]
  rw[show ae [if k=0 then 0 else A.getD (fa (k - 1)) 0*Bd.getD (fb (k - 1)) 0%p]=1 from rfl,FL]
  try simp only[aF]
  rw[show aS (fc k)=((fc k:Nat):Int) from rfl,show aS (aH (fc k) 1)=((fc k+1:Nat):Int) from rfl,nk k]
  try simp only[aF,d6,bE]
  rw[vP k (by omega)]
  try simp only[aF]
  rw[decide_eq_false (show¬k+1<bh DJ by omega),show fw false=true from rfl,m7]
  try simp only[mr,aF]
  rw[show fg (bu (bh DS) fun n=>nP A Bd fa fb fc n (k+1)%p) (ae (bu (bh DS) fun n=>nP A Bd fa fb fc n k%p))=some (bu (bh DS) fun n=>nP A Bd fa fb fc n (k+1)%p) from agJ (by rw[lG,eO])]
  try simp only[aF]
  rw[<-dj]
  try rfl
 case c3=>
  rw[Fa];have e0:cA DJ 0=bu (ae J) fun _=>0:=by
   unfold cA;rw[HP];refine gJ fun i _=>?_;unfold gm;rw[Nat.zero_div,Nat.zero_mod];rfl
  rw[<-e0];have e1:(bu (bh DS) fun n=>nP A Bd fa fb fc n 0%p)=bu (bh DS) fun _=>0:=gJ fun n _=>by
   show(0:Int)%p=0;exact zaR p
  rw[e1];rfl
 try rfl
theorem af3 (f:Nat->Int) (m:Nat):∀n,sm (m+n) f=sm m f+sm n (fun j=>f (m+j))
 |0=>by simp[sm]
 |n+1=>by
  show sm (m+n) f+f (m+n)=_;rw[af3 f m n];simp only[sm];omega
theorem af1 (b:Nat) (F:Nat->Int):∀a,sm (a*b) F=sm a (fun i=>sm b (fun j=>F (i*b+j)))
 |0=>by rw[zbM];rfl
 |a+1=>by
  rw[zat,zaT,af3,af1 b F a];rfl
theorem aiE {T e u w v u0 w0 v0:Nat} (hw:w<T) (hv:v<e) (Sv:w0<T) (uL:v0<e) (h:(u*T+w)*e+v=(u0*T+w0)*e+v0):u=u0/\w=w0/\v=v0:=by
 have h1:u*T+w=u0*T+w0:=by rw[<-qX (i:=u*T+w) hv,h,qX uL]
 have h2:v=v0:=by rw[<-qY (i:=u*T+w) hv,h,qY uL]
 exact⟨by rw[<-qX (i:=u) hw,h1,qX Sv],by rw[<-qY (i:=u) hw,h1,qY Sv],h2⟩
structure Xd (S1:aa) (a:Int) (S2:aa) (b:Int):Prop where
 nd:(S1++a::S2++[b]).Nodup
theorem Xd.parts {S1 S2:aa} {a b:Int} (h:Xd S1 a S2 b):(S1++a::S2).Nodup/\(S1++S2++[b]).Nodup/\a∉S1/\a∉S2/\b∉S1/\b∉S2/\a≠b/\(S1++S2++[a]).Nodup:=by
 have h:=h.nd;simp only[zbu,List.nodup_cons,zaC,zbJ,zby,or_false,List.nodup_nil] at h⊢
 grind

def gd (L K R:Nat) (M:Nat->Nat->Nat->Int):aa:=bu (L*K*R) fun q=>M (q/R/K) (q/R%K) (q%R)
theorem GL (L K R:Nat) (M:Nat->Nat->Nat->Int):(gd L K R M).length=L*K*R:=eO _ _
theorem Tt (L K R:Nat) (M:Nat->Nat->Nat->Int):ae (gd L K R M)=L*K*R:=GL L K R M
theorem XY {L K R I v J:Nat} (hI:I<L) (hv:v<K) (hJ:J<R):(I*K+v)*R+J<L*K*R:=uO (uO hI hv) hJ
theorem aaw {L K R I v J:Nat} (M:Nat->Nat->Nat->Int) (hI:I<L) (hv:v<K) (hJ:J<R):(gd L K R M)[(I*K+v)*R+J]? =some (M I v J):=by
 unfold gd;rw[lK _ (XY hI hv hJ),qX hJ,qY hJ,qX hv,qY hv]
theorem GK {L K R:Nat} {M M':Nat->Nat->Nat->Int} (h:∀I v J,I<L->v<K->J<R->M I v J=M' I v J):gd L K R M=gd L K R M':=gJ fun q hq=>by
 obtain⟨q',J,rfl,gj,hJ⟩:=Fv hq;obtain⟨I,v,rfl,hI,hv⟩:=Fv gj;rw[qX hJ,qY hJ,qX hv,qY hv];exact h I v J hI hv hJ
def OU (M:Nat->Nat->Nat->Int) (I v J:Nat) (x:Int):Nat->Nat->Nat->Int:=fun a b c=>if a=I/\b=v/\c=J then x else M a b c
theorem ak7 {L K R I v J:Nat} (M:Nat->Nat->Nat->Int) (x:Int) (hI:I<L) (hv:v<K) (hJ:J<R):bK (gd L K R M) ((I*K+v)*R+J) x=gd L K R (OU M I v J x):=by
 unfold gd;rw[wC];refine gJ fun q hq=>?_;obtain⟨q',c,rfl,gj,hc⟩:=Fv hq;obtain⟨a,b,rfl,ha,hb⟩:=Fv gj;rw[qX hc,qY hc,qX hb,qY hb];unfold OU;by_cases e:a=I/\b=v/\c=J
 ·obtain⟨rfl,rfl,rfl⟩:=e;rw[if_pos rfl,if_pos ⟨rfl,rfl,rfl⟩]
 ·rw[if_neg e,if_neg fun h=>e (aiE hb hc hv hJ h)]
theorem asJ (L K R:Nat):dk (L*K*R) (0:Int)=gd L K R fun _ _ _=>0:=Fa _
theorem ak0 (L K R:Nat) (M M':Nat->Nat->Nat->Int):bk 0 (ae (gd L K R M)) (ae (gd L K R M'))=some ():=lV _ _ _
theorem J0 {a b:Nat} (h:a+b<=1099511627776):br .i64 (a:Int) (b:Int)=((a+b:Nat):Int):=by
 rw[fU (by omega) (by omega)];omega
def rh (p:Int) (dn ac tL tR:Nat) (T M:Nat->Nat->Nat->Int):Nat->Nat->Nat->Int:=fun I v J=>
 if dn<=I/\I<dn+tL/\ac<=J/\J<ac+tR then(M I v J+T (I - dn) v (J - ac))%p else M I v J
def nB (p:Int) (dn ac tR i v j:Nat) (T M:Nat->Nat->Nat->Int):Nat->Nat->Nat->Int:=fun I w J=>
 if dn<=I/\ac<=J/\J<ac+tR/\(I<dn+i\/(I=dn+i/\(w<v\/(w=v/\J<ac+j)))) then(M I w J+T (I - dn) w (J - ac))%p else M I w J
theorem asq {p:Int} {dn ac tR i v j:Nat} {T M:Nat->Nat->Nat->Int}:nB p dn ac tR i v j T M (dn+i) v (ac+j)=M (dn+i) v (ac+j):=if_neg (by omega)
theorem ast {p:Int} {L K R dn ac tR i v j:Nat} {T M:Nat->Nat->Nat->Int} (hj:j<tR):
  gd L K R (OU (nB p dn ac tR i v j T M) (dn+i) v (ac+j) ((M (dn+i) v (ac+j)+T i v j)%p))=gd L K R (nB p dn ac tR i v (j+1) T M):=GK fun a b c _ _ _=>by
 unfold OU;by_cases e:a=dn+i/\b=v/\c=ac+j
 ·obtain⟨rfl,rfl,rfl⟩:=e;rw[if_pos ⟨rfl,rfl,rfl⟩];unfold nB;rw[if_pos (by omega),za5,za5]
 ·rw[if_neg e];unfold nB;exact BH ⟨fun h=>by omega,fun h=>by omega⟩ _ _
theorem asu {p:Int} {L K R dn ac tR i v:Nat} {T M:Nat->Nat->Nat->Int}:gd L K R (nB p dn ac tR i v tR T M)=gd L K R (nB p dn ac tR i (v+1) 0 T M):=GK fun a b c _ _ _=>by
 unfold nB;exact BH ⟨fun h=>by omega,fun h=>by omega⟩ _ _
theorem ass {p:Int} {L K R dn ac tR i:Nat} {T M:Nat->Nat->Nat->Int}:gd L K R (nB p dn ac tR i K 0 T M)=gd L K R (nB p dn ac tR (i+1) 0 0 T M):=GK fun a b c _ hb _=>by
 unfold nB;exact BH ⟨fun h=>by omega,fun h=>by omega⟩ _ _
theorem asp {p:Int} {L K R dn ac tR:Nat} {T M:Nat->Nat->Nat->Int}:gd L K R (nB p dn ac tR 0 0 0 T M)=gd L K R M:=GK fun a b c _ hb _=>by
 unfold nB;exact if_neg (by omega)
theorem asr {p:Int} {L K R dn ac tL tR:Nat} {T M:Nat->Nat->Nat->Int}:gd L K R (nB p dn ac tR tL 0 0 T M)=gd L K R (rh p dn ac tL tR T M):=GK fun a b c _ hb _=>by
 unfold nB rh;exact BH ⟨fun h=>by omega,fun h=>by omega⟩ _ _
def Kh:ar:=[(.agg,[.int .i64,.int .i64,.int .i64,.list [.int .i64]]),(.one,[.int .i64]),(.one,[.int .i64]),(.ptr,[.int .i64,.int .i64,.int .i64,.list [.int .i64]]),(.ptr,[.int .i64])]
def US:ar:=[(.one,[.list [.int .i64]])]
def Nw:aU:=[[],[],[],[none,none,none,some .bc]]
def Jr (NN:Nat):((Int×(Int×(Int×aa)))×(Int×(Int×((Int×(Int×(Int×aa)))×Int))))->(Option aa):=
 (fun(((i0,i1,i2,l3),i4,i5,(i6,i7,i8,l9),fG):((Int×(Int×(Int×aa)))×(Int×(Int×((Int×(Int×(Int×aa)))×Int)))))=>
 ak l9 (
 cH NN (fun(((ie,eT,(gE,gB,gF,eG),gG,iI),ik,e9,fH,jF,gT):((Int×(Int×((Int×(Int×(Int×aa)))×(Int×Int))))×(aa×(Int×(Int×(Int×aa))))))=>
 aI (cL iI e9)
 (cm (ak ik (
 cH NN (fun(((fI,fA,(gZ,gS,jm,iU),ig,jn,jV),gU,kg,g0,kS,iK):((Int×(Int×((Int×(Int×(Int×aa)))×(Int×(Int×Int)))))×(aa×(Int×(Int×(Int×aa))))))=>
 aI (cL jV g0)
 (cm (ak gU (
 cH NN (fun(((lD,iJ,(jo,mg,ii,iw),iT,gN,jp,ij),mQ,pB,nY,rV,mR):((Int×(Int×((Int×(Int×(Int×aa)))×(Int×(Int×(Int×Int))))))×(aa×(Int×(Int×(Int×aa))))))=>
 aI (cL ij rV)
 ((dB (br .i64 (br .i64 (du .i64 (br .i64 (du .i64 (br .i64 lD gN) mg) jp) ii) iJ) ij) (ae mQ)).af (fun k53=>
 (cW mQ (aH 0 k53)).af (fun xN=>
 (t7 ((pB,nY,rV,mR),gN,jp,ij)).af (fun zt=>
 (iM (br .i64 xN zt) iT).af (fun vY=>
 (dB (br .i64 (br .i64 (du .i64 (br .i64 (du .i64 (br .i64 lD gN) mg) jp) ii) iJ) ij) (ae mQ)).af (fun Td=>
 (cW mQ (aH 0 Td)).af (fun BA=>
 (bk 0 (ae mQ) (ae (bK mQ (aH 0 Td) vY))).af (fun _=>
 some (Sum.inl ((lD,iJ,(jo,mg,ii,iw),iT,gN,jp,br .i64 ij 1),bK mQ (aH 0 Td) vY,pB,nY,rV,mR))))))))))
 ((ak mQ (
 some (Sum.inl ((jp,lD,iJ,(jo,mg,ii,iw),iT,gN),mQ,pB,nY,rV,mR)))).af (fun g7=>
 some (Sum.inr g7))))
 ((fI,fA,(gZ,gS,jm,iU),ig,jn,jV,(0:Int)),gU,kg,g0,kS,iK)))
 (fun((Hr,BB,uN,(vZ,i64,BC,zF),qm,BE),EF,zv,v5,tg,EH)=>
 ak EF (
 some (Sum.inl ((BB,uN,(vZ,i64,BC,zF),qm,BE,br .i64 Hr 1),EF,zv,v5,tg,EH)))))
 ((ak gU (
 some (Sum.inl ((jn,fI,fA,(gZ,gS,jm,iU),ig),gU,kg,g0,kS,iK)))).af (fun xT=>
 some (Sum.inr xT))))
 ((ie,eT,(gE,gB,gF,eG),gG,iI,(0:Int)),ik,e9,fH,jF,gT)))
 (fun((Es,Et,v7,(xO,BG,Hs,Tq),MK),wc,Ht,Eu,Ev,tn)=>
 ak wc (
 some (Sum.inl ((Et,v7,(xO,BG,Hs,Tq),MK,br .i64 Es 1),wc,Ht,Eu,Ev,tn)))))
 (((mU (ae ik) (ae l9)).af (fun _=>
 some ik)).af (fun pG=>
 some (Sum.inr pG))))
 ((i4,i5,(i6,i7,i8,l9),fG,(0:Int)),l9,i0,i1,i2,l3)))
def wO:((Int×(Int×(Int×aa)))×(Int×(Int×((Int×(Int×(Int×aa)))×Int))))->(Option aa):=Jr aM
theorem aj2 (x:((Int×(Int×(Int×aa)))×(Int×(Int×((Int×(Int×(Int×aa)))×Int))))) (z:aa) (h:wO x=some z):Jr aM x=some z:=h
def mE (K R:Nat) (d:aa):Nat->Nat->Nat->Int:=fun i v j=>dD R d (i*K+v) j
set_option maxHeartbeats 1000000 in
theorem XF {p:Int} {L K R dn ac tL tR:Nat} {M:Nat->Nat->Nat->Int} {td:aa} (hp:eW p) (hL:L<=64) (hK:K<=64) (hR:R<=64) (qP:dn+tL<=L) (hac:ac+tR<=R) (htd:td.length=tL*K*tR) (hT:gy p td)
  (hM:∀I v J,0<=M I v J/\M I v J<=1048576):
  wO (((tL:Int),(K:Int),(tR:Int),td),(dn:Int),(ac:Int),((L:Int),(K:Int),(R:Int),gd L K R M),p)=some (gd L K R (rh p dn ac tL tR (mE K tR td) M)):=by
 have h2:=hp.1;have h3:=hp.2;have cV:∀i v j,i<tL->v<K->j<tR->t7 (((tL:Int),(K:Int),(tR:Int),td),(i:Int),(v:Int),(j:Int))=some (mE K tR td i v j)/\eU p (mE K tR td i v j):=by
  intro i v j hi hv hj;refine⟨?_,?_⟩
  ·have:=show t7 (((tL:Int),(K:Int),(tR:Int),td),(i:Int),(v:Int),(j:Int))=_ from if_pos ⟨⟨⟨by show(0:Int)<=(tL:Int);omega,by show(tL:Int)<=64;omega⟩,⟨by show(0:Int)<=(K:Int);omega,by show(K:Int)<=64;omega⟩,⟨by show(0:Int)<=(tR:Int);omega,by show(tR:Int)<=64;omega⟩,by
    show(td.length:Int)=(tL:Int)*(K:Int)*(tR:Int);rw[htd];norm_cast⟩,⟨by show(0:Int)<=(i:Int);omega,by show(i:Int)<(tL:Int);omega⟩,⟨by show(0:Int)<=(v:Int);omega,by show(v:Int)<(K:Int);omega⟩,⟨by show(0:Int)<=(j:Int);omega,by show(j:Int)<(tR:Int);omega⟩⟩
   rw[this];rfl
  ·have:=Dk (r:=tL*K) (c:=tR) htd hT (i*K+v) (uO hi hv) j hj;exact this
 simp only[wO,Jr,ak]
 try simp only[bE,aF]
 have jk:∀i v j,i<tL->v<K->j<tR->br .i64 (br .i64 (du .i64 (br .i64 (du .i64 (br .i64 (dn:Int) (i:Int)) (K:Int)) (v:Int)) (R:Int)) (ac:Int)) (j:Int)=((((dn+i)*K+v)*R+(ac+j):Nat):Int):=by
  intro i v j hi hv hj;have b1:(dn+i)*K<=64*64:=zag (by omega) hK;have b2:((dn+i)*K+v)*R<=(64*64+64)*64:=zag (by omega) hR;rw[J0 (by omega),ES (by omega) (by omega),J0 (by omega),ES (by omega) (by omega),J0 (by omega),J0 (by omega),zbp]
 refine fS (fun i=>(((dn:Int),(ac:Int),((L:Int),(K:Int),(R:Int),gd L K R M),p,(i:Int)),gd L K R (nB p dn ac tR i 0 0 (mE K tR td) M),(tL:Int),(K:Int),(tR:Int),td)) tL ?a1 ?a2 ?a3 (eP (by omega))
 case a1=>
  intro i hi;dsimp only
  rw[bS (eB (by omega))]
  try simp only[bE,aF]
  rw[fS (fun v=>(((dn:Int),(ac:Int),((L:Int),(K:Int),(R:Int),gd L K R M),p,(i:Int),(v:Int)),gd L K R (nB p dn ac tR i v 0 (mE K tR td) M),(tL:Int),(K:Int),(tR:Int),td)) K ?b1 ?b2 ?b3 (eP (by omega))]
  case b1=>
   intro v hv;dsimp only
   rw[bS (eB (by omega))]
   try simp only[bE,aF]
   rw[fS (fun j=>(((dn:Int),(ac:Int),((L:Int),(K:Int),(R:Int),gd L K R M),p,(i:Int),(v:Int),(j:Int)),gd L K R (nB p dn ac tR i v j (mE K tR td) M),(tL:Int),(K:Int),(tR:Int),td)) tR ?c1 ?c2 ?c3 (eP (by omega))]
   case c1=>
    intro j hj;dsimp only
    have cD:=XY (L:=L) (K:=K) (R:=R) (I:=dn+i) (v:=v) (J:=ac+j) (by omega) hv (by omega);obtain⟨q1,q2⟩:=cV i v j hi hv hj;unfold eU at q2;have hm:=hM (dn+i) v (ac+j);rw[bS (eB (by omega)),jk i v j hi hv hj,rD (by show _<(gd L K R _).length;rw[GL];exact cD)]
    try simp only[aF]
    rw[ja,show cW (gd L K R (nB p dn ac tR i v j (mE K tR td) M)) (((dn+i)*K+v)*R+(ac+j))=some (M (dn+i) v (ac+j)) from(aaw _ (by omega) hv (by omega)).trans (by rw[asq])]
    try simp only[aF]
    rw[q1]
    try simp only[aF]
    rw[fU (by omega) (by omega),u5 (by omega) (by omega)]
    try simp only[aF]
    rw[ak7 _ _ (by omega) hv (by omega),ast hj,ak0]
    try simp only[aF]
    rw[iP (by omega)]
   case c2=>
    dsimp only
    rw[bN (d8 (by omega))]
    try simp only[bE,aF]
    try rfl
   case c3=>rfl
   simp only[cm,Option.bind]
   try simp only[bE,aF]
   rw[asu,iP (by omega)]
  case b2=>
   dsimp only
   rw[bN (d8 (by omega))]
   try simp only[bE,aF]
   try rfl
  case b3=>rfl
  simp only[cm,Option.bind]
  try simp only[bE,aF]
  rw[ass,iP (by omega)]
 case a2=>
  dsimp only
  rw[bN (d8 (by omega)),z6 (by rw[Tt,Tt])]
  try simp only[bE,aF]
  rw[asr]
 case a3=>rw[asp];rfl
def Kg:ar:=[(.one,[.int .i64]),(.agg,[.int .i64,.int .i64,.int .i64,.list [.int .i64]]),(.agg,[.int .i64,.int .i64,.int .i64,.list [.int .i64]]),(.one,[.bool]),(.one,[.bool])]
def UR:ar:=[(.agg,[.int .i64,.int .i64,.int .i64,.list [.int .i64]])]
def aoW:aU:=[]
def Jq (NN:Nat):(Int×((Int×(Int×(Int×aa)))×((Int×(Int×(Int×aa)))×(Bool×Bool))))->(Option (Int×(Int×(Int×aa)))):=
 (fun((i0,(i1,i2,i3,l4),(i5,i6,i7,l8),b9,m4):(Int×((Int×(Int×(Int×aa)))×((Int×(Int×(Int×aa)))×(Bool×Bool)))))=>
 cm (aI (b9)
 ((bk 0 0 (ae (([]:aa)))).af (fun _=>
 (bk 0 0 (ae (([]:aa)))).af (fun _=>
 some (Sum.inl ((m4,(0:Int),i3),i0,(i1,i2,i3,l4),(i5,i6,i7,l8),((0:Int),(0:Int),(0:Int)),((1:Int),i2,br .i64 i3 i7),([]:aa),([]:aa))))))
 ((bk 0 0 (ae (([]:aa)))).af (fun _=>
 (bk 0 0 (ae (([]:aa)))).af (fun _=>
 some (Sum.inl ((m4,i1,i3),i0,(i1,i2,i3,l4),(i5,i6,i7,l8),((0:Int),(0:Int),(0:Int)),(br .i64 i1 i5,i2,br .i64 i3 i7),([]:aa),([]:aa)))))))
 (fun((wY,eT,gE),gB,(gF,fY,gG,fR),(gM,e9,fH,eo),(jl,fI,fA),(gZ,gS,jm),iU,mO)=>
 cm (aI (wY)
 (ak iU (
 ak mO (
 some (Sum.inl ((eT,(0:Int)),gB,(gF,fY,gG,fR),(gM,e9,fH,eo),(jl,fI,fA),(gZ,gS,(1:Int)),iU,mO)))))
 (ak iU (
 ak mO (
 some (Sum.inl ((eT,gE),gB,(gF,fY,gG,fR),(gM,e9,fH,eo),(jl,fI,fA),(gZ,gS,jm),iU,mO))))))
 (fun((jn,jV),nr,(kg,g0,kS,iK),(lD,iJ,jo,jH),(ii,iS,iT),(gN,jp,ij),mQ,ra)=>
 (km (du .i64 (du .i64 gN jp) ij) (du .i64 (du .i64 gN jp) ij) 8).af (fun rY=>
 (bk 0 rY (ae (dk rY (0:Int)))).af (fun _=>
 (wO ((kg,g0,kS,iK),(0:Int),(0:Int),(gN,jp,ij,dk rY (0:Int)),nr)).af (fun nw=>
 (bk 0 rY (ae nw)).af (fun _=>
 (wO ((lD,iJ,jo,jH),jn,jV,(gN,jp,ij,nw),nr)).af (fun mR=>
 (fg mR rY).af (fun n5=>
 some (gN,jp,ij,n5))))))))))
def Au:(Int×((Int×(Int×(Int×aa)))×((Int×(Int×(Int×aa)))×(Bool×Bool))))->(Option (Int×(Int×(Int×aa)))):=Jq aM
theorem aj1 (x:(Int×((Int×(Int×(Int×aa)))×((Int×(Int×(Int×aa)))×(Bool×Bool))))) (z:(Int×(Int×(Int×aa)))) (h:Au x=some z):Jq aM x=some z:=h
def vq (p:Int) (dn ac L1 R1 L2 R2 K:Nat) (d1 d2:aa):Nat->Nat->Nat->Int:=rh p dn ac L2 R2 (mE K R2 d2) (rh p 0 0 L1 R1 (mE K R1 d1) fun _ _ _=>0)
def oy (p:Int) (x y:bf) (fst pH:Bool):bf:=
 let L1:=x.1.toNat;let K:=x.2.1.toNat;let R1:=x.2.2.1.toNat;let L2:=y.1.toNat;let R2:=y.2.2.1.toNat
 let LO:=if fst=true then 1 else L1+L2
 let RO:=if pH=true then 1 else R1+R2
 ((LO:Int),(K:Int),(RO:Int),gd LO K RO (vq p (if fst=true then 0 else L1) (if pH=true then 0 else R1) L1 R1 L2 R2 K x.2.2.2 y.2.2.2))
def fE (x y:Int×List bf):List bf:=(List.range x.2.length).map fun k=>oy x.1 (x.2.getD k bO) (y.2.getD k bO) (decide (k=0)) (decide (k+1=x.2.length))
def PR (x y:Int×List bf):(Int×List bf)×Bool:=if j7 x y=true then(if fV (x.1,fE x y)=true then((x.1,fE x y),true) else((0,[]),false)) else((0,[]),false)
def Xh:(Int×List bf)×(Int×List bf)->Option ((Int×List bf)×Bool):=fun x=>if tS x.1<=1048576/\tS x.2<=1048576 then some (PR x.1 x.2) else none
def As:(Int×List bf)×(Int×List bf)->Option ((Int×List bf)×Bool):=Xh
def J2:ar:=[(.agg,[.int .i64,.list [.int .i64,.int .i64,.int .i64,.list [.int .i64]]]),(.agg,[.int .i64,.list [.int .i64,.int .i64,.int .i64,.list [.int .i64]]])]
def UD:ar:=[(.agg,[.int .i64,.list [.int .i64,.int .i64,.int .i64,.list [.int .i64]]]),(.one,[.bool])]
def aoK:aU:=[]
def Pb (NN:Nat):((Int×(List (Int×(Int×(Int×aa)))))×(Int×(List (Int×(Int×(Int×aa))))))->(Option ((Int×(List (Int×(Int×(Int×aa)))))×Bool)):=
 (fun(((i0,l1),i2,l3):((Int×(List (Int×(Int×(Int×aa)))))×(Int×(List (Int×(Int×(Int×aa)))))))=>
 (yy ((i0,l1),i2,l3)).af (fun b4=>
 aI (fw b4)
 (some (((0:Int),([]:List (Int×(Int×(Int×aa))))),false))
 (cm ((bk 0 0 (ae (([]:List (Int×(Int×(Int×aa))))))).af (fun _=>
 (bk 0 0 (ae (([]:List (Int×(Int×(Int×aa))))))).af (fun _=>
 cH NN (fun(((l5,i6,i7),(i8,l9),(fG,eE),eT,gE,dQ,fv):(((List (Int×(Int×(Int×aa))))×(Int×Int))×((Int×(List (Int×(Int×(Int×aa)))))×((Int×(List (Int×(Int×(Int×aa)))))×(Int×(Int×((List (Int×(Int×(Int×aa))))×(List (Int×(Int×(Int×aa)))))))))))=>
 aI (cL i7 i6)
 ((di l5 i7).af (fun(fY,gG,iI,ik)=>
 (di eE i7).af (fun(e9,fH,jF,gT)=>
 (Au (i8,(fY,gG,iI,ik),(e9,fH,jF,gT),c7 i7 (0:Int),c7 i7 (lL .i64 (aS (ae l9)) (1:Int)))).af (fun(fI,fA,gZ,qn)=>
 (fg qn (ae qn)).af (fun kl=>
 ak fv (
 (bk 0 1 (ae (((fI,fA,gZ,kl)::([]:List (Int×(Int×(Int×aa)))))))).af (fun _=>
 (mG (aH (ae fv) (ae (((fI,fA,gZ,kl)::([]:List (Int×(Int×(Int×aa)))))))) 48).af (fun _=>
 ak dQ (
 (bk 0 (aH (ae fv) (ae (((fI,fA,gZ,kl)::([]:List (Int×(Int×(Int×aa)))))))) (ae (fj fv (((fI,fA,gZ,kl)::([]:List (Int×(Int×(Int×aa))))))))).af (fun _=>
 some (Sum.inl ((l5,i6,br .i64 i7 1),(i8,l9),(fG,eE),eT,gE,dQ,fj fv (((fI,fA,gZ,kl)::([]:List (Int×(Int×(Int×aa))))))))))))))))))
 ((ak dQ (
 ak fv (
 some (Sum.inl (eT,gE,dQ,fv))))).af (fun iU=>
 some (Sum.inr iU))))
 ((l1,aS (ae l1),(0:Int)),(i0,l1),(i2,l3),(0:Int),i0,([]:List (Int×(Int×(Int×aa)))),([]:List (Int×(Int×(Int×aa))))))))
 (fun(ig,jn,jY,gU)=>
 (cM gU 0 (ae gU)).af (fun nv=>
 (sC (jn,nv)).af (fun b35=>
 aI (fw b35)
 (some (((0:Int),([]:List (Int×(Int×(Int×aa))))),false))
 ((fg gU (ae gU)).af (fun jt=>
 some ((jn,jt),true)))))))))
theorem PS {p:Int} (hp:eW p) {dn ac L R:Nat} {T M:Nat->Nat->Nat->Int} (h:∀I v J,eU p (M I v J)):∀I v J,eU p (rh p dn ac L R T M I v J):=fun I v J=>by
 unfold rh;split
 ·exact sP hp _
 ·exact h I v J
theorem XC {p:Int} (hp:eW p):eU p 0:=by
 have:=hp.1;exact⟨Int.le_refl 0,by omega⟩
theorem aht {p:Int} (hp:eW p) {x:Int} (h:eU p x):0<=x/\x<=1048576:=by
 have h1:=h.1;have h2:=h.2;have:=hp.2;omega
structure Xz (p:Int) (x y:bf) (fst pH:Bool):Prop where
 ex:∃(L1 L2 K R1 R2:Nat) (d1 d2:aa),x=((L1:Int),(K:Int),(R1:Int),d1)/\y=((L2:Int),(K:Int),(R2:Int),d2)/\L1<=32/\L2<=32/\(1<=K/\K<=8)/\R1<=32/\R2<=32/\d1.length=L1*K*R1/\d2.length=L2*K*R2/\gy p d1/\gy p d2/\
  (fst=true->L1=1/\L2=1)/\(pH=true->R1=1/\R2=1)
theorem XA {p:Int} (hp:eW p) {x y:bf} {fst pH:Bool} (h:Xz p x y fst pH):Au (p,x,y,fst,pH)=some (oy p x y fst pH)/\(oy p x y fst pH).2.2.2.length<=32768:=by
  obtain⟨L1,L2,K,R1,R2,d1,d2,rfl,rfl,h1,h2,h3,h4,h5,h6,h7,h8,h9,hf,hl⟩:=h.ex;have fin:∀(LO RO dn ac:Nat),L1<=LO->R1<=RO->dn+L2<=LO->ac+R2<=RO->LO<=64->RO<=64->
      ((km (du .i64 (du .i64 (LO:Int) (K:Int)) (RO:Int)) (du .i64 (du .i64 (LO:Int) (K:Int)) (RO:Int)) 8).af fun(rY:Nat)=>
            (bk 0 rY (ae (dk rY (0:Int)))).af fun(_:Unit)=>
              (wO (((L1:Int),(K:Int),(R1:Int),d1),(0:Int),(0:Int),((LO:Int),(K:Int),(RO:Int),dk rY (0:Int)),p)).af fun(nw:aa)=>
                (bk 0 rY (ae nw)).af fun(_:Unit)=>
                  (wO (((L2:Int),(K:Int),(R2:Int),d2),(dn:Int),(ac:Int),((LO:Int),(K:Int),(RO:Int),nw),p)).af fun(mR:aa)=>
                    (fg mR rY).af fun(n5:aa)=>
                      some ((LO:Int),(K:Int),(RO:Int),n5))=some ((LO:Int),(K:Int),(RO:Int),gd LO K RO (vq p dn ac L1 R1 L2 R2 K d1 d2)):=by
    intro LO RO dn ac a1 a2 a3 a4 a5 a6;have b1:LO*K<=64*8:=zag a5 h3.2;have b2:LO*K*RO<=64*8*64:=zag b1 a6;rw[ES (by omega) (by omega),ES (by omega) (by omega),show km ((LO*K*RO:Nat):Int) ((LO*K*RO:Nat):Int) 8=some (LO*K*RO) from uU (by simp only[fe];omega)]
    try simp only[aF]
    rw[show bk 0 (LO*K*RO) (ae (dk (LO*K*RO) (0:Int)))=some () from vH (by simp[ae,dk])]
    try simp only[aF]
    have e1:=XF (p:=p) (L:=LO) (K:=K) (R:=RO) (dn:=0) (ac:=0) (tL:=L1) (tR:=R1) (M:=fun _ _ _=>0) (td:=d1) hp a5 (by omega) a6 (by omega) (by omega) h6 h8 (fun _ _ _=>⟨by decide,by decide⟩);rw[show((0:Nat):Int)=0 from rfl] at e1
    rw[asJ,e1]
    try simp only[aF]
    rw[show bk 0 (LO*K*RO) (ae (gd LO K RO (rh p 0 0 L1 R1 (mE K R1 d1) fun _ _ _=>0)))=some () from by rw[Tt];exact bE _]
    try simp only[aF]
    rw[XF hp a5 (by omega) a6 a3 a4 h7 h9 (fun I v J=>aht hp (PS hp (fun _ _ _=>XC hp) I v J))]
    try simp only[aF]
    rw[agJ (GL _ _ _ _)];rfl
  have hlen:∀LO RO M,LO<=64->RO<=64->(gd LO K RO M).length<=32768:=fun LO RO M a5 a6=>by
    rw[GL];have b1:LO*K<=64*8:=zag a5 h3.2;have b2:LO*K*RO<=64*8*64:=zag b1 a6;omega
  simp only[Au,Jq,oy,zac,ak]
  try simp only[Rj,aF]
  rw[J1 (by omega),J1 (by omega)];cases fst with
  |true=>
   obtain⟨rfl,rfl⟩:=hf rfl;rw[m7];simp only[cm,Option.bind];cases pH with
   |true=>
    obtain⟨rfl,rfl⟩:=hl rfl;rw[m7]
    try simp only[bE,aF,cm,Option.bind]
    refine⟨?_,hlen _ _ _ (by decide) (by decide)⟩;exact fin 1 1 0 0 (by omega) (by omega) (by omega) (by omega) (by omega) (by omega)
   |false=>
    rw[jb]
    try simp only[bE,aF,cm,Option.bind]
    refine⟨?_,hlen _ _ _ (by decide) (by simp;omega)⟩;exact fin 1 (R1+R2) 0 R1 (by omega) (by omega) (by omega) (by omega) (by omega) (by omega)
  |false=>
   rw[jb];simp only[cm,Option.bind];cases pH with
   |true=>
    obtain⟨rfl,rfl⟩:=hl rfl;rw[m7]
    try simp only[bE,aF,cm,Option.bind]
    refine⟨?_,hlen _ _ _ (by simp;omega) (by decide)⟩;exact fin (L1+L2) 1 L1 0 (by omega) (by omega) (by omega) (by omega) (by omega) (by omega)
   |false=>
    rw[jb]
    try simp only[bE,aF,cm,Option.bind]
    refine⟨?_,hlen _ _ _ (by simp;omega) (by simp;omega)⟩;exact fin (L1+L2) (R1+R2) L1 R1 (by omega) (by omega) (by omega) (by omega) (by omega) (by omega)
theorem yK {x y:Int×List bf} (h:j7 x y=true):fV x=true/\fV y=true/\x.1=y.1/\aV x.2=aV y.2:=by
 unfold j7 at h;simp only[zaj,decide_eq_true_eq] at h;exact⟨h.1,h.2.1,h.2.2.1,h.2.2.2⟩
theorem JX {x y:Int×List bf} (h:j7 x y=true) {k:Nat} (hk:k<x.2.length):Xz x.1 (x.2.getD k bO) (y.2.getD k bO) (decide (k=0)) (decide (k+1=x.2.length))/\y.2.length=x.2.length:=by
 obtain⟨h1,h2,hp,hd⟩:=yK h;obtain⟨p,l⟩:=x;obtain⟨p',l'⟩:=y;have hp:p=p':=hp;subst hp;have hd:aV l=aV l':=hd;have hlen:l'.length=l.length:=by rw[<-gw,<-hd,gw]
 have hk:k<l.length:=hk;refine⟨⟨?_⟩,hlen⟩;obtain⟨L1,K,R1,d1,_,e1,a1,a2,a3,a4,a5⟩:=XS h1 hk;obtain⟨L2,K2,R2,d2,_,e2,b1,b2,b3,b4,b5⟩:=XS h2 (show k<l'.length by omega);have hK:K2=K:=by
  have q1:=rG l k;have q2:=rG l' k;rw[hd,q2,e1,e2] at q1;have q1:(K2:Int)=(K:Int):=q1;omega
 subst hK;have c1:=Ch.of h1;have c2:=Ch.of h2;refine⟨L1,L2,K2,R1,R2,d1,d2,e1,e2,a1,b1,a3,a2,b2,a4,b4,a5,b5,fun hf=>?_,fun hl=>?_⟩
 ·have Mw:=of_decide_eq_true hf;subst Mw;have q1:=c1.fst;have q2:=c2.fst;rw[e1] at q1;rw[e2] at q2;have q1:(L1:Int)=1:=q1;have q2:(L2:Int)=1:=q2;omega
 ·have qR:k+1=l.length:=of_decide_eq_true hl;have q1:=c1.pH;have q2:=c2.pH;rw[show l.length - 1=k by omega,e1] at q1;rw[show l'.length - 1=k by omega,e2] at q2;have q1:(R1:Int)=1:=q1;have q2:(R2:Int)=1:=q2;omega
theorem ahs {x y:Int×List bf} (h:j7 x y=true):tS (x.1,fE x y)<=1048576:=by
 obtain⟨h1,_⟩:=yK h;have h8:=(vw (m:=x.1) (l:=x.2) h1).2.1;have hp:eW x.1:=fQ (vw (m:=x.1) (l:=x.2) h1).1;show(fE x y).length+((fE x y).map tT).sum<=_;have hl:(fE x y).length=x.2.length:=by unfold fE;simp
 have cI:∀l:List bf,(∀e∈l,tT e<=32768)->(l.map tT).sum<=l.length*32768:=by
  intro l;induction l with
  |nil=>intro _;simp
  |cons a l ih=>
   intro hl;have h1:=hl a zbr;have h2:=ih fun e he=>hl e (zbi _ he);rw[zal,zaK,zae,zat];omega
 have:=cI (fE x y) fun e he=>by
  unfold fE at he;obtain⟨k,hk,rfl⟩:=zaw.1 he;exact(XA hp (JX h (zav.1 hk)).1).2
 rw[hl] at this⊢;omega
theorem ahu {α:Type} (f:Nat->α) (n:Nat):fj ((List.range n).map f) (f n::[])=(List.range (n+1)).map f:=by
 rw[zbA,zan];rfl
theorem ajN (x:(Int×List bf)×(Int×List bf)) (z:(Int×List bf)×Bool) (h:As x=some z):Pb aM x=some z:=by
 obtain⟨⟨p,l⟩,p',l'⟩:=x;simp only[As,Xh] at h;split at h
 rotate_left
 ·cases h
 ·rename_i cX;injection h with h;subst h;simp only[Pb,ak];rw[show yy ((p,l),(p',l'))=some (j7 (p,l) (p',l')) from if_pos cX]
  try simp only[aF]
  unfold PR;cases GP:j7 (p,l) (p',l') with
  |false=>rfl
  |true=>
   rw[if_pos rfl,show fw true=false from rfl,jb]
   obtain⟨h1,h2,hp,hd⟩:=yK GP;have hpk:eW p:=fQ (vw h1).1;have h8:=(vw h1).2.1
   try simp only[Rj,aF]
   rw[fS (fun k=>((l,(l.length:Int),(k:Int)),(p,l),(p',l'),(0:Int),p,([]:List bf),(List.range k).map fun k=>oy p (l.getD k bO) (l'.getD k bO) (decide (k=0)) (decide (k+1=l.length)))) l.length ?a1 ?a2 ?a3 (eP (by omega))]
   case a1=>
    intro k hk;dsimp only
    obtain⟨ht,eN⟩:=JX GP hk;have eN:l'.length=l.length:=eN;obtain⟨e1,e2⟩:=XA hpk ht;rw[bS (eB (by omega)),fq,getD_some bO hk,fq,getD_some bO (show k<l'.length by omega)]
    try simp only[aF]
    have ef:c7 (k:Int) 0=decide (k=0):=by rw[Gs];exact decide_eq_decide.2 (by omega)
    have el:c7 (k:Int) (lL .i64 (aS (ae l)) 1)=decide (k+1=l.length):=by
     rw[su (by unfold aS ae;omega) (by unfold aS ae;omega),Gs];exact decide_eq_decide.2 (by unfold aS ae;omega)
    have e1:Au (p,((l.getD k bO).1,(l.getD k bO).2.1,(l.getD k bO).2.2.1,(l.getD k bO).2.2.2),((l'.getD k bO).1,(l'.getD k bO).2.1,(l'.getD k bO).2.2.1,(l'.getD k bO).2.2.2),decide (k=0),decide (k+1=l.length))=some (oy p (l.getD k bO) (l'.getD k bO) (decide (k=0)) (decide (k+1=l.length))):=e1;rw[ef,el,e1]
    try simp only[aF,mr,bE]
    rw[show bk 0 1 (ae (((oy p (l.getD k bO) (l'.getD k bO) (decide (k=0)) (decide (k+1=l.length))).1,(oy p (l.getD k bO) (l'.getD k bO) (decide (k=0)) (decide (k+1=l.length))).2.1,(oy p (l.getD k bO) (l'.getD k bO) (decide (k=0)) (decide (k+1=l.length))).2.2.1,(oy p (l.getD k bO) (l'.getD k bO) (decide (k=0)) (decide (k+1=l.length))).2.2.2)::([]:List bf)))=some () from rfl]
    try simp only[aF]
    rw[rO (by simp only[aH,ae,zao,za3,zae,zah,fe];omega)]
    try simp only[aF,Rj,bE]
    rw[GI]
    try simp only[aF]
    rw[iP (by omega),<-ahu]
   case a2=>
    dsimp only
    rw[bN (d8 (by omega))]
    try simp only[bE,aF]
    try rfl
   case a3=>rfl
   simp only[cm,Option.bind]
   try simp only[aF,d6]
   have gi:sC (p,fE (p,l) (p',l'))=some (fV (p,fE (p,l) (p',l'))):=if_pos (ahs GP);rw[show((List.range l.length).map fun k=>oy p (l.getD k bO) (l'.getD k bO) (decide (k=0)) (decide (k+1=l.length)))=fE (p,l) (p',l') from rfl,gi]
   try simp only[aF]
   cases fV (p,fE (p,l) (p',l')) with
   |false=>rfl
   |true=>
    rw[show fw true=false from rfl,jb,mr]
    rfl

def KJ:ar:=[(.one,[.list [.int .i64]]),(.one,[.list [.int .i64]])]
def Vk:ar:=[(.one,[.bool])]
def apk:aU:=[]
def JA (NN:Nat):(aa×aa)->(Option Bool):=
 (fun((l0,l1):(aa×aa))=>
 aI (mn (aS (ae l1)) (aS (ae l0)))
 (some false)
 (cm (cH NN (fun((l2,l3,l4,i5,i6):(aa×(aa×(aa×(Int×Int)))))=>
 aI (cL i6 i5)
 ((di l4 i6).af (fun i7=>
 (j0 (0:Int) i6 (ae l3)).af (fun(k8,k9)=>
 (pW (jw l3 k8 k9,i7)).af (fun m4=>
 aI (m4)
 (some (Sum.inr (Sum.inr false)))
 ((pW (l2,i7)).af (fun wY=>
 aI (fw wY)
 (some (Sum.inr (Sum.inr false)))
 (some (Sum.inl (l2,l3,l4,i5,br .i64 i6 1)))))))))
 (some (Sum.inr (Sum.inl ()))))
 (l0,l1,l1,aS (ae l1),(0:Int)))
 (fun _=>
 some true)))
def C2:(aa×aa)->(Option Bool):=JA aM
theorem aku (x:(aa×aa)) (z:Bool) (h:C2 x=some z):JA aM x=some z:=h
def Ki:ar:=[(.agg,[.int .i64,.int .i64,.int .i64]),(.agg,[.list [.int .i64],.list [.int .i64],.list [.int .i64]]),(.agg,[.list [.int .i64],.list [.int .i64],.list [.int .i64]])]
def UT:ar:=[(.agg,[.list [.int .i64],.list [.int .i64],.list [.int .i64]]),(.one,[.bool])]
def aoX:aU:=[]
def Js (NN:Nat):((Int×(Int×Int))×((aa×(aa×aa))×(aa×(aa×aa))))->(Option ((aa×(aa×aa))×Bool)):=
 (fun(((i0,i1,i2),(l3,l4,l5),l6,l7,l8):((Int×(Int×Int))×((aa×(aa×aa))×(aa×(aa×aa)))))=>
 (sD ((i0,i1,i2),l3,l4,l5)).af (fun b9=>
 aI (fw b9)
 (some ((([]:aa),([]:aa),([]:aa)),false))
 ((sD ((i0,i1,i2),l6,l7,l8)).af (fun m4=>
 aI (fw m4)
 (some ((([]:aa),([]:aa),([]:aa)),false))
 ((C2 (l3,l6)).af (fun wY=>
 aI (fw wY)
 (some ((([]:aa),([]:aa),([]:aa)),false))
 ((CY ((i0,i1,i2),(l6,l7,l8),l3)).af (fun(fJ,ed,dQ)=>
 (cM ed 0 (ae ed)).af (fun fv=>
 (yw (l4,fv)).af (fun b16=>
 aI (fw b16)
 (some ((([]:aa),([]:aa),([]:aa)),false))
 ((fg fJ (ae fJ)).af (fun dm=>
 (fg ed (ae ed)).af (fun fR=>
 (fg dQ (ae dQ)).af (fun ik=>
 some ((dm,fR,ik),true)))))))))))))))
def CQ:((Int×(Int×Int))×((aa×(aa×aa))×(aa×(aa×aa))))->(Option ((aa×(aa×aa))×Bool)):=Js aM
theorem aj3 (x:((Int×(Int×Int))×((aa×(aa×aa))×(aa×(aa×aa))))) (z:((aa×(aa×aa))×Bool)) (h:CQ x=some z):Js aM x=some z:=h
theorem att {n k:Nat} (hk:k<n):di (bz n) (k:Int)=some (k:Int):=ala _ hk
theorem atu {n k:Nat} (hk:k<n):(k:Int)∈bz n:=by
 have:=ir (l:=bz n) (i:=k) (by rw[show(bz n).length=n from eO _ _];exact hk)
 rw[Cs hk] at this;exact this
theorem atv {n k:Nat} (hk:k<n):(k:Int)∉(bz n).take k:=fun h=>by
 obtain⟨j,hj,e⟩:=List.getElem_of_mem h;rw[zau] at hj;have h1:j<k:=by omega
 have h2:(bz n).getD j 0=(j:Int):=Cs (by omega);rw[zbt] at e;rw[zaa,zab (by rw[show(bz n).length=n from eO _ _];omega)] at h2
 have h3:(j:Int)=(k:Int):=by rw[<-e];exact h2.symm
 omega
theorem atc {n:Nat} (hn:n<=12):C2 (bz n,bz n)=some true:=by
 have hl:ae (bz n)=n:=lG _ _;have eN:(bz n).length=n:=eO _ _;simp only[C2,JA];rw[show mn (aS (ae (bz n))) (aS (ae (bz n)))=false from bne_self_eq_false _,jb]
 rw[fS (fun k=>(bz n,bz n,bz n,aS (ae (bz n)),(k:Int))) n ?c1 ?c2 ?c3 (by show n<aM;exact Nat.lt_of_le_of_lt hn (by decide))]
 case c1=>
  intro k hk;dsimp only
  rw[show cL (k:Int) (aS (ae (bz n)))=true from eB (by rw[hl];show(k:Int)<(n:Int);omega),m7,att hk]
  try simp only[aF]
  rw[show j0 (0:Int) (k:Int) (ae (bz n))=some (0,k - 0) from IK (a:=0) (by omega) (by rw[hl];omega)]
  try simp only[aF]
  rw[show pW (jw (bz n) 0 (k - 0),(k:Int))=some (decide ((k:Int)∈jw (bz n) 0 (k - 0))) from if_pos (by dsimp only;unfold jw;rw[zau,List.length_drop];omega)]
  try simp only[aF]
  rw[show decide ((k:Int)∈jw (bz n) 0 (k - 0))=false from decide_eq_false (by unfold jw;rw[Nat.sub_zero];exact atv hk),jb]
  rw[show pW (bz n,(k:Int))=some (decide ((k:Int)∈bz n)) from if_pos (by dsimp only;omega),decide_eq_true (atu hk)]
  try simp only[aF]
  rw[show fw true=false from rfl,jb]
  rw[show br .i64 (k:Int) (1:Int)=((k+1:Nat):Int) from J1 (y:=1) (by omega)]
 case c2=>
  dsimp only
  rw[show cL (n:Int) (aS (ae (bz n)))=false from d8 (by rw[hl];show(n:Int)<=(n:Int);omega),jb]
 case c3=>rfl
 rfl
theorem ar0 {p:Int} {D A:aa} (ht:jz (2,p,0) (bz D.length,D,A)=true):zP (2,p,0) (bz D.length,D,A) (bz D.length)=(bz D.length,D,A):=by
 have h:=at2 ht;unfold OI at h;rw[if_pos ht,show pR (bz D.length,D,A).1 (bz D.length,D,A).1.length=bz D.length from by show pR (bz D.length) (bz D.length).length=_;rw[show(bz D.length).length=D.length from eO _ _];exact V8 _] at h
 exact h
theorem ahF {p:Int} {D A B:aa} (ha:jz (2,p,0) (bz D.length,D,A)=true) (hb:jz (2,p,0) (bz D.length,D,B)=true):
  CQ ((2,p,0),(bz D.length,D,A),bz D.length,D,B)=some ((bz D.length,D,B),true):=by
 obtain⟨_,⟨Ly,_⟩,_,⟨_,hP⟩,hA,_⟩:=yj ha;obtain⟨_,_,_,_,hB,_⟩:=yj hb;rw[show cB (2,p,0)=1 from rfl,zai] at hA hB
 have hs:(bz D.length).length=D.length:=eO _ _;simp only[CQ,Js];rw[show sD ((2,p,0),bz D.length,D,A)=some (jz (2,p,0) (bz D.length,D,A)) from if_pos ⟨by dsimp only;omega,by dsimp only;omega,by dsimp only;omega⟩,ha]
 try simp only[aF]
 rw[show fw true=false from rfl,jb,show sD ((2,p,0),bz D.length,D,B)=some (jz (2,p,0) (bz D.length,D,B)) from if_pos ⟨by dsimp only;omega,by dsimp only;omega,by dsimp only;omega⟩,hb]
 try simp only[aF]
 rw[show fw true=false from rfl,jb,atc Ly]
 try simp only[aF]
 rw[show fw true=false from rfl,jb,show CY ((2,p,0),(bz D.length,D,B),bz D.length)=some (zP (2,p,0) (bz D.length,D,B) (bz D.length)) from if_pos ⟨hb,by show bz D.length=pR (bz D.length) (bz D.length).length;rw[hs];exact(V8 _).symm⟩,ar0 hb]
 try simp only[aF,d6]
 rw[show yw (D,D)=some (decide (D=D)) from if_pos ⟨by dsimp only;omega,by dsimp only;omega⟩,decide_eq_true rfl]
 try simp only[aF]
 rw[show fw true=false from rfl,jb]
 try simp only[mr,aF]
def J3:ar:=[(.agg,[.int .i64,.int .i64,.int .i64]),(.agg,[.list [.int .i64],.list [.int .i64],.list [.int .i64]]),(.agg,[.list [.int .i64],.list [.int .i64],.list [.int .i64]])]
def UE:ar:=[(.agg,[.list [.int .i64],.list [.int .i64],.list [.int .i64]]),(.one,[.bool])]
def aoL:aU:=[]
def Jl (NN:Nat):((Int×(Int×Int))×((aa×(aa×aa))×(aa×(aa×aa))))->(Option ((aa×(aa×aa))×Bool)):=
 (fun(((i0,i1,i2),(l3,l4,l5),l6,l7,l8):((Int×(Int×Int))×((aa×(aa×aa))×(aa×(aa×aa)))))=>
 (CQ ((i0,i1,i2),(l3,l4,l5),l6,l7,l8)).af (fun((l9,c8,eE),Lc)=>
 aI (fw Lc)
 (some ((([]:aa),([]:aa),([]:aa)),false))
 (cm ((bk 0 0 (ae (([]:aa)))).af (fun _=>
 (bk 0 0 (ae (([]:aa)))).af (fun _=>
 (bk 0 0 (ae (([]:aa)))).af (fun _=>
 ak l9 (
 ak c8 (
 ak eE (
 cH NN (fun((gE,(gB,gF,fY),(dm,fR,ik),kj,gI,eo,gT,jr,kH):(Int×((Int×(Int×Int))×((aa×(aa×aa))×(aa×(aa×(aa×(aa×(aa×aa)))))))))=>
 (cM jr 0 (ae jr)).af (fun kI=>
 (vk kI).af (fun gS=>
 aI (cL gE gS)
 ((cM gT 0 (ae gT)).af (fun kl=>
 (cM jr 0 (ae jr)).af (fun iU=>
 ak kH (
 (vl ((gB,gF,fY),(kl,iU,kH),gE)).af (fun(ig,jn)=>
 (j0 ig jn (ae kH)).af (fun(zD,zE)=>
 (oW ((gB,gF,fY),(dm,fR,ik),gE)).af (fun nv=>
 (cW kH zD).af (fun g0=>
 (cM kH zD zE).af (fun jt=>
 ak kH (
 (yt (aS zD,aS (aH zD zE),(gB,gF,fY),kH,nv)).af (fun iK=>
 ak kj (
 ak gI (
 ak eo (
 ak gT (
 ak jr (
 (bk 0 (ae kH) (ae iK)).af (fun _=>
 some (Sum.inl (br .i64 gE 1,(gB,gF,fY),(dm,fR,ik),kj,gI,eo,gT,jr,iK)))))))))))))))))))
 ((ak kj (
 ak gI (
 ak eo (
 ak gT (
 ak jr (
 ak kH (
 some (Sum.inl (kj,gI,eo,gT,jr,kH))))))))).af (fun lE=>
 some (Sum.inr lE))))))
 ((0:Int),(i0,i1,i2),(l3,l4,l5),([]:aa),([]:aa),([]:aa),l9,c8,eE))))))))
 (fun(pF,qq,jH,mP,iw,iy)=>
 (fg mP (ae mP)).af (fun oN=>
 (fg iw (ae iw)).af (fun jZ=>
 (fg iy (ae iy)).af (fun oO=>
 some ((oN,jZ,oO),true))))))))
def yp:((Int×(Int×Int))×((aa×(aa×aa))×(aa×(aa×aa))))->(Option ((aa×(aa×aa))×Bool)):=Jl aM
theorem ajO (x:((Int×(Int×Int))×((aa×(aa×aa))×(aa×(aa×aa))))) (z:((aa×(aa×aa))×Bool)) (h:yp x=some z):Jl aM x=some z:=h
set_option maxHeartbeats 1000000 in
theorem ahA {p:Int} {D:aa} {f g:Nat->Int} (hf:∀k,eU p (f k)) (hg:∀k,eU p (g k)) (ha:jz (2,p,0) (bz D.length,D,bu (bh D) f)=true) (hb:jz (2,p,0) (bz D.length,D,bu (bh D) g)=true):
  yp ((2,p,0),(bz D.length,D,bu (bh D) f),bz D.length,D,bu (bh D) g)=some ((bz D.length,D,bu (bh D) fun n=>(f n+g n)%p),true):=by
 obtain⟨tc,⟨Ly,dd⟩,_,⟨hP1,hP⟩,_,_⟩:=yj ha;have hp:=hf 0;unfold eU at hp;simp only[yp,Jl,ak];rw[ahF ha hb]
 try simp only[aF,bE]
 rw[show fw true=false from rfl,jb]
 let st:Nat->aa:=fun k=>bu (bh D) fun n=>if n<k then(f n+g n)%p else g n
 have kQ:∀k,ae (st k)=bh D:=fun k=>lG _ _;have hPI:=uZ (D:=D) fun x hx=>(dd x hx).1;have cr:vk D=some (bh D:Int):=by rw[<-hPI];exact if_pos ⟨Ly,dd⟩
 have e0:bu (bh D) g=st 0:=gJ fun n _=>(if_neg (by omega)).symm;rw[e0];simp only[show bk 0 0 (ae ([]:aa))=some () from rfl,aF,bE]
 rw[fS (fun k=>((k:Int),(2,p,0),(bz D.length,D,bu (bh D) f),([]:aa),([]:aa),([]:aa),bz D.length,D,st k)) (bh D) ?c1 ?c2 ?c3 (Nat.lt_of_le_of_lt hP (by decide))]
 case c1=>
  intro k hk;dsimp only
  try simp only[d6,aF]
  rw[cr]
  try simp only[aF]
  rw[eB (by omega),m7]
  try simp only[d6,bE,aF]
  have hl:(st k).length=bh D:=eO _ _;have r1:vl ((2,p,0),(bz D.length,D,st k),(k:Int))=some ((k:Int),((k+1:Nat):Int)):=by
   have:=show vl ((2,p,0),(bz D.length,D,st k),(k:Int))=_ from if_pos ⟨tc,by show(0:Int)<=(k:Int);omega,by show((k:Int).toNat+1)*1<=(st k).length;rw[zac];omega,by show(st k).length<=_;omega⟩
   rw[this];show some ((((k:Int).toNat*1:Nat):Int),((((k:Int).toNat+1)*1:Nat):Int))=_;rw[zac,zai,zai]
  have ni:(bu (bh D) f).length=bh D:=eO _ _;have r2:oW ((2,p,0),(bz D.length,D,bu (bh D) f),(k:Int))=some [f k]:=by
   have:=show oW ((2,p,0),(bz D.length,D,bu (bh D) f),(k:Int))=_ from if_pos ⟨tc,by show(0:Int)<=(k:Int);omega,by show((k:Int).toNat+1)*1<=(bu (bh D) f).length;rw[zac];omega,by show(bu (bh D) f).length<=_;omega⟩
   rw[this];show some (jw (bu (bh D) f) ((k:Int).toNat*1) 1)=_;rw[zac,V4 (by omega),zaa,lK _ hk];rfl
  rw[r1]
  try simp only[aF]
  rw[IK (by omega) (by rw[kQ];omega)]
  try simp only[aF]
  rw[r2]
  try simp only[aF]
  rw[show k+1 - k=1 by omega,qe _ hk]
  try simp only[aF]
  rw[W6 (by rw[kQ];omega)]
  try simp only[aF]
  have hg0:(st k).getD k 0=g k:=by
   rw[zaa,lK _ hk];exact if_neg (by omega)
  have i1:=hg k;have i2:=hf k;have i3:p<=1048576:=by
   have h:=tc;have e:jO (2,p,0)=(dJ p&&decide ((0:Int)=0)):=rfl;rw[e] at h;have h2:dJ p=true:=by simpa using h
   have:=(fQ h2).2;omega
  unfold eU at i1 i2;rw[show aS k=(k:Int) from rfl,show aS (aH k 1)=((k+1:Nat):Int) from rfl,XJ (by rw[hl];exact hk) (by rw[hl];omega) (by omega) (by rw[hg0];omega) (by omega),hg0,wC]
  have e1:(bu (bh D) fun q=>if q=k then(g k+f k)%p else if q<k then(f q+g q)%p else g q)=st (k+1):=gJ fun q _=>by
   by_cases e:q=k
   ·rw[if_pos e,if_pos (by omega),e,Int.add_comm]
   ·rw[if_neg e];by_cases e':q<k
    ·rw[if_pos e',if_pos (by omega)]
    ·rw[if_neg e',if_neg (by omega)]
  rw[e1]
  try simp only[aF,bE]
  rw[show bk 0 (ae (st k)) (ae (st (k+1)))=some () from lV _ _ _]
  try simp only[aF]
  rw[show br .i64 (k:Int) (1:Int)=((k+1:Nat):Int) from J1 (y:=1) (by omega)]
 case c2=>
  dsimp only
  try simp only[d6,aF]
  rw[cr]
  try simp only[aF]
  rw[d8 (by omega),jb]
  try simp only[bE,aF]
 case c3=>rfl
 have e2:st (bh D)=bu (bh D) fun n=>(f n+g n)%p:=gJ fun n hn=>if_pos hn;rw[e2];simp only[cm,Option.bind]
 try simp only[mr,aF]
theorem JZ {x y:Int×List bf} {k:Nat} (hk:k<x.2.length):(fE x y).getD k bO=oy x.1 (x.2.getD k bO) (y.2.getD k bO) (decide (k=0)) (decide (k+1=x.2.length)):=by
 unfold fE;rw[zaa,zak,zaV hk];rfl
theorem afU {L K R:Nat} {M:Nat->Nat->Nat->Int} {v I J:Nat} (hI:I<L) (hv:v<K) (hJ:J<R):qB ((L:Int),(K:Int),(R:Int),gd L K R M) v I J=M I v J:=by
 rw[atK];unfold dD;rw[zaa,aaw M hI hv hJ];rfl
theorem XB {p:Int} {dn ac L1 R1 L2 R2 K:Nat} {d1 d2:aa} {I v J:Nat}:
  bV p (vq p dn ac L1 R1 L2 R2 K d1 d2 I v J) ((if I<L1/\J<R1 then mE K R1 d1 I v J else 0)+(if dn<=I/\I<dn+L2/\ac<=J/\J<ac+R2 then mE K R2 d2 (I - dn) v (J - ac) else 0)):=by
 have h0:bV p (rh p 0 0 L1 R1 (mE K R1 d1) (fun _ _ _=>0) I v J) (if I<L1/\J<R1 then mE K R1 d1 I v J else 0):=by
  unfold rh;by_cases h:I<L1/\J<R1
  ·rw[if_pos ⟨by omega,by omega,by omega,by omega⟩,if_pos h];refine vD.trans ?_;exact Gt (zaP _)
  ·rw[if_neg h];rw[if_neg (by omega)];exact bV.refl _ _
 show bV p (rh p dn ac L2 R2 (mE K R2 d2) (rh p 0 0 L1 R1 (mE K R1 d1) fun _ _ _=>0) I v J) _;generalize rh p 0 0 L1 R1 (mE K R1 d1) (fun _ _ _=>0)=N at h0⊢;unfold rh;split
 ·exact vD.trans (bV.add h0 (bV.refl _ _))
 ·rw[zaI];exact h0
theorem ah7 {bL bM ac R1 R2 J:Nat} (l m a b:Nat->Int):
  sm (bL+bM) (fun t=>((if t<bL then l t else 0)+(if bL<=t/\t<bL+bM then m (t - bL) else 0))*((if t<bL/\J<R1 then a t else 0)+(if bL<=t/\t<bL+bM/\ac<=J/\J<ac+R2 then b (t - bL) else 0)))=
  (if J<R1 then sm bL (fun t=>l t*a t) else 0)+(if ac<=J/\J<ac+R2 then sm bM (fun t=>m t*b t) else 0):=by
 rw[afZ];congr 1
 ·by_cases h:J<R1
  ·rw[if_pos h];refine ku fun t ht=>?_;rw[if_pos ht,if_neg (by omega),if_pos ⟨ht,h⟩,if_neg (by omega),zaI,zaI]
  ·rw[if_neg h];refine Ab _ fun t ht=>?_;rw[if_neg (show¬(t<bL/\J<R1) from fun q=>h q.2),if_neg (show¬(bL<=t/\t<bL+bM/\ac<=J/\J<ac+R2) by omega),zaI,zar]
 ·by_cases h:ac<=J/\J<ac+R2
  ·rw[if_pos h];refine ku fun t ht=>?_;rw[if_neg (by omega),if_pos (by omega),if_neg (by omega),if_pos (by omega),zaP,zaP,show bL+t - bL=t by omega]
  ·rw[if_neg h];refine Ab _ fun t ht=>?_;rw[if_neg (show¬(bL+t<bL/\J<R1) by omega),if_neg (show¬(bL<=bL+t/\bL+t<bL+bM/\ac<=J/\J<ac+R2) from fun q=>h q.2.2),zaI,zar]
def mZ (L:List bf) (i:Nat):Nat:=if i=L.length then 0 else cg L i
theorem JY {p:Int} {L M:List bf} {i:Nat} (hi:1<=i) (hn:i<=L.length):cg (fE (p,L) (p,M)) i=if i=L.length then 1 else cg L i+cg M i:=by
 obtain⟨k,rfl⟩:∃k,i=k+1:=⟨i - 1,by omega⟩;show((fE (p,L) (p,M)).getD k bO).2.2.1.toNat=_;rw[JZ (x:=(p,L)) (show k<L.length by omega)];show(((if decide (k+1=L.length)=true then 1 else(L.getD k bO).2.2.1.toNat+(M.getD k bO).2.2.1.toNat:Nat):Int)).toNat=_
 rw[zac];by_cases h:k+1=L.length
 ·rw[if_pos h,if_pos (decide_eq_true h)]
 ·rw[if_neg h,if_neg (by simpa using h)];rfl
theorem LJ {p:Int} {c:Prop} [Decidable c] {a b:Int} (h:bV p a b):bV p (if c then a else 0) (if c then b else 0):=by
 split
 ·exact h
 ·exact bV.refl _ _
theorem EK {p:Int} {L:List bf} {D:aa} {k L1 K R1 a v J:Nat} {d1:aa} (e:L.getD k bO=((L1:Int),(K:Int),(R1:Int),d1)) (hD:D.getD k 0=(K:Int)) (hv:v<K):
  bV p (lN p L D (k+1) (a*K+v) J) (sm L1 (fun t=>lN p L D k a t*mE K R1 d1 t v J)):=by
 have hK:(D.getD k 0).toNat=K:=by rw[hD];exact zac _
 have:=HQ (m:=p) (l:=L) (D:=D) (i:=k) (u:=a) (v:=v) (j:=J) (by rw[hK];exact hv);rw[hK,e] at this;exact this
theorem auf {p:Int} {L M:List bf} (h:j7 (p,L) (p,M)=true):∀k,k<L.length->∀u J,J<cg (fE (p,L) (p,M)) (k+1)->
  bV p (lN p (fE (p,L) (p,M)) (aV L) (k+1) u J) ((if J<cg L (k+1) then lN p L (aV L) (k+1) u J else 0)+(if mZ L (k+1)<=J/\J<mZ L (k+1)+cg M (k+1) then lN p M (aV L) (k+1) u (J - mZ L (k+1)) else 0)):=by
 intro k;induction k with
 |zero=>
  intro hk u J hJ;rw[JY (zaf _) hk] at hJ;obtain⟨⟨L1,L2,K,R1,R2,d1,d2,e1,e2,_,_,hK,_,_,_,_,_,_,hf,hl⟩,_⟩:=JX (x:=(p,L)) (y:=(p,M)) h hk;have e1:L.getD 0 bO=((L1:Int),(K:Int),(R1:Int),d1):=e1;have e2:M.getD 0 bO=((L2:Int),(K:Int),(R2:Int),d2):=e2;have hD:(aV L).getD 0 0=(K:Int):=by rw[rG,e1]
  obtain⟨rfl,rfl⟩:=hf (decide_eq_true rfl);have b1:cg L (0+1)=R1:=by show(L.getD 0 bO).2.2.1.toNat=_;rw[e1];exact zac _
  have b2:cg M (0+1)=R2:=by show(M.getD 0 bO).2.2.1.toNat=_;rw[e2];exact zac _
  have hv:u%K<K:=zaS _ (by omega);have hu:u=u/K*K+u%K:=(Nat.div_add_mod' u K).symm;generalize u/K=a at hu;generalize u%K=v at hu hv;subst hu;rw[b1,b2] at hJ⊢;have eS:=JZ (x:=(p,L)) (y:=(p,M)) hk;have eS:(fE (p,L) (p,M)).getD 0 bO=_:=eS;have QF:(fE (p,L) (p,M)).getD 0 bO=(((1:Nat):Int),(K:Int),((if 0+1=L.length then 1 else R1+R2:Nat):Int),gd 1 K (if 0+1=L.length then 1 else R1+R2) (vq p 0 (mZ L (0+1)) 1 R1 1 R2 K d1 d2)):=by
   rw[eS];show oy p (L.getD 0 bO) (M.getD 0 bO) (decide (0=0)) (decide (0+1=L.length))=_;rw[e1,e2];unfold oy mZ;simp only[zac,b1];by_cases q:0+1=L.length
   ·simp[q]
   ·simp[q]
  have z:=EK (p:=p) (D:=aV L) (a:=a) (J:=J) QF hD hv;refine z.trans ?_;have z1:=EK (p:=p) (D:=aV L) (a:=a) (J:=J) e1 hD hv;have z2:=EK (p:=p) (D:=aV L) (a:=a) (J:=J - mZ L (0+1)) e2 hD hv;refine bV.trans ?_ (bV.add (LJ z1) (LJ z2)).symm;have s1:∀f:Nat->Int,sm 1 f=f 0:=fun f=>by show 0+f 0=f 0;exact zaP _
  rw[s1,s1,s1];have one:∀(X:List bf) (t:Nat),lN p X (aV L) 0 a t=1:=fun _ _=>rfl;rw[one,one,one,zbE,zbE,zbE];have g:mE K (if 0+1=L.length then 1 else R1+R2) (gd 1 K (if 0+1=L.length then 1 else R1+R2) (vq p 0 (mZ L (0+1)) 1 R1 1 R2 K d1 d2)) 0 v J=vq p 0 (mZ L (0+1)) 1 R1 1 R2 K d1 d2 0 v J:=afU (L:=1) (by omega) hv hJ
  rw[g];refine XB.trans (Gt ?_);congr 1
  ·by_cases q:J<R1
   ·rw[if_pos ⟨by omega,q⟩,if_pos q]
   ·rw[if_neg q,if_neg fun w=>q w.2]
  ·by_cases q:mZ L (0+1)<=J/\J<mZ L (0+1)+R2
   ·rw[if_pos q,if_pos ⟨by omega,by omega,q⟩]
   ·rw[if_neg q,if_neg fun w=>q w.2.2]
 |succ k ih=>
  intro hk u J hJ;rw[JY (by omega) hk] at hJ;obtain⟨⟨L1,L2,K,R1,R2,d1,d2,e1,e2,_,_,hK,_,_,_,_,_,_,hf,hl⟩,_⟩:=JX (x:=(p,L)) (y:=(p,M)) h hk;have e1:L.getD (k+1) bO=((L1:Int),(K:Int),(R1:Int),d1):=e1;have e2:M.getD (k+1) bO=((L2:Int),(K:Int),(R2:Int),d2):=e2;obtain⟨h1,h2,_,ji⟩:=yK h;have ji:aV L=aV M:=ji;have hlen:M.length=L.length:=by rw[<-gw,<-ji,gw]
  have l1:cg L (k+1)=L1:=by rw[<-(Ch.of h1).left hk,e1];exact zac _
  have l2:cg M (k+1)=L2:=by rw[<-(Ch.of h2).left (by rw[hlen];exact hk),e2];exact zac _
  have hD:(aV L).getD (k+1) 0=(K:Int):=by rw[rG,e1]
  have b1:cg L (k+1+1)=R1:=by show(L.getD (k+1) bO).2.2.1.toNat=_;rw[e1];exact zac _
  have b2:cg M (k+1+1)=R2:=by show(M.getD (k+1) bO).2.2.1.toNat=_;rw[e2];exact zac _
  have hv:u%K<K:=zaS _ (by omega);have hu:u=u/K*K+u%K:=(Nat.div_add_mod' u K).symm;generalize u/K=a at hu;generalize u%K=v at hu hv;subst hu;rw[b1,b2] at hJ⊢;have eS:=JZ (x:=(p,L)) (y:=(p,M)) hk;have QF:(fE (p,L) (p,M)).getD (k+1) bO=(((L1+L2:Nat):Int),(K:Int),((if k+1+1=L.length then 1 else R1+R2:Nat):Int),gd (L1+L2) K (if k+1+1=L.length then 1 else R1+R2) (vq p L1 (mZ L (k+1+1)) L1 R1 L2 R2 K d1 d2)):=by
   rw[eS];show oy p (L.getD (k+1) bO) (M.getD (k+1) bO) (decide (k+1=0)) (decide (k+1+1=L.length))=_;rw[e1,e2];unfold oy mZ;simp only[zac,b1];by_cases q:k+1+1=L.length
   ·simp[q]
   ·simp[q]
  have z:=EK (p:=p) (D:=aV L) (a:=a) (J:=J) QF hD hv;refine z.trans ?_;have z1:=EK (p:=p) (D:=aV L) (a:=a) (J:=J) e1 hD hv;have z2:=EK (p:=p) (D:=aV L) (a:=a) (J:=J - mZ L (k+1+1)) e2 hD hv;refine bV.trans ?_ (bV.add (LJ z1) (LJ z2)).symm;rw[<-ah7 (bL:=L1) (bM:=L2) (ac:=mZ L (k+1+1)) (R1:=R1) (R2:=R2) (J:=J) (fun t=>lN p L (aV L) (k+1) a t) (fun t=>lN p M (aV L) (k+1) a t)];refine m9 fun t ht=>?_;refine bV.mul ?_ ?_
  ·have aE:¬k+1=L.length:=by omega
   have:=ih (by omega) a t (by rw[JY (by omega) (by omega),if_neg aE,l1,l2];exact ht);rw[show mZ L (k+1)=L1 from by unfold mZ;rw[if_neg aE,l1],l1,l2] at this
   exact this
  ·have g:mE K (if k+1+1=L.length then 1 else R1+R2) (gd (L1+L2) K (if k+1+1=L.length then 1 else R1+R2) (vq p L1 (mZ L (k+1+1)) L1 R1 L2 R2 K d1 d2)) t v J=vq p L1 (mZ L (k+1+1)) L1 R1 L2 R2 K d1 d2 t v J:=afU (L:=L1+L2) ht hv hJ
   rw[g];exact XB
theorem agF {p:Int} {L M:List bf} (h:j7 (p,L) (p,M)=true) (n:Nat) (hd:aV (fE (p,L) (p,M))=aV L):g9 p (fE (p,L) (p,M)) n=(g9 p L n+g9 p M n)%p:=by
 obtain⟨h1,h2,_,ji⟩:=yK h;have ji:aV L=aV M:=ji;have hlen:M.length=L.length:=by rw[<-gw,<-ji,gw]
 have xx:(fE (p,L) (p,M)).length=L.length:=by rw[<-gw,hd,gw]
 have hp:dJ p=true:=(vw h1).1;have hn:=(Ch.of h1).len;obtain⟨k,hk⟩:∃k,L.length=k+1:=⟨L.length - 1,by omega⟩;refine Y4 ?_ (Jd hp _ _) (sP (fQ hp) _);refine bV.trans ?_ vD.symm;have:=auf h k (by omega) n 0 (by rw[JY (by omega) (by omega),if_pos hk.symm];omega);rw[show mZ L (k+1)=0 from if_pos hk.symm,<-hk,(Ch.of h1).last,if_pos (by omega),show cg M L.length=1 from by rw[<-hlen];exact(Ch.of h2).last,if_pos (by omega)] at this
 unfold g9;rw[xx,hd,hlen,<-ji];exact this
theorem XH {m:Int} (X:Nat->bF) (i j:Nat):∀v,bV m (ue m X v i j) (sm v (fun w=>X w i j))
 |0=>bV.refl _ _
 |v+1=>vD.trans (bV.add (XH X i j v) (bV.refl _ _))
theorem amK (P sL tL:Nat) (s t:Nat->Int) (l n:bF):
  sm tL (fun τ=>sm sL (fun σ=>s σ*sm P (fun u=>l u σ*n u τ))*t τ)=sm P (fun u=>sm sL (fun σ=>l u σ*s σ)*sm tL (fun τ=>n u τ*t τ)):=by
 have e1:∀τ,sm sL (fun σ=>s σ*sm P (fun u=>l u σ*n u τ))=sm P (fun u=>sm sL (fun σ=>s σ*l u σ)*n u τ):=fun τ=>by
  have:=af4 sL P s (fun u=>n u τ) l;rw[show(fun σ=>s σ*sm P (fun u=>l u σ*n u τ))=fun σ=>s σ*sm P (fun u=>n u τ*l u σ) from funext fun σ=>by congr 1;exact ku fun u _=>zaB _ _,this]
  exact ku fun u _=>zaB _ _
 rw[show(fun τ=>sm sL (fun σ=>s σ*sm P (fun u=>l u σ*n u τ))*t τ)=fun τ=>t τ*sm P (fun u=>sm sL (fun σ=>s σ*l u σ)*n u τ) from funext fun τ=>by rw[e1,zaB],af4 tL P t (fun u=>sm sL (fun σ=>s σ*l u σ)) n]
 refine ku fun u _=>?_;rw[show(fun σ=>s σ*l u σ)=fun σ=>l u σ*s σ from funext fun σ=>zaB _ _,show(fun τ=>t τ*n u τ)=fun τ=>n u τ*t τ from funext fun τ=>zaB _ _]
theorem amJ {p:Int} {D:aa} {L N:List bf} (h:Ch p D L) (h':Ch p D N):∀i,i<=L.length->∀a b,bV p (oM p L N i a b) (sm (lY D i) (fun u=>lN p L D i u a*lN p N D i u b)):=by
 intro i;induction i with
 |zero=>intro _ a b;exact bV.refl _ _
 |succ i ih=>
  intro hi a b;have hK:(L.getD i bO).2.1.toNat=(D.getD i 0).toNat:=by rw[h.aiO]
  show bV p (ue p (Hy p (L.getD i bO) (N.getD i bO) (oM p L N i)) (L.getD i bO).2.1.toNat a b) (sm (lY D i*(D.getD i 0).toNat) _);rw[af1,hK,IP];refine(XH _ _ _ _).trans (m9 fun v hv=>?_);unfold Hy;refine(TO _ _ _ _ _ _).trans ?_;refine bV.trans (m9 (g:=fun τ=>sm (L.getD i bO).1.toNat (fun σ=>qB (L.getD i bO) v σ a*sm (lY D i) (fun u=>lN p L D i u σ*lN p N D i u τ))*qB (N.getD i bO) v τ b) fun τ _=>bV.mul ?_ (bV.refl _ _)) ?_
  ·refine(TO _ _ _ _ _ _).trans (m9 fun σ _=>?_);exact bV.mul (bV.refl _ _) (ih (by omega) σ τ)
  ·rw[amK];refine m9 fun u _=>?_;exact(bV.mul (HQ hv) (HQ hv)).symm
theorem alr (D:aa):lY D D.length=bh D:=by
 have:=head_tail D D.length (zaf _);rw[rn,zai] at this;exact this
theorem SQ {p:Int} {L N:List bf} (h:j7 (p,L) (p,N)=true):wL ((p,L),p,N)=some (sm (bh (aV L)) (fun n=>g9 p L n*g9 p N n)%p,true):=by
 obtain⟨h1,h2,_,ji⟩:=yK h;have ji:aV L=aV N:=ji;have hlen:N.length=L.length:=by rw[<-gw,<-ji,gw]
 have c2:=Ch.of h2;rw[<-ji] at c2;have hp:eW p:=fQ (vw h1).1;rw[show wL ((p,L),p,N)=some (MT (p,L) (p,N)) from if_pos ⟨Ih h1,Ih h2⟩]
 rw[show MT (p,L) (p,N)=(oM p L N L.length 0 0,true) from if_pos h]
 congr 2;refine Y4 ?_ (abi hp _ _ _ _ _) (sP hp _);refine bV.trans ?_ vD.symm;have:=amJ (Ch.of h1) c2 L.length (zaf _) 0 0;rw[show lY (aV L) L.length=bh (aV L) from by rw[<-alr,gw]] at this
 unfold g9;rw[hlen,<-ji];exact this
theorem ahv {p:Int} (hp:eW p) {dn ac L1 R1 L2 R2 K:Nat} {d1 d2:aa}:∀I v J,eU p (vq p dn ac L1 R1 L2 R2 K d1 d2 I v J):=
 PS hp (PS hp fun _ _ _=>XC hp)
theorem FB {p:Int} {L M:List bf} (h:j7 (p,L) (p,M)=true) {k:Nat} (hk:k<L.length):
  ∃d,(fE (p,L) (p,M)).getD k bO=(((if k=0 then 1 else(L.getD k bO).1.toNat+(M.getD k bO).1.toNat:Nat):Int),(((L.getD k bO).2.1.toNat:Nat):Int),((if k+1=L.length then 1 else(L.getD k bO).2.2.1.toNat+(M.getD k bO).2.2.1.toNat:Nat):Int),d)/\
   d.length=(if k=0 then 1 else(L.getD k bO).1.toNat+(M.getD k bO).1.toNat)*(L.getD k bO).2.1.toNat*(if k+1=L.length then 1 else(L.getD k bO).2.2.1.toNat+(M.getD k bO).2.2.1.toNat)/\gy p d:=by
 have hp:=fQ (vw (yK h).1).1;have hp:eW p:=hp;have e:=JZ (x:=(p,L)) (y:=(p,M)) hk;unfold oy at e;simp only[decide_eq_true_eq] at e;exact⟨_,e,GL _ _ _ _,UA fun _=>ahv hp _ _ _⟩
theorem OL {p:Int} {L M:List bf} (h:j7 (p,L) (p,M)=true) (hB:Bd L) (hB':Bd M):fV (p,fE (p,L) (p,M))=true/\aV (fE (p,L) (p,M))=aV L:=by
 obtain⟨h1,h2,_,ji⟩:=yK h;have ji:aV L=aV M:=ji;have hlen:M.length=L.length:=by rw[<-gw,<-ji,gw]
 have xx:(fE (p,L) (p,M)).length=L.length:=by unfold fE;simp
 have c1:=Ch.of h1;have c2:=Ch.of h2;obtain⟨cr,h8,hP⟩:=vw h1;have hd:aV (fE (p,L) (p,M))=aV L:=Gy (by rw[gw,gw,xx]) fun k hk=>by
  rw[gw,xx] at hk;obtain⟨d,e,_⟩:=FB h hk;obtain⟨b,q,c,d',e',_,_,hq,_⟩:=Ol (c1.fit.1 k hk);rw[rG,rG,e,e'];show(((q:Int).toNat:Nat):Int)=(q:Int);rw[zac]
 refine⟨Ch.ok ⟨⟨fun k hk=>?_,fun k hk=>?_⟩,hd,by rw[xx];exact c1.len,?_,?_⟩ cr (by rw[xx];exact h8) hP,hd⟩
 ·rw[xx] at hk;obtain⟨d,e,l,a⟩:=FB h hk;obtain⟨b1,b2,b3⟩:=hB k hk;obtain⟨g1,g2,g3⟩:=hB' k (by rw[hlen];exact hk);obtain⟨b,q,c,d',e',_,_,hq,_⟩:=Ol (c1.fit.1 k hk);have gj:(L.getD k bO).2.1.toNat=q:=by rw[e'];exact zac _
  rw[e];exact IH (by split<;>omega) (by split<;>omega) (by omega) l a
 ·rw[xx] at hk;obtain⟨d,e,_⟩:=FB h (show k<L.length by omega);obtain⟨d',e',_⟩:=FB h hk;rw[e,e'];show((if k+1=0 then 1 else _+_:Nat):Int)=((if k+1=L.length then 1 else _+_:Nat):Int)
  rw[if_neg (by omega),if_neg (by omega),c1.fit.2 k hk,c2.fit.2 k (by rw[hlen];exact hk)]
 ·obtain⟨d,e,_⟩:=FB h (show 0<L.length from c1.len)
  rw[e];rfl
 ·have:=c1.len;obtain⟨d,e,_⟩:=FB h (show L.length - 1<L.length by omega);rw[xx,e];show((if L.length - 1+1=L.length then 1 else _+_:Nat):Int)=1
  rw[if_pos (by omega)];rfl
theorem Dj {p:Int} {L M:List bf} (h:DC p L) (h':DC p M) (hd:aV L=aV M):j7 (p,L) (p,M)=true:=by
 unfold j7;rw[h.ok,h'.ok];simp[hd]
theorem ahx {p:Int} {L M:List bf} (h:DC p L) (h':DC p M) (hd:aV L=aV M):As ((p,L),p,M)=some ((p,fE (p,L) (p,M)),true):=by
 have ha:=Dj h h' hd;have hs:=(OL ha h.b4 h'.b4).1;rw[show As ((p,L),p,M)=some (PR (p,L) (p,M)) from if_pos ⟨Ih h.ok,Ih h'.ok⟩]
 show some (if j7 (p,L) (p,M)=true then(if fV (p,fE (p,L) (p,M))=true then((p,fE (p,L) (p,M)),true) else((0,[]),false)) else((0,[]),false))=_
 rw[if_pos ha,if_pos hs]
theorem ahz {p:Int} {L M:List bf} (h:DC p L) (h':DC p M) (hd:aV L=aV M):yp ((2,p,0),gL p L,gL p M)=some (gL p (fE (p,L) (p,M)),true):=by
 have ha:=Dj h h' hd;obtain⟨hs,za⟩:=OL ha h.b4 h'.b4;have t1:=h.I5;have t2:=h'.I5;rw[CJ] at t1 t2;rw[<-hd] at t2;rw[CJ,CJ,CJ,<-hd,ahA (fun k=>Jd h.pr L k) (fun k=>Jd h.pr M k) t1 t2,za];congr 4;exact gJ fun n _=>(agF ha n za).symm
theorem aiA {p:Int} {L N:List bf} (h:DC p L) (h':DC p N) (hd:aV L=aV N):
  yq ((2,p,0),gL p L,gL p N,[])=some (([],[],[sm (bh (aV L)) (fun n=>g9 p L n*g9 p N n)%p]),true):=by
 have t1:=h.I5;have t2:=h'.I5;rw[CJ] at t1 t2⊢;rw[CJ];rw[<-hd] at t2⊢;generalize aV L=D at t1 t2⊢;obtain⟨_,⟨Ly,dd⟩,_,⟨hP1,hP⟩,_,hG,_⟩:=yj t1;have hl:(bz D.length).length=D.length:=eO _ _;have nS:(bz D.length).Nodup:=F6 (I6 t1).1;have hJ:jL (bz D.length) (bz D.length)=bz D.length:=by
  unfold jL;rw[List.filter_eq_nil_iff.2 fun x hx=>by simp[hx],zaL]
 have D3:(bz D.length).map (jd (bz D.length) D (bz D.length) D)=D:=by
  refine Gy (by rw[zao,hl]) fun k hk=>?_;rw[zao] at hk;rw[Mf hk];have:∀v,jd (bz D.length) D (bz D.length) D v=D.getD (bY (bz D.length) v) 0:=fun v=>by unfold jd;split<;>rfl
  rw[this,pM nS hk]
 obtain⟨hF,sA,sB,sS⟩:=aiD (keep:=[]) (S:=[]) (DS:=[]) t1 t2 (fun _ _ _=>rfl) hJ D3 (by omega) (by omega) (by decide) (by simp) rfl (by decide) (by decide);rw[hF];congr 1;have Mu:∀j,(cA D j).length=(bz D.length).length:=fun j=>by rw[hl];exact eO _ _
 have oa:∀j,j<bh D->jf (bz D.length) D (bz D.length) (cA D j)=j:=fun j hj=>by
  rw[YU nS nS (fun _ q=>q) hl (Mu j),aoD nS (Mu j),adv hG hj]
 have oc:∀j,jf [] [] (bz D.length) (cA D j)=0:=fun j=>by
  have:=sS.lt j;rw[show bh []=1 from rfl] at this
  omega
 show(([],[],[nP (bu (bh D) (g9 p L)) (bu (bh D) (g9 p N)) (fun k=>jf (bz D.length) D (bz D.length) (cA D k)) (fun k=>jf (bz D.length) D (bz D.length) (cA D k)) (fun k=>jf [] [] (bz D.length) (cA D k)) 0 (bh D)%p]),true)=(([],[],[sm (bh D) (fun n=>g9 p L n*g9 p N n)%p]),true);have:nP (bu (bh D) (g9 p L)) (bu (bh D) (g9 p N)) (fun k=>jf (bz D.length) D (bz D.length) (cA D k)) (fun k=>jf (bz D.length) D (bz D.length) (cA D k)) (fun k=>jf [] [] (bz D.length) (cA D k)) 0 (bh D)=sm (bh D) (fun n=>g9 p L n*g9 p N n):=by
  unfold nP;refine ku fun j hj=>?_;show(if jf [] [] (bz D.length) (cA D j)=0 then _ else _)=_
  rw[if_pos (oc j)];dsimp only
  rw[oa j hj,zaa,lK _ hj,zaa,lK _ hj];rfl
 rw[this]
theorem amH {p:Int} {L M N:List bf} (h:DC p L) (h':DC p M) (hd:aV L=aV M) (RB:aV L=aV N):
  sm (bh (aV L)) (fun n=>g9 p (fE (p,L) (p,M)) n*g9 p N n)%p=(sm (bh (aV L)) (fun n=>g9 p L n*g9 p N n)%p+sm (bh (aV L)) (fun n=>g9 p M n*g9 p N n)%p)%p:=by
 have ha:=Dj h h' hd;have za:=(OL ha h.b4 h'.b4).2;rw[<-zba,<-IM];refine Cy fun n _=>?_;rw[agF ha n za,<-Int.add_mul];exact rI.1 (bV.mul vD (bV.refl _ _))
def O8:aa->Option Bool:=fun _=>some true
theorem ai9 (x:Int):c7 x x=true:=beq_self_eq_true _
theorem asc {p:Int} (hp:p∈[(2:Int),3,7,101,1000003]):dJ p=true:=by
 simp only[zbJ,zby,or_false] at hp;rcases hp with rfl|rfl|rfl|rfl|rfl
 ·exact ar9
 ·exact asa
 ·exact asb
 ·exact ar8
 ·exact ar7
def yL:ar:=[(.one,[.list [.int .u8]])]
def Vp:ar:=[(.one,[.bool])]
def app:aU:=[]
def JB (NN:Nat):aa->(Option Bool):=
 (fun(l0:aa)=>
 aI (cL (1048576:Int) (aS (ae l0)))
 (some true)
 ((C4 (l0,(0:Int))).af (fun i1=>
 (C3 (l0,(10:Int))).af (fun l2=>
 (yA (l0,(30:Int),i1,l2)).af (fun(i3,l4)=>
 (yA (l0,(80:Int),i1,l2)).af (fun(i5,l6)=>
 (yA (l0,(130:Int),i1,l2)).af (fun(i7,l8)=>
 (As ((i3,l4),i5,l6)).af (fun((i9,c8),wY)=>
 (t6 (i3,l4)).af (fun(fJ,ed,dQ)=>
 (t6 (i5,l6)).af (fun(fv,eG,dm)=>
 (cM fJ 0 (ae fJ)).af (fun fR=>
 (cM ed 0 (ae ed)).af (fun ik=>
 (cM dQ 0 (ae dQ)).af (fun kj=>
 (cM fv 0 (ae fv)).af (fun gI=>
 (cM eG 0 (ae eG)).af (fun eo=>
 (cM dm 0 (ae dm)).af (fun gT=>
 (yp (((2:Int),i1,(0:Int)),(fR,ik,kj),gI,eo,gT)).af (fun((jr,kH,kI),b27)=>
 (wL ((i3,l4),i7,l8)).af (fun(jm,b29)=>
 (wL ((i5,l6),i7,l8)).af (fun(ig,b31)=>
 (cM c8 0 (ae c8)).af (fun jY=>
 (wL ((i9,jY),i7,l8)).af (fun(nr,b34)=>
 (t6 (i3,l4)).af (fun(qp,jt,iK)=>
 (t6 (i7,l8)).af (fun(lE,pF,qq)=>
 (cM qp 0 (ae qp)).af (fun jH=>
 (cM jt 0 (ae jt)).af (fun mP=>
 (cM iK 0 (ae iK)).af (fun iw=>
 (cM lE 0 (ae lE)).af (fun iy=>
 (cM pF 0 (ae pF)).af (fun oN=>
 (cM qq 0 (ae qq)).af (fun jZ=>
 (yq (((2:Int),i1,(0:Int)),(jH,mP,iw),(iy,oN,jZ),([]:aa))).af (fun((oO,mQ,ra),b50)=>
 aI (wY)
 (aI (b27)
 (aI (b29)
 (aI (b31)
 (aI (b34)
 (aI (b50)
 ((cM c8 0 (ae c8)).af (fun nw=>
 (t6 (i9,nw)).af (fun(mR,n5,nz)=>
 (cM mR 0 (ae mR)).af (fun oP=>
 (cM n5 0 (ae n5)).af (fun n6=>
 (cM nz 0 (ae nz)).af (fun jI=>
 (cM jr 0 (ae jr)).af (fun n7=>
 (cM kH 0 (ae kH)).af (fun g7=>
 (cM kI 0 (ae kI)).af (fun lF=>
 (Ay ((oP,n6,jI),n7,g7,lF)).af (fun b61=>
 aI (b61)
 ((iM (br .i64 jm ig) i1).af (fun uN=>
 aI (c7 nr uN)
 ((cM ra 0 (ae ra)).af (fun oQ=>
 (cM ((jm::([]:aa))) 0 1).af (fun BV=>
 (wQ (oQ,BV)).af (fun P2=>
 some P2))))
 (some false)))
 (some false)))))))))))
 (some false))
 (some false))
 (some false))
 (some false))
 (some false))
 (some false)))))))))))))))))))))))))))))))
theorem ahg (l0:aa):JB aM l0=some true:=by
 simp only[JB];by_cases hl:l0.length<=1048576
 ·rw[bN (d8 (by unfold aS ae;omega))];obtain⟨p,e1,hp⟩:=asd l0 0 hl (by decide);have cr:=asc hp;obtain⟨D,e2,hD,hd⟩:=aiS l0 10 hl (by decide);obtain⟨L,e3,H,hdL⟩:=Qk l0 30 p D hl (by decide) cr hD hd;obtain⟨M,e4,HM,hdM⟩:=Qk l0 80 p D hl (by decide) cr hD hd;obtain⟨N,e5,HN,RB⟩:=Qk l0 130 p D hl (by decide) cr hD hd;have GM:aV L=aV M:=by rw[hdL,hdM]
  have Ml:aV L=aV N:=by rw[hdL,RB]
  have hMN:aV M=aV N:=by rw[hdM,RB]
  have ha:=Dj H HM GM;obtain⟨hS,za⟩:=OL ha H.b4 HM.b4;have hSN:j7 (p,fE (p,L) (p,M)) (p,N)=true:=by
   unfold j7;rw[hS,HN.ok];simp[za,Ml]
  rw[e1]
  try simp only[aF]
  rw[e2]
  try simp only[aF]
  rw[e3]
  try simp only[aF]
  rw[e4]
  try simp only[aF]
  rw[e5]
  try simp only[aF]
  have f1:=ahx H HM GM;have f2:=OR H.ok;have f3:=OR HM.ok;have f4:=ahz H HM GM;have f5:=SQ (Dj H HN Ml);have f6:=SQ (Dj HM HN hMN);have f7:=SQ hSN;have f8:=OR HN.ok;have f9:=aiA H HN Ml;have f10:=OR hS;have f11:=amH H HM GM Ml;obtain⟨s1,s2,s3,s4,_⟩:=WQ hS;rw[f1]
  try simp only[aF,d6]
  rw[f2]
  try simp only[aF,d6]
  rw[f3]
  try simp only[aF,d6]
  rw[show yp ((2,p,0),((gL p L).1,(gL p L).2.1,(gL p L).2.2),(gL p M).1,(gL p M).2.1,(gL p M).2.2)=_ from f4]
  try simp only[aF,d6]
  rw[f5]
  try simp only[aF,d6]
  rw[f6]
  try simp only[aF,d6]
  rw[f7]
  try simp only[aF,d6]
  rw[f8]
  try simp only[aF,d6]
  rw[show yq ((2,p,0),((gL p L).1,(gL p L).2.1,(gL p L).2.2),((gL p N).1,(gL p N).2.1,(gL p N).2.2),[])=_ from f9]
  try simp only[aF,m7,d6]
  rw[f10]
  try simp only[aF,m7,d6]
  have hPl:(gL p (fE (p,L) (p,M))).2.2.length<=4096:=by
   rw[s3,za];obtain⟨_,_,_,⟨_,hP⟩,_⟩:=yj (show jz (2,p,0) ((gL p L).1,aV L,(gL p L).2.2)=true from H.I5)
   exact hP
  rw[show Ay (((gL p (fE (p,L) (p,M))).1,(gL p (fE (p,L) (p,M))).2.1,(gL p (fE (p,L) (p,M))).2.2),(gL p (fE (p,L) (p,M))).1,(gL p (fE (p,L) (p,M))).2.1,(gL p (fE (p,L) (p,M))).2.2)=some true from atd (gL p (fE (p,L) (p,M))) (by omega) (by omega) (by omega)]
  try simp only[aF,m7]
  have Sf:=fQ cr;rw[aue Sf (sP Sf _) (sP Sf _)]
  try simp only[aF,m7]
  rw[za,f11,GM,ai9]
  try simp only[aF,m7,FL,d6]
  rw[MU _ (by show 1<=1048576;decide)]
  try rfl
 ·rw[bS (eB (by unfold aS ae;omega))]
theorem akz (x:aa) (y:Bool) (h:O8 x=some y):JB aM x=some y:=by
 rw[ahg];exact h
section
def I8 (P:Program) (r:TypeId->Option (List Ty)):Nat->List Field->Option (List Ty)
 |_,[]=>some []
 |off,f::fs=>match r f.type with
  |some ts=>if f.offset=off/\P.cellsOf f.type=ts.length then(I8 P r (off+ts.length) fs).map (ts++·) else none
  |none=>none
def FG (P:Program):Nat->TypeId->Option (List Ty)
 |0,_=>none
 |n+1,t=>match P.underlying t with
  |some .bool=>some [.bool]
  |some (.int k)=>some [.int k]
  |some (.slice e)=>match FG P n e with
   |some ts=>if 0<ts.length/\P.cellsOf e=ts.length then some [.list ts] else none
   |none=>none
  |some (.struct fs)=>match I8 P (FG P n) 0 fs.toList with
   |some ts=>if P.cellsOf t=ts.length then some ts else none
   |none=>none
  |_=>none
mutual
def Ty.Wf:(t:Ty)->t.D->Prop
 |.int k,n=>LE.le (α:=Int) k.min n/\LE.le (α:=Int) n k.max
 |.bool,_=>True
 |.list ts,xs=>List.length (α:=Ty.DL ts) xs<=maxLen/\∀e:Ty.DL ts,List.Mem (α:=Ty.DL ts) e xs->Ty.qG ts e
def Ty.qG:(ts:List Ty)->Ty.DL ts->Prop
 |[],_=>True
 |[t],x=>Ty.Wf t x
 |t::u::ts,x=>Ty.Wf t x.1/\Ty.qG (u::ts) x.2
end
theorem Yu (t:Ty) (ts:List Ty) (x:t.D) (y:Ty.DL ts):Ty.qG (t::ts) (AX t ts x y)↔t.Wf x/\Ty.qG ts y:=by
 cases ts with
 |nil=>exact⟨fun h=>⟨h,trivial⟩,fun h=>h.1⟩
 |cons u us=>exact Iff.rfl
theorem aiC (t:Ty):∀(ts:List Ty) (x:Ty.DL (t::ts)),∃a b,x=AX t ts a b
 |[],x=>⟨x,(),rfl⟩
 |_::_,x=>⟨x.1,x.2,rfl⟩
theorem XR:∀(ts us:List Ty) (x:Ty.DL ts) (y:Ty.DL us),Ty.qG ts x->Ty.qG us y->∃z:Ty.DL (ts++us),Ty.aW (ts++us) z=Ty.aW ts x++Ty.aW us y/\Ty.qG (ts++us) z
 |[],us,x,y,_,h=>⟨y,rfl,h⟩
 |t::ts,us,x,y,h1,h2=>by
  obtain⟨a,b,rfl⟩:=aiC t ts x;rw[Yu] at h1;obtain⟨z,e1,e2⟩:=XR ts us b y h1.2 h2;exact⟨AX t (ts++us) a z,by
   have h1:Ty.aW (t::(ts++us)) (AX t (ts++us) a z)=t.er a::Ty.aW (ts++us) z:=Qu _ _ _ _;have h2:Ty.aW (t::ts) (AX t ts a b)=t.er a::Ty.aW ts b:=Qu _ _ _ _;exact h1.trans (by rw[h2,e1];rfl),(Yu _ _ _ _).2 ⟨h1.1,e2⟩⟩
theorem ab3 {α β:Type} {f:α->Option β}:∀{l:List α} {r:List β},l.mapM f=some r->r.length=l.length/\∀(i:Nat) (x:α),l[i]? =some x->∃y,r[i]? =some y/\f x=some y:=by
 intro l;induction l with
 |nil=>intro r h;simp at h;subst h;exact⟨rfl,by simp⟩
 |cons a l ih=>
  intro r h;rw[zbG] at h;cases hx:f a with
  |none=>simp[hx] at h
  |some y=>
   cases Sy:l.mapM f with
   |none=>simp[hx,Sy] at h
   |some ys=>
    simp[hx,Sy] at h;subst h;obtain⟨i1,i2⟩:=ih Sy;refine⟨by simp[i1],fun i x hi=>?_⟩;cases i with
    |zero=>simp at hi;subst hi;exact⟨y,rfl,hx⟩
    |succ i=>exact i2 i x (by simpa using hi)
theorem aif {w:World} {a:Addr} {n:Nat} {cs:List Value} (h:w.cells? 0 a n=some cs):cs.length=n/\∀(j:Nat) (c:Value),cs[j]? =some c->w.cell? (a.add j)=some c:=by
 unfold World.cells? at h;rw[if_pos (zbk _)] at h;obtain⟨h1,h2⟩:=ab3 h;simp only[za3] at h1;refine⟨h1,fun j c hj=>?_⟩;have cD:j<n:=by rw[<-h1];exact(zaZ.1 hj).1
 obtain⟨y,e1,e2⟩:=h2 j j (zaV cD);rw[hj] at e1;injection e1 with e1;subst e1;exact e2
theorem aie {w:World} {a:Addr} {v:Value} (h:w.cell? a=some v):a=ad a.block a.off:=by
 unfold World.cell? at h;split at h
 ·split at h
  ·cases h
  ·rename_i hs;obtain⟨b,o,s⟩:=a;cases s with
   |none=>rfl
   |some q=>simp at hs
 ·cases h
theorem XI (a:Addr):a.add 0=a:=by unfold Addr.add;simp
section
variable {H:Type} {enc:TypeId×Value->H} {P:Program} {w:World} {sp:Nat->Bool} {held:Bool}
def ub (P:Program) (w:World) (ts:List Ty) (cs:List Value):Prop:=
 ∃(x:Ty.DL ts) (cu:List PC),cu.map PC.er=Ty.aW ts x/\cu.map PC.val=cs/\(∀pc∈cu,Good w pc)/\Ty.qG ts x
theorem ub.one {t:Ty} {x:t.D} {pc:PC} {c:Value} (h1:pc.er=t.er x) (h2:pc.val=c) (h3:Good w pc) (h4:t.Wf x):ub P w [t] [c]:=
 ⟨x,[pc],by simp only[zal,za9,h1];rfl,by simp[h2],by simpa using h3,h4⟩
theorem aec {r:TypeId->Option (List Ty)} {q:TypeId->List Value->Option (DataW H×List MemPlace)} (hr:∀t ts cs y,r t=some ts->q t cs=some y->ub P w ts cs) (cs:List Value):
  ∀(fs:List Field) (off:Nat) (ts:List Ty) (ys:List (DataW H×List MemPlace)),I8 P r off fs=some ts->fs.mapM (fun f=>q f.type ((cs.drop f.offset).take (P.cellsOf f.type)))=some ys->ub P w ts ((cs.drop off).take ts.length)
 |[],off,ts,ys,h1,h2=>by
  simp only[I8] at h1;injection h1 with h1;subst h1;exact⟨(),[],rfl,by simp,by simp,trivial⟩
 |f::fs,off,ts,ys,h1,h2=>by
  simp only[I8] at h1;split at h1
  ·rename_i ts1 e1;split at h1
   ·rename_i hc;obtain⟨c1,c2⟩:=hc;rw[za8] at h1;obtain⟨ts2,e2,rfl⟩:=h1;rw[zbG] at h2;cases hq:q f.type ((cs.drop f.offset).take (P.cellsOf f.type)) with
    |none=>simp[hq] at h2
    |some y=>
     cases hqs:fs.mapM (fun f=>q f.type ((cs.drop f.offset).take (P.cellsOf f.type))) with
     |none=>simp[hq,hqs] at h2
     |some ys2=>
      obtain⟨x1,p1,a1,a2,a3,a4⟩:=hr _ _ _ _ e1 hq;obtain⟨x2,p2,b1,b2,b3,b4⟩:=aec hr cs fs (off+ts1.length) ts2 ys2 e2 hqs;obtain⟨z,z1,z2⟩:=XR ts1 ts2 x1 x2 a4 b4;refine⟨z,p1++p2,by rw[zan,a1,b1,z1],?_,fun pc bA=>(zaC.1 bA).elim (a3 pc) (b3 pc),z2⟩;rw[zan,a2,b2,c1,c2,zad,List.take_add,List.drop_drop]
   ·cases h1
  ·cases h1
theorem atN {kA:Nat} {t e:TypeId} {us:List Ty} {cs:List Value} {y:DataW H×List MemPlace} (ih:∀cs y,DataW.trod enc P w 0 sp held kA e cs=some y->ub P w us cs) (ft:0<us.length) (jg:P.cellsOf e=us.length)
  (hu:P.underlying t=some (.slice e)) (h:DataW.trod enc P w 0 sp held (kA+1) t cs=some y):ub P w [.list us] cs:=by
 rw[DataW.trod_step] at h;unfold DataW.trodStep at h;simp only[hu] at h;split at h<;>first|(cases h;done)|(rename_i gh;cases gh;done)|skip
 ·exact ub.one (t:=.list us) (x:=([]:List (Ty.DL us))) (pc:=.list us.length none 0 []) (by rw[PC.fo];rfl) rfl (.nil _ _ _ ft) ⟨zbk _,fun e he=>by cases he⟩
 ·rename_i e' a len cap gh;injection gh with gh;injection gh with gh;subst gh;split at h
  ·rename_i hc;obtain⟨_,hlc,mI⟩:=hc;rw[za6] at h;obtain⟨elems,he,_⟩:=h;obtain⟨g1,g2⟩:=ab3 he;simp only[za3] at g1;have each:∀i:Fin len,∃(x:Ty.DL us) (cu:List PC),cu.map PC.er=Ty.aW us x/\(∀pc∈cu,Good w pc)/\Ty.qG us x/\∀j pc,cu[j]? =some pc->w.cell? ((a.add (i.1*us.length)).add j)=some pc.val:=by
    intro i;obtain⟨y1,_,e2⟩:=g2 i.1 i.1 (zaV i.2);rw[za6] at e2;obtain⟨YD,e3,e4⟩:=e2;rw[jg] at e3;obtain⟨c1,c2⟩:=aif e3;obtain⟨x,cu,a1,a2,a3,a4⟩:=ih YD y1 e4;refine⟨x,cu,a1,a3,a4,fun j pc hj=>c2 j pc.val ?_⟩;rw[<-a2,zak,hj];rfl
   let xs:List (Ty.DL us):=List.ofFn fun i:Fin len=>Classical.choose (each i);let px:List (List PC):=List.ofFn fun i:Fin len=>Classical.choose (zaD (each i));have iH:∀k e,px[k]? =some e->∃i:Fin len,i.1=k/\e=Classical.choose (zaD (each i)):=by
    intro k e hk;rw[zbs] at hk;split at hk
    ·rename_i cD;injection hk with hk;exact⟨⟨k,cD⟩,rfl,hk.symm⟩
    ·cases hk
   have spec:=fun i:Fin len=>zaD (zaD (each i));have alU:px.length=len:=by simp[px]
   have avf:xs.length=len:=by simp[xs]
   have R6:px.map (fun e=>e.map PC.er)=List.map (Ty.aW us) xs:=by
    apply zaN;intro k;simp only[zak,px,xs,zbs];by_cases hk:k<len
    ·simp only[hk,dif_pos,Option.map_some];rw[(spec ⟨k,hk⟩).1]
    ·simp only[hk,dif_neg,not_false_eq_true,Option.map_none]
   have zp:∀x∈xs,Ty.qG us x:=by
    intro x hx;obtain⟨i,hi⟩:=List.mem_ofFn.1 hx;subst hi;exact(spec i).2.2.1
   have cX:∀e∈px,e.length=us.length:=by
    intro e he;obtain⟨k,hk⟩:=zbe he;obtain⟨i,_,rfl⟩:=iH k e hk;have:=congrArg List.length (spec i).1;rwa[zao,Ty.DO] at this
   have iG:∀k j c,At px k j c->Good w c:=by
    rintro k j c ⟨e,he,hj⟩;obtain⟨i,_,rfl⟩:=iH k e he;exact(spec i).2.1 c (zaQ hj)
   have Bk:∀k j c,At px k j c->w.cell? ((a.add (k*us.length)).add j)=some c.val:=by
    rintro k j c ⟨e,he,hj⟩;obtain⟨i,rfl,rfl⟩:=iH k e he;exact(spec i).2.2.2 j c hj
   refine ub.one (t:=.list us) (x:=xs) (pc:=.list us.length (some a) cap px) (by rw[PC.fo,R6];rfl) (by simp[PC.val,alU]) ?_ ⟨by show xs.length<=maxLen;omega,fun x hx=>zp x hx⟩;by_cases h0:px=[]
   ·rw[h0];exact .nil _ _ _ ft
   ·obtain⟨c0,gf⟩:=XZ h0 ft cX;have h1:=Bk 0 0 c0 gf;rw[zbM,XI,XI] at h1;have Bx:=aie h1;rw[Bx] at Bk⊢;refine .cons _ _ _ _ _ h0 (by omega) ft cX (fun k j c hk=>?_) iG;have:=Bk k j c hk;rwa[ud,ud] at this
  ·cases h
theorem WT:∀(kA:Nat) (t:TypeId) (cs:List Value) (y:DataW H×List MemPlace) (n:Nat) (ts:List Ty),DataW.trod enc P w 0 sp held kA t cs=some y->FG P n t=some ts->ub P w ts cs
 |0,t,cs,y,n,ts,h,ht=>by simp[DataW.trod] at h
 |kA+1,t,cs,y,0,ts,h,ht=>by simp[FG] at ht
 |kA+1,t,cs,y,n+1,ts,h,ht=>by
  simp only[FG] at ht;cases hu:P.underlying t with
  |none=>rw[hu] at ht;cases ht
  |some d=>
   rw[hu] at ht;cases d<;>simp only at ht<;>first|(cases ht;done)|skip
   case bool=>
    injection ht with ht;subst ht;rw[DataW.trod_step] at h;unfold DataW.trodStep at h;simp only[hu] at h;split at h<;>first|(cases h;done)|(rename_i gh;cases gh;done)|skip
    rename_i b gh;exact ub.one (t:=.bool) (x:=b) (pc:=.bool b) rfl rfl (.bool b) trivial
   case int k=>
    injection ht with ht;subst ht;rw[DataW.trod_step] at h;unfold DataW.trodStep at h;simp only[hu] at h;split at h<;>first|(cases h;done)|(rename_i gh;cases gh;done)|skip
    rename_i k1 k2 n2 gh;injection gh with gh;injection gh with gh;subst gh;split at h
    ·rename_i hc;obtain⟨rfl,hc⟩:=hc;simp only[Lit.wf,zaj,decide_eq_true_eq] at hc;exact ub.one (t:=.int k2) (x:=n2) (pc:=.int k2 n2) rfl rfl (.int k2 n2) hc
    ·cases h
   case slice e=>
    split at ht
    ·rename_i us oK;split at ht
     ·rename_i ft;obtain⟨ft,jg⟩:=ft;injection ht with ht;subst ht;exact atN (fun cs y hy=>WT kA e cs y n us hy oK) ft jg hu h
     ·cases ht
    ·cases ht
   case struct fs=>
    rw[DataW.trod_step] at h;unfold DataW.trodStep at h;simp only[hu] at h;split at h<;>first|(cases h;done)|(rename_i gh;cases gh;done)|skip
    rename_i hlen;split at ht
    ·rename_i us oK;split at ht
     ·rename_i jg;injection ht with ht;subst ht;rw[za8] at h;obtain⟨ys,h1,h2⟩:=h;have:=aec (P:=P) (w:=w) (fun t ts cs y h3 h4=>WT kA t cs y n ts h4 h3) cs fs.toList 0 us ys oK h1;rwa[List.drop_zero,<-jg,<-hlen,zap] at this
     ·cases ht
    ·cases ht
end
end
section
open Go.ChangeShapes Go.WideShapes Go.ChangeAt Go.RowKit
def Dh:(as:ar)->bj as.bi->Prop
 |[],_=>True
 |[a],x=>Ty.qG a.2 x
 |a::b::as,x=>Ty.qG a.2 x.1/\Dh (b::as) x.2
theorem aiB (a:K×List Ty) (as:ar) (x:Ty.DL a.2) (y:bj (ar.bi as)):Ty.qG a.2 x->Dh as y->Dh (a::as) (Lt a.2 (ar.bi as) x y):=by
 intro h1 h2;cases as with
 |nil=>exact h1
 |cons b as=>exact⟨h1,h2⟩
def Qo (P:Program) (t:TypeId) (a:K×List Ty):Bool:=
 match FG P 30 t with
 |some ts=>Ty.ui ts a.2&&(match P.underlying t,a.1 with
  |some (.struct _),.agg=>true
  |some (.int _),.one=>true
  |some .bool,.one=>true
  |some (.slice _),.one=>true
  |_,_=>false)
 |none=>false
def DB (P:Program):List TypeId->ar->Bool
 |[],[]=>true
 |t::ts,a::as=>Qo P t a&&DB P ts as
 |_,_=>false
section
variable {H:Type} {enc:TypeId×Value->H} {P:Program} {w w':World} {sp:Nat->Bool} {held:Bool}
theorem ahP {t:TypeId} {a:K×List Ty} {v:Value} {d:DataW H} {ps:List MemPlace} (hc:Qo P t a=true) (hv:Value.okWide P w .any 0 t v) (hd:DataW.Trod enc P w 0 sp held t v d ps):
  ∃x:Ty.DL a.2,CO w (a.1,Ty.aW a.2 x) v/\Ty.qG a.2 x:=by
 obtain⟨kA,hd⟩:=hd;unfold Qo at hc;split at hc
 ·rename_i ts ME;simp only[zaj] at hc;obtain⟨h1,h2⟩:=hc;have h1:=Ty.uj h1;subst h1;obtain⟨x,cu,e1,e2,e3,e4⟩:=WT kA t v.cells.toList _ 30 a.2 hd ME;refine⟨x,?_,e4⟩;unfold Value.okWide at hv;have one:(∀cs,v≠ .agg cs)->a.1=.one->CO w (a.1,Ty.aW a.2 x) v:=by
   intro hn ha;have Bk:v.cells.toList=[v]:=by cases v<;>first|rfl|(rename_i cs;exact absurd rfl (hn cs))
   rw[ha];exact⟨cu,e1,e3,by rw[e2,Bk]⟩
  split at h2
  ·rename_i fs hu ha;rw[hu] at hv;obtain⟨cs,rfl,_,_⟩:=hv;rw[ha];exact⟨cu,e1,e3,by rw[e2];rfl⟩
  ·rename_i k hu ha;refine one (fun cs e=>?_) ha;subst e;rw[hu] at hv;simp[Cell.okWide,hu,Cell.ok] at hv
  ·rename_i hu ha;refine one (fun cs e=>?_) ha;subst e;rw[hu] at hv;simp[Cell.okWide,hu,Cell.ok] at hv
  ·rename_i e hu ha;refine one (fun cs e=>?_) ha;subst e;rw[hu] at hv;simp[Cell.okWide,hu,Cell.ok] at hv
  ·cases h2
 ·cases hc
theorem XW:∀{ts:List TypeId} {as:ar} {vs:List Value} {ds:List (DataW H)} {ps:List MemPlace},DB P ts as=true->(∀(j:Nat) (t:TypeId) (v:Value),ts[j]? =some t->vs[j]? =some v->Value.okWide P w .any 0 t v)->
  DataW.TrodAll enc P w 0 sp held ts vs ds ps->∃x:bj (ar.bi as),Jh w (dL as x) vs/\Dh as x
 |[],[],vs,ds,ps,hc,hv,h=>by
  obtain⟨rfl,rfl,rfl⟩:=trodAll_nil h;exact⟨(),⟨rfl,by intro j d v hj;simp[dL] at hj⟩,trivial⟩
 |t::ts,a::as,vs,ds,ps,hc,hv,h=>by
  simp only[DB,zaj] at hc;obtain⟨v,vs1,d,ds1,p,q,rfl,rfl,rfl,h1,h2⟩:=trodAll_cons h;obtain⟨x,a1,a2⟩:=ahP hc.1 (hv 0 t v rfl rfl) h1;obtain⟨y,b1,b2⟩:=XW hc.2 (fun j t v h3 h4=>hv (j+1) t v (by simpa using h3) (by simpa using h4)) h2;refine⟨Lt a.2 (ar.bi as) x y,?_,aiB a as x y a2 b2⟩;rw[Y5];refine⟨by simp[b1.1],fun j d v hj gR=>?_⟩;cases j with
  |zero=>simp at hj gR;subst hj;subst gR;exact a1
  |succ j=>exact b1.2 j d v (by simpa using hj) (by simpa using gR)
 |[],_::_,vs,ds,ps,hc,hv,h=>by simp[DB] at hc
 |_::_,[],vs,ds,ps,hc,hv,h=>by simp[DB] at hc
theorem agR (hw:∀b,b<w.heap.size->w'.heap[b]? =w.heap[b]?):∀{ts:List TypeId} {vs:List Value} {ds:List (DataW H)} {ps:List MemPlace},DataW.TrodAll enc P w 0 sp held ts vs ds ps->DataW.TrodAll enc P w' 0 sp held ts vs ds ps
 |[],[],[],_,h=>h
 |t::ts,v::vs,d::ds,_,⟨p,q,⟨n,h1⟩,h2,e⟩=>by
  refine⟨p,q,⟨n,DataW.trod_carry n t _ _ h1 fun pl jk=>?_⟩,agR hw h2,e⟩;have cD:=DataW.trod_lt n t _ _ h1 pl jk;cases pl with
  |cell b o=>
   have hb:=hw b cD;simp only[World.sameAt,World.cell?,hb]
  |map b=>exact hw b cD
 |[],[],_::_,_,h=>h.elim
 |[],_::_,_,_,h=>h.elim
 |_::_,[],_,_,h=>h.elim
 |_::_,_::_,[],_,h=>h.elim
theorem an5 (h1:w'.os=w.os) (h2:w'.output=w.output) (hw:∀b,b<w.heap.size->w'.heap[b]? =w.heap[b]?) (may:MemPlace->Prop):w.keptBut w' may:=by
 have Dm:=World.keptBut_refl w may;refine⟨h1,h2,fun i hi=>?_⟩;rw[hw i hi];exact Dm.2.2 i hi
theorem ar5 {f:Func} {s:ChangeSpec} {apart Re Rn PU:Bool} {W W':World} {args:Array Value} {v:Value} {ds gs:List (DataW H)} {uh pa pv:List MemPlace}
  (hW:DataW.Whole enc P f.params.toList s.vars apart W args.toList ds gs uh)
  (aaX:∀(b:Nat) (sp:Nat->Bool) (hd:Bool),DataW.TrodAll enc P W' b sp hd f.resultTypes.toList (v.resultList f.resultTypes.size) (s.fn H (ds++gs)).results [])
  (Mn:∀sp:Nat->Bool,(∀p∈uh,sp p.block=true)->DataW.TrodAll enc P W' 0 sp true f.params.toList args.toList (s.fn H (ds++gs)).args pa)
  (aa2:∀sp:Nat->Bool,(∀p∈uh,sp p.block=true)->DataW.TrodVars enc P W' sp s.vars (s.fn H (ds++gs)).vars pv)
  (gA:uh=pa++pv) (hk:W.keptBut W' (·∈uh)) (Mt:∀a:Addr,a.block<W.heap.size->W'.frozen? a=W.frozen? a)
  (gi:∀(j:Nat) (t:TypeId) (r:Value),f.resultTypes[j]? =some t->(v.resultList f.resultTypes.size)[j]? =some r->Value.okWide P W' .any 0 t r):
  s.post enc P f apart Re Rn PU W args v W':=by
 have hold:∀p∈uh,(fun b=>decide (b<W.heap.size)) p.block=true:=fun p hp=>by simpa using hW.lt p hp
 have cD:=hW.lt;refine⟨ds,gs,uh,[],pa,pv,hW,aaX _ _ _,Mn _ hold,aa2 _ hold,World.keptBut_mono (fun p hp=>⟨hp,?_⟩) hk,fun _=>?_⟩
 ·rw[gA,zaC] at hp;exact Or.inr hp
 ·obtain⟨_,_,_,_,_,hz,hn⟩:=hW;refine⟨gi,_,_,([]++pa)++pv,⟨[]++pa,pv,trodAll_append (Mn _ (fun _ _=>rfl)) (aaX _ _ _),aa2 _ (fun _ _=>rfl),rfl,?_,?_⟩,?_⟩
  ·intro b off hp;have bJ:MemPlace.cell b off∈uh:=by rw[gA];simpa using hp
   rw[Mt ⟨b,off,none⟩ (cD _ bJ)];exact hz b off bJ
  ·intro ha;have:=hn ha;rw[gA] at this;simpa using this
  ·intro p hp _;rw[gA];simpa using hp
theorem asM {bC:List (K×List PC)} {b:Bool} (h:bC.map (fun p=>(p.1,p.2.map PC.er))=[(K.one,[C.bool b])]):wB bC=.bool b:=by
 match bC,h with
 |[],h=>simp at h
 |_::_::_,h=>simp at h
 |[(k,cu)],h=>
  simp only[zal,za9,zbF,Prod.mk.injEq,and_true] at h;obtain⟨rfl,h⟩:=h;match cu,h with
  |[],h=>simp at h
  |_::_::_,h=>simp at h
  |[pc],h=>
   simp only[zal,za9,zbF,and_true] at h;cases pc with
   |bool b=>simp[PC.er] at h;subst h;rfl
   |int k n=>simp[PC.er] at h
   |list sz a cap xs=>rw[PC.fo] at h;cases h
theorem agS:∀{ts:List TypeId} {vs:List Value} {ds:List (DataW H)} {ps:List MemPlace},DataW.TrodAll enc P w 0 sp held ts vs ds ps->ds.length=ts.length
 |[],vs,ds,ps,h=>by obtain⟨rfl,rfl,rfl⟩:=trodAll_nil h;rfl
 |t::ts,vs,ds,ps,h=>by
  obtain⟨v,vs1,d,ds1,p,q,rfl,rfl,rfl,h1,h2⟩:=trodAll_cons h;simp[agS h2]
def aav (P:Program):Bool:=(List.range P.types.size).all fun t=>match P.underlying t with|some (.slice e)=>decide (0<P.cellsOf e)|_=>true
theorem aow {f:FuncId} {fn:Func} {s:ChangeSpec} {sg:ar} {M:List Dv->Option (List Dv)} {tb:TypeId} (hl:laidOutB P=true) (hmr:mapsRowed P=true)
  (hz:aav P=true)
  (ME:∀t∈fn.params.toList,t<P.types.size)
  (hp:DB P fn.params.toList sg=true) (hr:fn.resultTypes=#[tb]) (hb:P.underlying tb=some .bool) (hs:s.vars=[])
  (Bx:∀ds:List (DataW H),ds.length=fn.params.toList.length->(s.fn H ds).results=[.lit (.bool true)]/\(s.fn H ds).args=ds/\(s.fn H ds).vars=[])
  (alX:eY P f M) (hM:∀x:bj (ar.bi sg),Dh sg x->M (dL sg x)=some [(.one,[.bool true])]) {apart Re Rn PU:Bool}
  {W:World} {Dm:Nat} {args:Array Value} {ds gs:List (DataW H)} {uh:List MemPlace}
  (Ho:∀(j:Nat) t v,fn.params[j]? =some t->args[j]? =some v->Value.okWide P W .any Dm t v) (hW:DataW.Whole enc P fn.params.toList s.vars apart W args.toList ds gs uh):
  Calls P f args W fun e W'=>∃v,e=.returned v/\s.post enc P fn apart Re Rn PU W args v W':=by
 have hW':=hW;obtain⟨p,q,hA,hV,rfl,Mt,fP⟩:=hW;rw[hs] at hV;obtain⟨rfl,rfl⟩:=trodVars_none hV;obtain⟨x,hx,zp⟩:=XW hp (fun j t v h1 h2=>Value.okWide_any_base<|Ho j t v (by rw[<-zbd];exact h1) (by rw[<-zbd];exact h2)) hA;have aaK:=alX _ _ (hM x zp) W args.toList hx;have xl:args.toList.toArray=args:=by cases args;rfl
 rw[xl] at aaK;refine aaK.mono fun e W' ⟨bC,p1,p2,p3,p4,p5⟩=>?_;have hv:=asM p1;have ng:∀b,b<W.heap.size->W'.heap[b]? =W.heap[b]? :=fun b hb=>p5.block b hb id;have hlen:=agS hA;obtain⟨s1,s2,s3⟩:=Bx ds hlen;refine⟨_,p2,?_⟩;rw[hv];refine ar5 (pa:=p) (pv:=[]) hW' (fun _ _ _=>?_) (fun sp Bx=>?_) (fun _ _=>?_) (by simp) (an5 p5.os p5.output ng _) (fun a ha=>?_) ?_
 ·rw[zaL,s1,hr];exact trodAll_cons_mk (shut_bool hb _) trodAll_mk0
 ·rw[zaL,s2];exact DataW.TrodAll.respare (kids_rows hl hmr) (slices_full_of P hz) ME (agR ng hA) (fun pl jk=>Bx pl (by simpa using jk))
 ·rw[zaL,hs,s3];rfl
 ·simp only[World.frozen?,ng a.block ha]
 ·rw[hr];rw[<-hr];exact ok_one hr rfl (okWide_bool_mk hb _)
end
theorem auY {P:Program} {bg:ar} {b:K×List Ty} {args:ar} (hb:bg=b::args) {T:List aw} (hT:aC P T) (hm:P.follows .mixedOrders=true) {f:FuncId} {sc:ca} {ms:List bZ} {mu:aU} {ax:ar} (hc:c6 P f sc.er ms (b::args).length=true)
  (F:bj (ar.bi (iA::iA::b::args))->Option (bj ax.bi)) (hF:∀x y,F x=some y->Is aM T sc ms mu.lM (b::args) ax x.1 x.2.1 x.2.2=some y):AJ P f mu.lM (aw.MX ⟨f,iA::iA::b::args,mu,ax,F⟩)/\cz P f=true:=
 auX hT hm hc F hF
end

end Go.Am
