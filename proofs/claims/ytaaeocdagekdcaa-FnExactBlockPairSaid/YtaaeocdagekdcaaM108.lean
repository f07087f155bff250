/- M94, M95, M96, M97, M98, M67, M26, M27, M28, M68, M99, M100, M101, M102, M103, M104, M105, M106, M107, M108: parts of the proof. No condition. -/
import Derived.Test.YtaaeocdagekdcaaM66
set_option linter.unusedVariables false
set_option linter.unusedSimpArgs false
open List renaming getD_eq_getElem?_getD->co,length_map->wt,length_append->AN,length_singleton->AT,getElem?_eq_getElem->By,length_take->IN,mem_map->IT,take_length->OF,length_filter_le->Pd,getElem?_map->Pe,append_assoc->zaa,getElem?_eq_none->zad,mem_range->zaf,mem_iff_getElem->zah,map_append->zai,mem_filter->zaj,eq_nil_of_length_eq_zero->zak,dropLast_concat_getLast->zan,mem_of_getElem?->zao,length_cons->zap,getElem?_append_right->zaq,length_range->zar,getElem?_append_left->zas,length_nil->zat,all_eq_true->zav,filter_cons_of_pos->zaw,filter_cons_of_neg->zax,range->zay,flatMap_append->zaz,map_congr_left->zaB,drop_append_of_le_length->zaD,mem_flatMap->zaE,take_append_drop->zaF,mem_singleton->zaG,append_nil->zaH,filter_append->zaI,map_cons->zaJ,ext_getElem?->zaK,pairwise_flatMap->zaN,take_append_of_le_length->zaO,length_drop->zaP,mem_append_left->zaQ,mem_append->zaR,range_succ->zaS,getElem?_range->zaT,perm_ext_iff_of_nodup->zaU,take_add_one->zaY,nodup_append->za0,getElem_mem->za4,length_pos_of_mem->za5,drop_eq_nil_of_le->za6,countP_le_length->za7,mem_of_mem_take->zba,findIdx_getElem->zbb,sum_cons->zbf,flatMap_cons->zbg,pairwise_map->zbh,cons_append->zbn,nodup_range->zbq,replicate->zbs,drop_drop->zbt,nodup_nil->zbu,take_zero->zbv,map_map->zby,filter->zbK,Nodup->zbL
open Sum renaming inl->AI,inr->BY
open Int renaming toNat_natCast->GB,add_comm->zaV,lt_of_mul_lt_mul_left->zaX,emod_eq_of_lt->zaZ,zero_emod->za2,dvd_of_emod_eq_zero->za3,natCast_mul->za8,le_refl->zbc,toNat_of_nonneg->zbd,add_zero->zbk,mul_zero->zbl,zero_mul->zbC,one_mul->zbG
open Option renaming bind->If
open Nat renaming mul_le_mul->IS,mul_le_mul_right->zab,le_refl->zac,le_trans->zae,add_mul->zal,one_mul->zam,add_sub_cancel_left->zaC,mul_comm->zaL,sub_self->zaM,zero_le->za1,mod_lt->za9,mul_assoc->zbe,add_comm->zbi,le_of_lt->zbj,sub_zero->zbm,div_eq_of_lt->zbo,mod_eq_of_lt->zbp,min_eq_left->zbr,zero_add->zbz,and_zero->zbA,zero_and->zbB,zero_div->zbD,zero_mod->zbE,div_one->zbF,or_comm->zbH,or_zero->zbI,mul_one->zbJ
open Bool renaming and_eq_true->zag,false_and->zbw,true_and->zbx
open List.Nodup renaming length_le_of_subset->zau
open List.Pairwise renaming imp_of_mem->zaA,imp->zbM,nil->zbN
open Classical renaming byContradiction->zaW
namespace Go.Am
abbrev Bk:=U×U×U×U
def mn (of:U) (x:Int):Nat->U
 |0=>[]
 |n+1=>if of.getD n 0=x then mn of x n++[(n:Int)] else mn of x n
def vals (of:U) (x:Int):U:=mn of x of.length
def Ce:U×Int->Option U:=fun x=>if x.1.length<=1048576 then some (vals x.1 x.2) else none
def vO:U×Int->Option U:=Ce
def qT (V:List U) (ix:U):U:=dd ix.length fun i=>(V.getD i []).getD (ix.getD i 0).toNat 0
def KK (V:List U) (ix:U):Prop:=ix.length<=12/\∀i,i<ix.length->i<V.length/\0<=ix.getD i 0/\(ix.getD i 0).toNat<(V.getD i []).length
instance (V:List U) (ix:U):Decidable (KK V ix):=by unfold KK;infer_instance
def Cp:List U×U->Option U:=fun x=>if KK x.1 x.2 then some (qT x.1 x.2) else none
def w7 (R:List U) (ch:U):List U:=(zay ch.length).map fun i=>vals (R.getD i []) (ch.getD i 0)
def cf (R:List U) (ch:U):U:=dd ch.length fun i=>((vals (R.getD i []) (ch.getD i 0)).length:Int)
def G9:gW×U->Option (List U×U):=fun x=>if x.2.length<=12/\x.2.length<=x.1.2.length/\∀of∈x.1.2,of.length<=8 then some (w7 x.1.2 x.2,cf x.1.2 x.2) else none
def amu:U×U->Option Int:=Ah
def vH (R:List U) (ch:U) (n:Nat):U:=qT (w7 R ch) (aM (cf R ch) n)
def jl (D:U) (R:List U) (ch:U) (n:Nat):Nat:=jQ D (vH R ch n) D.length
def fE (R:List U) (ch:U):Prop:=ch.length=R.length/\∀i,i<R.length->ch.getD i 0∈R.getD i []
instance (R:List U) (ch:U):Decidable (fE R ch):=by unfold fE;infer_instance
def aaV (x:T3×gW×Bk):Prop:=mY (x.1,x.2.1)=true/\fE x.2.1.2 x.2.2.1/\x.2.2.2.2.1=cf x.2.1.2 x.2.2.1
instance (x:T3×gW×Bk):Decidable (aaV x):=by unfold aaV;infer_instance
def SU (NN:Nat):(U×Int)->(Option U):=
 (fun((l0,i1):(U×Int))=>
 bK ((aO 0 0 (ab (([]:U)))).ae (fun _=>
 cj NN (fun(((i2,l3,i4,i5),l6):((Int×(U×(Int×Int)))×U))=>
 au (bO i5 i4)
 ((bF l3 i5).ae (fun i7=>
 au (cu i7 i2)
 (ah l6 (
 (bc ((i5::([]:U))) 0 1).ae (fun l8=>
 (iN (av (ab l6) (ab l8)) 8).ae (fun _=>
 (aO 0 (av (ab l6) (ab l8)) (ab (dn l6 l8))).ae (fun _=>
 some (AI ((i2,l3,i4,bo .i64 i5 1),dn l6 l8)))))))
 (ah l6 (
 some (AI ((i2,l3,i4,bo .i64 i5 1),l6))))))
 ((ah l6 (
 some (AI l6))).ae (fun l9=>
 some (BY l9))))
 ((i1,l0,aD (ab l0),(0:Int)),([]:U))))
 (fun bS=>
 (ed bS (ab bS)).ae (fun cZ=>
 some cZ)))
def TF (NN:Nat):(U×Int)->(Option U):=
 (fun((l0,i1):(U×Int))=>
 bK ((aO 0 0 (ab (([]:U)))).ae (fun _=>
 cj NN (fun(((i2,l3,i4,i5),l6):((Int×(U×(Int×Int)))×U))=>
 au (bO i5 i4)
 ((bF l3 i5).ae (fun i7=>
 au (cu i7 i2)
 (ah l6 (
 (bc ((i5::([]:U))) 0 1).ae (fun l8=>
 (iN (av (ab l6) (ab l8)) 8).ae (fun _=>
 (aO 0 (av (ab l6) (ab l8)) (ab (dn l6 l8))).ae (fun _=>
 some (AI ((i2,l3,i4,bo .i64 i5 1),dn l6 l8)))))))
 (ah l6 (
 some (AI ((i2,l3,i4,bo .i64 i5 1),l6))))))
 ((ah l6 (
 some (AI l6))).ae (fun l9=>
 some (BY l9))))
 ((i1,l0,aD (ab l0),(0:Int)),([]:U))))
 (fun bS=>
 (ed bS (ab bS)).ae (fun cZ=>
 some cZ)))
def Tx (NN:Nat):((List U)×U)->(Option U):=
 (fun((l0,l1):((List U)×U))=>
 bK ((aO 0 0 (ab (([]:U)))).ae (fun _=>
 cj NN (fun(((l2,l3,i4,i5),l6):(((List U)×(U×(Int×Int)))×U))=>
 au (bO i5 i4)
 ((bF l3 i5).ae (fun i7=>
 (bF l2 i5).ae (fun l8=>
 (bF l8 i7).ae (fun i9=>
 ah l6 (
 (bc ((i9::([]:U))) 0 1).ae (fun bS=>
 (iN (av (ab l6) (ab bS)) 8).ae (fun _=>
 (aO 0 (av (ab l6) (ab bS)) (ab (dn l6 bS))).ae (fun _=>
 some (AI ((l2,l3,i4,bo .i64 i5 1),dn l6 bS))))))))))
 ((ah l6 (
 some (AI l6))).ae (fun cZ=>
 some (BY cZ))))
 ((l0,l1,aD (ab l1),(0:Int)),([]:U))))
 (fun cB=>
 (ed cB (ab cB)).ae (fun cM=>
 some cM)))
def TC (NN:Nat):((Int×(List U))×U)->(Option ((List U)×U)):=
 (fun(((i0,l1),l2):((Int×(List U))×U))=>
 bK ((aO 0 0 (ab (([]:List U)))).ae (fun _=>
 (aO 0 0 (ab (([]:U)))).ae (fun _=>
 cj NN (fun(((l3,i4,i5),(i6,l7),l8,l9):((U×(Int×Int))×((Int×(List U))×((List U)×U))))=>
 au (bO i5 i4)
 ((bF l3 i5).ae (fun fO=>
 (bF l7 i5).ae (fun cZ=>
 (vO (cZ,fO)).ae (fun cB=>
 ah l8 (
 (aO 0 1 (ab ((cB::([]:List U))))).ae (fun _=>
 (iN (av (ab l8) (ab ((cB::([]:List U))))) 24).ae (fun _=>
 ah l9 (
 (bc ((aD (ab cB)::([]:U))) 0 1).ae (fun cM=>
 (iN (av (ab l9) (ab cM)) 8).ae (fun _=>
 (aO 0 (av (ab l8) (ab ((cB::([]:List U))))) (ab (dn l8 ((cB::([]:List U)))))).ae (fun _=>
 (aO 0 (av (ab l9) (ab cM)) (ab (dn l9 cM))).ae (fun _=>
 some (AI ((l3,i4,bo .i64 i5 1),(i6,l7),dn l8 ((cB::([]:List U))),dn l9 cM))))))))))))))
 ((ah l8 (
 ah l9 (
 some (AI (l8,l9))))).ae (fun cO=>
 some (BY cO))))
 ((l2,aD (ab l2),(0:Int)),(i0,l1),([]:List U),([]:U)))))
 (fun(dk,dm)=>
 (bc dk 0 (ab dk)).ae (fun dA=>
 (bc dm 0 (ab dm)).ae (fun d7=>
 some (dA,d7)))))
theorem az0 (n:Nat):kq n n=some ():=aj rfl
theorem af1 {X Y:Type} {f:X->Option (X⊕Y)} {r:Y} (n:Nat) (mk:Nat->X) (hn:1<=n) (h:∀k,k<n->f (mk k)=some (if k+1<n then .inl (mk (k+1)) else .inr r)) {a:X} (b:a=mk 0) {N:Nat} (hN:n<=N):cj N f a=some r:= eR mk (n - 1) (fun k hk=>by rw[h k (by omega),aj (by omega)]) (by rw[h (n - 1) (by omega),ak (by omega)]) b (by omega)
theorem Sf (of:U) (x:Int):∀n,(mn of x n).length<=n
 |0=>zac 0
 |n+1=>by have ih:=Sf of x n;simp only[mn];split;rw[AN,AT];omega;omega
theorem Kg (of:U) (x:Int):∀n v,v∈mn of x n->∃i:Nat,i<n/\v=(i:Int)/\of.getD i 0=x
 |0,v,h=>by cases h
 |n+1,v,h=>by simp only[mn] at h;split at h;rename_i e;rcases zaR.1 h with h|h;obtain⟨i,b,a⟩:=Kg of x n v h;exact⟨i,by omega,a⟩;exact⟨n,by omega,zaG.1 h,e⟩;obtain⟨i,b,a⟩:=Kg of x n v h;exact⟨i,by omega,a⟩
theorem ZT {of:U} {x:Int}:∀{n i:Nat},i<n->of.getD i 0=x->(i:Int)∈mn of x n
 |n+1,i,h,e=>by by_cases b:i=n;subst b;simp only[mn,aj e];simp;have a:=ZT (of:=of) (x:=x) (show i<n by omega) e;simp only[mn];split;exact zaQ _ a;exact a
theorem ZU {of:U} {x:Int} (h:x∈of):0<(vals of x).length:=by obtain⟨i,a,e⟩:=zah.1 h;exact za5 (ZT (of:=of) (x:=x) a (by rw[co,By a];exact e))
theorem aBh {of:U} {x:Int} (h:x∉of):vals of x=[]:=by rcases hv:vals of x with _|⟨v,l⟩;rfl;exfalso;obtain⟨i,a,_,b⟩:=Kg of x of.length v (by show v∈vals of x;rw[hv];simp);apply h;rw[<-b,co,By a];exact za4 a
theorem Kh (of:U) (x:Int):(vals of x).length<=of.length:=Sf of x of.length
theorem apv (x:U×Int) (y:U) (h:Ce x=some y):SU aN x=some y:=by obtain⟨of,x⟩:=x;simp only[Ce] at h;split at h;rename_i hl;rw[<-h];simp only[SU,ah];rw[eR (fun k=>((x,of,aD (ab of),(k:Int)),mn of x k)) (r:=AI (vals of x)) of.length ?a1 ?a2 ?a3 dE];(case a3=>rfl);(case a2=>dsimp only;rw[aW (iQ of)];simp only[be,aQ];rfl);(case a1=>intro k a;have hv:=Sf of x k;dsimp only;rw[aX (dg (by rw[nl];omega)),cE,getD_some (0:Int) a];simp only[aQ,be];rw[d6,show(k:Int)+1=((k+1:Nat):Int) by push_cast;rfl];by_cases e:of.getD k 0=x;rw[aX (uV e),show bc [(k:Int)] 0 1=some [(k:Int)] from rfl];simp only[aQ];rw[kv (by simp only[av,ab,AT,eD];omega)];simp only[aQ,oP];rw[show mn of x (k+1)=mn of x k++[(k:Int)] from aj e];rfl;rw[aW (nw e),show mn of x (k+1)=mn of x k from ak e]);simp only[bK,If,Ib,iJ,aQ];cases h
theorem aqv (x:U×Int) (y:U) (h:vO x=some y):TF aN x=some y:=by obtain⟨of,x⟩:=x;simp only[vO,Ce] at h;split at h;rename_i hl;rw[<-h];simp only[TF,ah];rw[eR (fun k=>((x,of,aD (ab of),(k:Int)),mn of x k)) (r:=AI (vals of x)) of.length ?a1 ?a2 ?a3 dE];(case a3=>rfl);(case a2=>dsimp only;rw[aW (iQ of)];simp only[be,aQ];rfl);(case a1=>intro k a;have hv:=Sf of x k;dsimp only;rw[aX (dg (by rw[nl];omega)),cE,getD_some (0:Int) a];simp only[aQ,be];rw[d6,show(k:Int)+1=((k+1:Nat):Int) by push_cast;rfl];by_cases e:of.getD k 0=x;rw[aX (uV e),show bc [(k:Int)] 0 1=some [(k:Int)] from rfl];simp only[aQ];rw[kv (by simp only[av,ab,AT,eD];omega)];simp only[aQ,oP];rw[show mn of x (k+1)=mn of x k++[(k:Int)] from aj e];rfl;rw[aW (nw e),show mn of x (k+1)=mn of x k from ak e]);simp only[bK,If,Ib,iJ,aQ];cases h
theorem amT {V:List U} {ix:U} (h:KK V ix) {i:Nat} (a:i<ix.length): bF ix (i:Int)=some (ix.getD i 0)/\bF V (i:Int)=some (V.getD i [])/\bF (V.getD i []) (ix.getD i 0)=some ((V.getD i []).getD (ix.getD i 0).toNat 0):=by obtain⟨c,h2,b⟩:=h.2 i a;refine⟨by rw[cE];exact getD_some 0 a,by rw[cE];exact getD_some [] c,?_⟩;rw[show ix.getD i 0=(((ix.getD i 0).toNat:Nat):Int) by omega,cE,GB];exact getD_some 0 b
theorem aqn (x:List U×U) (y:U) (h:Cp x=some y):Tx aN x=some y:=by obtain⟨V,ix⟩:=x;simp only[Cp] at h;split at h;rename_i a;rw[<-h];have hl:=a.1;simp only[Tx,ah];rw[eR (fun k=>((V,ix,aD (ab ix),(k:Int)),dd k fun i=>(V.getD i []).getD (ix.getD i 0).toNat 0)) (r:=AI (qT V ix)) ix.length ?a1 ?a2 ?a3 dE];(case a3=>rfl);(case a2=>dsimp only;rw[aW (iQ ix)];simp only[be,aQ];rfl);(case a1=>intro k e;obtain⟨b,c,d⟩:=amT a e;dsimp only;rw[aX (dg (by rw[nl];omega)),b,aQ,c,aQ,d,aQ,be,aQ];rw[show bc [(V.getD k []).getD (ix.getD k 0).toNat 0] 0 1=some [(V.getD k []).getD (ix.getD k 0).toNat 0] from rfl,aQ];rw[kv (by simp only[av,ab,AT,fT,eD];omega),aQ,oP,aQ];rw[QR k fun i=>(V.getD i []).getD (ix.getD i 0).toNat 0,d6];rfl);simp only[bK,If,Ib,iJ,aQ];cases h
theorem aqr (x:gW×U) (y:List U×U) (h:G9 x=some y):TC aN x=some y:=by obtain⟨⟨m,R⟩,ch⟩:=x;simp only[G9] at h;split at h;rename_i c;rw[<-h];obtain⟨h1,h2,b⟩:=c;simp only[TC,ah];rw[eR (fun k=>((ch,aD (ab ch),(k:Int)),(m,R),(zay k).map (fun i=>vals (R.getD i []) (ch.getD i 0)),dd k fun i=>((vals (R.getD i []) (ch.getD i 0)).length:Int))) (r:=AI (w7 R ch,cf R ch)) ch.length ?a1 ?a2 ?a3 dE];(case a3=>rfl);(case a2=>dsimp only;rw[aW (iQ ch)];simp only[be,aQ];rfl);(case a1=>intro k d;have a:k<R.length:=(by omega);have hR:=b _ (zao (getD_some [] a));have hv:=Kh (R.getD k []) (ch.getD k 0);dsimp only;rw[aX (dg (by rw[nl];omega)),cE,getD_some (0:Int) d,aQ,cE,getD_some ([]:U) a,aQ];rw[show vO (R.getD k [],ch.getD k 0)=some (vals (R.getD k []) (ch.getD k 0)) from aj (by dsimp only;omega)];simp only[aQ,be];rw[show aO 0 1 (ab [vals (R.getD k []) (ch.getD k 0)])=some () from rfl,aQ];rw[kv (by simp only[av,ab,AT,wt,zar,eD];omega),aQ];rw[show bc [aD (ab (vals (R.getD k []) (ch.getD k 0)))] 0 1=some [aD (ab (vals (R.getD k []) (ch.getD k 0)))] from rfl,aQ];rw[kv (by simp only[av,ab,AT,fT,eD];omega),aQ,oP,aQ,oP,aQ];rw[show[aD (ab (vals (R.getD k []) (ch.getD k 0)))]=[((vals (R.getD k []) (ch.getD k 0)).length:Int)] from rfl,QR k fun i=>((vals (R.getD i []) (ch.getD i 0)).length:Int),d6];rw[show dn ((zay k).map fun i=>vals (R.getD i []) (ch.getD i 0)) [vals (R.getD k []) (ch.getD k 0)]=(zay (k+1)).map fun i=>vals (R.getD i []) (ch.getD i 0) by rw[zaS,zai];rfl];rfl);simp only[bK,If,Ib,eH,aQ];cases h
def gL {α:Type} (n:Nat) (f:Nat->α):List α:=(zay n).map f
theorem xH {α:Type} (n:Nat) (f:Nat->α):(gL n f).length=n:=by simp[gL]
theorem Ic {α:Type} {n j:Nat} (f:Nat->α) (h:j<n):(gL n f)[j]? =some (f j):=by simp[gL,zaT h]
theorem xG {α:Type} {n:Nat} {f g:Nat->α} (h:∀j,j<n->f j=g j):gL n f=gL n g:=zaB fun j a=>h j (zaf.1 a)
theorem aqC {α:Type} (n:Nat) (x:α):cR n x=gL n (fun _=>x):=by unfold cR gL;rw[List.map_const',zar]
theorem adQ {α:Type} {n j:Nat} (f:Nat->α) (x:α):bB (gL n f) j x=gL n (fun q=>if q=j then x else f q):=by
 unfold bB;apply zaK;intro k;rw[List.getElem?_set];by_cases a:k<n
 ·by_cases e:j=k
  ·subst e;rw[aj rfl,aj (by rw[xH];exact a),Ic _ a,aj rfl]
  ·rw[ak e,Ic _ a,Ic _ a,ak (fun h=>e h.symm)]
 ·rw[zad (l:=gL n fun q=>if q=j then x else f q) (by rw[xH];omega)]
  by_cases e:j=k
  ·subst e;rw[aj rfl,ak (by rw[xH];exact a)]
  ·rw[ak e,zad (by rw[xH];omega)]
theorem adO {α:Type} (n:Nat) (f:Nat->α):dn (gL n f) [f n]=gL (n+1) f:=by unfold gL dn;rw[zaS,zai];rfl
theorem aqB {α:Type} {n j:Nat} (f:Nat->α) (d:α) (h:j<n):(gL n f).getD j d=f j:=by rw[co,Ic f h];rfl
theorem Vi {α:Type} (n:Nat) (f g:Nat->α):aO 0 (ab (gL n f)) (ab (gL n g))=some ():=qj (by unfold ab;rw[xH,xH])
theorem KW {α:Type} {n j:Nat} (f:Nat->α) (h:j<n):cN (j:Int) (ab (gL n f))=some j:=kI (by unfold ab;rw[xH];exact h)
theorem Ls {α:Type} {n j:Nat} (f:Nat->α) (h:j<n):bQ (gL n f) j=some (f j):=Ic f h
theorem adR {α:Type} {n k:Nat} (f:Nat->α) (d:α):bB (gL n fun q=>if q<k then f q else d) k (f k)=gL n fun q=>if q<k+1 then f q else d:=by rw[adQ];refine xG fun q _=>?_;by_cases e:q=k;rw[aj e,aj (by omega),e];rw[ak e];by_cases h:q<k;rw[aj h,aj (by omega)];rw[ak h,ak (by omega)]
theorem Vj {α:Type} (n:Nat) (f:Nat->α) (d:α):(gL n fun q=>if q<n then f q else d)=gL n f:=xG fun q a=>aj a
theorem Vk {α:Type} (n:Nat) (f:Nat->α) (d:α):cR n d=gL n fun q=>if q<0 then f q else d:=by rw[aqC];exact xG fun q _=>by rw[ak (by omega)]
theorem Yn:∀{A B:U},A.length=B.length->(∀i,i<A.length->(A.getD i 0).toNat<=(B.getD i 0).toNat)->aC A<=aC B
 |[],[],_,_=>zac _
 |a::A,b::B,hl,h=>by have d:=h 0 (by simp);have c:=Yn (A:=A) (B:=B) (by simpa using hl) fun i hi=>(by simpa using h (i+1) (by simp;omega));simp only[aC];exact IS (by simpa using d) c
structure fJ (D:U) (m:Int) (R:List U):Prop where
 m1:1<=m
 FO:m<=12
 cB:D.length<=12
 d8:∀x∈D,1<=x/\x<=8
 g:jG D
 p1:1<=aC D
 p4:aC D<=4096
 rl:R.length=D.length
 row:∀i,i<D.length->((R.getD i []).length:Int)=D.getD i 0
 al:∀i,i<D.length->∀v∈R.getD i [],0<=v/\v<m
theorem EI {L D A:U} {m:Int} {R:List U} (h:mY ((L,D,A),(m,R))=true):fJ D m R:=by simp only[mY,zag,decide_eq_true_eq] at h;obtain⟨c,⟨d,f⟩,j,b⟩:=h;by_cases a:ly L D=true/\fp D<=4096;have hd:=qU a.1;have hl:=gH a.1;have hI:=tC (D:=D) fun x hx=>(hd x hx).1;have g:=vt (D:=D) fun x hx=>(hd x hx).1;refine⟨d,f,by omega,hd,⟨by omega,fun x hx=>by have:=hd x hx;omega⟩,g,by omega,j,fun i l=>(b i (by omega)).1,fun i l v k=>?_⟩;exact ai6.1 (b i (by omega)).2 v k;have e:fg L D= -1:=ak a;rw[e] at c;exact absurd c (by decide)
section
variable {D:U} {m:Int} {R:List U}
theorem fJ.re (H:fJ D m R) {i:Nat} (a:i<D.length):1<=D.getD i 0/\D.getD i 0<=8:=H.d8 _ (eF a)
theorem Uy (R:List U) (ch:U):(cf R ch).length=ch.length:=fT _ _
theorem HV {ch:U} {i:Nat} (h:i<ch.length:=by omega):(cf R ch).getD i 0=((vals (R.getD i []) (ch.getD i 0)).length:Int):=by rw[co,cf,rI _ h];rfl
structure BkF (D:U) (R:List U) (ch:U):Prop where
 cl:ch.length=D.length
 bl:(cf R ch).length=D.length
 b:∀i,i<D.length->1<=(cf R ch).getD i 0/\(cf R ch).getD i 0<=D.getD i 0
 b8:∀x∈cf R ch,1<=x/\x<=8
 g:jG (cf R ch)
 p1:1<=aC (cf R ch)
 pD:aC (cf R ch)<=aC D
theorem fJ.blk (H:fJ D m R) {ch:U} (h:fE R ch):BkF D R ch:=by obtain⟨h1,f⟩:=h;have Bj:=H.rl;have b:∀i,i<D.length->1<=(cf R ch).getD i 0/\(cf R ch).getD i 0<=D.getD i 0:=fun i a=>(by rw[HV];have d:=ZU (f i (by omega));have g:=Kh (R.getD i []) (ch.getD i 0);have a3:=H.row i a;omega);have hl:(cf R ch).length=D.length:=(by rw[Uy];omega);have c:∀x∈cf R ch,1<=x/\x<=8:=fun x hx=>(by obtain⟨i,a,rfl⟩:=zah.1 hx;have e:(cf R ch)[i]=(cf R ch).getD i 0:=(by rw[co,By a];rfl);have d:=b i (by omega);have g:=H.re (i:=i) (by omega);rw[e];omega);have V4:=H.cB;exact⟨by omega,hl,b,c,⟨by omega,fun x hx=>by have:=c x hx;omega⟩,vt fun x hx=>(c x hx).1,Yn hl fun i a=>by have:=b i (by omega);omega⟩
theorem ame {ch:U} {i:Nat} (h:i<ch.length):(w7 R ch).getD i []=vals (R.getD i []) (ch.getD i 0):=aqB _ _ h
theorem fJ.at (H:fJ D m R) {ch:U} (b:fE R ch) (n:Nat):KK (w7 R ch) (aM (cf R ch) n):=by
 have B:=H.blk b;have V4:=H.cB;have rm:(aM (cf R ch) n).length=D.length:=(fT _ _).trans B.bl;refine⟨by omega,fun i hi=>?_⟩;have a:i<D.length:=by omega
 have dT:=B.cl;obtain⟨d,d1,f,c,d4,d5⟩:=HW B.g (i:=i) (by rw[B.bl];exact a);have e:(aM (cf R ch) n).getD i 0=((n/dV (cf R ch) (i+1)%d:Nat):Int):=by rw[zw (by rw[B.bl];exact a)];unfold ef;rw[c]
 have cF:=za9 (n/dV (cf R ch) (i+1)) (show 0<d by omega);rw[HV] at f;have td:(w7 R ch).length=ch.length:=xH _ _;rw[e,GB,ame (by omega)];exact⟨by omega,by omega,by omega⟩
theorem fJ.whole (H:fJ D m R) {ch:U} (c:fE R ch) (n:Nat):(vH R ch n).length=D.length/\∀k,k<D.length->0<=(vH R ch n).getD k 0/\(vH R ch n).getD k 0<D.getD k 0:=by have B:=H.blk c;have f:=H.at c n;have d:(aM (cf R ch) n).length=D.length:=(fT _ _).trans B.bl;refine⟨(fT _ _).trans d,fun k g=>?_⟩;obtain⟨h1,h2,b⟩:=f.2 k (by omega);have dT:=B.cl;have e:(vH R ch n).getD k 0=((w7 R ch).getD k []).getD ((aM (cf R ch) n).getD k 0).toNat 0:=(by rw[co,vH,qT,rI _ (by omega)];rfl);rw[ame (by omega)] at b e;obtain⟨i,i1,a,_⟩:=Kg (R.getD k []) (ch.getD k 0) _ _ (eF b);have:=H.row k g;have a:(vals (R.getD k []) (ch.getD k 0)).getD ((aM (cf R ch) n).getD k 0).toNat 0=(i:Int):=a;rw[e,a];omega
theorem fJ.sm8 (H:fJ D m R):z6 D 8:=⟨H.cB,fun x hx=>by have:=H.d8 x hx;omega⟩
theorem fJ.ws8 (H:fJ D m R) {ch:U} (c:fE R ch) (n:Nat):z6 (vH R ch n) 8:=by
 obtain⟨b,a⟩:=H.whole c n;refine⟨by rw[b];exact H.cB,fun x hx=>?_⟩;obtain⟨i,d,rfl⟩:=zah.1 hx;have e:(vH R ch n)[i]=(vH R ch n).getD i 0:=by rw[co,By d];rfl
 have a1:=a i (by omega);have a2:=H.re (i:=i) (by omega);rw[e];omega
theorem fJ.X3 (H:fJ D m R) {ch:U} (b:fE R ch) (n:Nat):jl D R ch n<aC D:=by obtain⟨h1,a⟩:=H.whole b n;have:=QC (D:=D) (ix:=vH R ch n) (fun k c=>by have:=a k c;omega) D.length (zac _);rw[uF] at this;unfold jl;omega
theorem fJ.axB (H:fJ D m R) {ch:U} (a:fE R ch) (n:Nat):amu (D,vH R ch n)=some ((jl D R ch n:Nat):Int):=aj ⟨H.sm8,H.ws8 a n,(H.whole a n).1.symm⟩
end
def nq (of:U):Nat->U
 |0=>[]
 |n+1=>if(n:Int)∈of then nq of n++[(n:Int)] else nq of n
def e7 (m:Int) (of:U):U:=nq of m.toNat
def ee (m:Int) (R:List U):List U:=R.foldl (fun K of=>K.flatMap fun l=>(e7 m of).map fun x=>l++[x]) [[]]
def pA (l:U):Int:=sm l.length fun i=>l.getD i 0
def yj (m:Int) (l:U):Bool:=decide (pA l%m=0)
def gm (m:Int) (R:List U):List U:=(ee m R).filter (yj m)
def ye (R:List U):U:=R.map fun l=>(l.length:Int)
def KR (c:gW):Prop:=(1<=c.1/\c.1<=12)/\c.2.length<=12/\(∀l∈c.2,(1<=l.length/\l.length<=8)/\∀v∈l,0<=v/\v<c.1)/\aC (ye c.2)<=4096
instance (c:gW):Decidable (KR c):=by unfold KR;infer_instance
def G8:gW->Option (List U):=fun c=>if KR c then some (gm c.1 c.2) else none
def nR (L:U) (R:List U) (ch:U):Bk:=(ch,L,cf R ch,[])
def aac:T3×gW->Option (List Bk):=fun x=>if mY x=true then some ((gm x.2.1 x.2.2).map (nR x.1.1 x.2.2)) else none
def Ca:T3×gW->Option (List Bk):=aac
def cV (m:Int) (R:List U):U:=R.map fun of=>((e7 m of).length:Int)
def iI (m:Int) (R:List U) (ix:U):U:=dd R.length fun i=>(e7 m (R.getD i [])).getD (ix.getD i 0).toNat 0
def TB (NN:Nat):(Int×(List U))->(Option (List U)):=
 (fun((i0,l1):(Int×(List U)))=>
 (ed (([]:U)) 0).ae (fun l2=>
 bK ((aO 0 1 (ab ((l2::([]:List U))))).ae (fun _=>
 cj NN (fun(((l3,i4,i5),(i6,l7),l8):(((List U)×(Int×Int))×((Int×(List U))×(List U))))=>
 au (bO i5 i4)
 (bK ((bF l3 i5).ae (fun l9=>
 bK ((aO 0 0 (ab (([]:List U)))).ae (fun _=>
 ah l8 (
 cj NN (fun(((bS,cZ,eC,fG,gf,iG),(fH,dA),d7,eY):((U×((List U)×(Int×(Int×(Int×Int)))))×((Int×(List U))×((List U)×(List U)))))=>
 au (bO iG gf)
 (bK ((cN iG (ab eY)).ae (fun k20=>
 (bQ eY (av 0 k20)).ae (fun ir=>
 ah d7 (
 ah eY (
 cj NN (fun(((dP,iB,il,fi,nD,jX,lW,tf),(kl,lC),hH,iP):((U×(U×(Int×((List U)×(Int×(Int×(Int×Int)))))))×((Int×(List U))×((List U)×(List U)))))=>
 au (bO il kl)
 ((vO (dP,il)).ae (fun lD=>
 au (bO (0:Int) (aD (ab lD)))
 ((mw iB).ae (fun gp=>
 ah gp (
 (bc ((il::([]:U))) 0 1).ae (fun iL=>
 (iN (av (ab gp) (ab iL)) 8).ae (fun _=>
 (ed (dn gp iL) (av (ab gp) (ab iL))).ae (fun jZ=>
 ah hH (
 (aO 0 1 (ab ((jZ::([]:List U))))).ae (fun _=>
 (iN (av (ab hH) (ab ((jZ::([]:List U))))) 24).ae (fun _=>
 (aO 0 (av (ab hH) (ab ((jZ::([]:List U))))) (ab (dn hH ((jZ::([]:List U)))))).ae (fun _=>
 ah iP (
 some (AI ((dP,iB,bo .i64 il 1,fi,nD,jX,lW,tf),(kl,lC),dn hH ((jZ::([]:List U))),iP)))))))))))))
 (ah hH (
 ah iP (
 some (AI ((dP,iB,bo .i64 il 1,fi,nD,jX,lW,tf),(kl,lC),hH,iP)))))))
 ((ah hH (
 ah iP (
 some (AI ((tf,dP,fi,nD,jX,lW),(kl,lC),hH,iP))))).ae (fun qB=>
 some (BY qB))))
 ((bS,ir,(0:Int),cZ,eC,fG,gf,iG),(fH,dA),d7,eY))))))
 (fun((ud,mO,o7,qu,pQ,xU),(kM,mP),ja,jO)=>
 ah ja (
 ah jO (
 some (AI ((mO,o7,qu,pQ,xU,bo .i64 ud 1),(kM,mP),ja,jO))))))
 ((ah d7 (
 some (AI ((fG,cZ,eC),(fH,dA),d7)))).ae (fun oB=>
 some (BY oB))))
 ((l9,l3,i4,i5,aD (ab l8),(0:Int)),(i6,l7),([]:List U),l8))))
 (fun((WQ,su,vi),(ww,qD),nI)=>
 ah nI (
 some (AI ((WQ,su,vi),(ww,qD),nI))))))
 (fun((IQ,nK,PR),(Df,rB),nN)=>
 ah nN (
 some (AI ((nK,PR,bo .i64 IQ 1),(Df,rB),nN)))))
 ((ah l8 (
 some (AI ((i6,l7),l8)))).ae (fun mQ=>
 some (BY mQ))))
 ((l1,aD (ab l1),(0:Int)),(i0,l1),(l2::([]:List U)))))
 (fun((PS,rC),oD)=>
 bK ((aO 0 0 (ab (([]:List U)))).ae (fun _=>
 ah oD (
 cj NN (fun(((i66,rr),(zu,wC),sv,pf):((Int×Int)×((Int×(List U))×((List U)×(List U)))))=>
 au (bO rr i66)
 (bK ((cN rr (ab pf)).ae (fun Mo=>
 (bQ pf (av 0 Mo)).ae (fun rD=>
 bK (ah sv (
 ah pf (
 cj NN (fun(((sx,IX,PT,i77,mb,i79,WS),(i81,uq),yd,tp):((U×(Int×(Int×(Int×(U×(Int×Int))))))×((Int×(List U))×((List U)×(List U)))))=>
 au (bO WS i79)
 ((bF mb WS).ae (fun Fx=>
 ah yd (
 ah tp (
 some (AI ((sx,bo .i64 IX Fx,PT,i77,mb,i79,bo .i64 WS 1),(i81,uq),yd,tp))))))
 ((ah yd (
 ah tp (
 some (AI ((IX,sx,i77,PT),(i81,uq),yd,tp))))).ae (fun wD=>
 some (BY wD))))
 ((rD,(0:Int),i66,rr,rD,aD (ab rD),(0:Int)),(zu,wC),sv,pf))))
 (fun((Fy,tq,Bu,Fz),(xW,nj),km,kA)=>
 (hZ Fy xW).ae (fun Bv=>
 au (cu Bv (0:Int))
 (ah km (
 (aO 0 1 (ab ((tq::([]:List U))))).ae (fun _=>
 (iN (av (ab km) (ab ((tq::([]:List U))))) 24).ae (fun _=>
 (aO 0 (av (ab km) (ab ((tq::([]:List U))))) (ab (dn km ((tq::([]:List U)))))).ae (fun _=>
 ah kA (
 some (AI ((Bu,Fz),(xW,nj),dn km ((tq::([]:List U))),kA))))))))
 (ah km (
 ah kA (
 some (AI ((Bu,Fz),(xW,nj),km,kA))))))))))
 (fun((xX,Bw),(i98,nQ),th,pR)=>
 ah th (
 ah pR (
 some (AI ((Bw,bo .i64 xX 1),(i98,nQ),th,pR))))))
 ((ah sv (
 some (AI sv))).ae (fun mN=>
 some (BY mN))))
 ((aD (ab oD),(0:Int)),(PS,rC),([]:List U),oD))))
 (fun nG=>
 (bc nG 0 (ab nG)).ae (fun ul=>
 some ul)))))
def Sx (NN:Nat):((U×(U×U))×(Int×(List U)))->(Option (List (U×(U×(U×U))))):=
 (fun(((l0,l1,l2),i3,l4):((U×(U×U))×(Int×(List U))))=>
 (kB (aD (ab l4)) (aD (ab l4)) 24).ae (fun k5=>
 (kB (aD (ab l4)) (aD (ab l4)) 8).ae (fun k6=>
 bK ((aO 0 k5 (ab (cR k5 (([]:U))))).ae (fun _=>
 (aO 0 k6 (ab (cR k6 (0:Int)))).ae (fun _=>
 cj NN (fun(((l7,i8,i9),(bS,cZ,cB),(fG,cO),dk,dm):(((List U)×(Int×Int))×((U×(U×U))×((Int×(List U))×((List U)×U)))))=>
 au (bO i9 i8)
 (bK ((bF l7 i9).ae (fun dA=>
 bK (ah dk (
 ah dm (
 cj NN (fun(((g9,eY,fw,ir,kY,gT),(dq,fi,gj),(jX,ii),gK,lZ):((Int×(U×(Int×((List U)×(Int×Int)))))×((U×(U×U))×((Int×(List U))×((List U)×U)))))=>
 au (bO fw jX)
 ((uI (eY,fw)).ae (fun b31=>
 au (b31)
 ((cN g9 (ab gK)).ae (fun zB=>
 (bQ gK (av 0 zB)).ae (fun iP=>
 (cN g9 (ab gK)).ae (fun zC=>
 (kq (av 0 zB) (av 0 zC)).ae (fun _=>
 (bQ gK (av 0 zC)).ae (fun gp=>
 (bc ((fw::([]:U))) 0 1).ae (fun iL=>
 (iN (av (ab gp) (ab iL)) 8).ae (fun _=>
 (aO 0 (ab gK) (ab (bB gK (av 0 zC) (dn gp iL)))).ae (fun _=>
 ah lZ (
 some (AI ((g9,eY,bo .i64 fw 1,ir,kY,gT),(dq,fi,gj),(jX,ii),bB gK (av 0 zC) (dn gp iL),lZ))))))))))))
 (ah gK (
 ah lZ (
 some (AI ((g9,eY,bo .i64 fw 1,ir,kY,gT),(dq,fi,gj),(jX,ii),gK,lZ)))))))
 ((ah gK (
 ah lZ (
 some (AI ((g9,gT,ir,kY),(dq,fi,gj),(jX,ii),gK,lZ))))).ae (fun jZ=>
 some (BY jZ))))
 ((i9,dA,(0:Int),l7,i8,i9),(bS,cZ,cB),(fG,cO),dk,dm))))
 (fun((kZ,ud,mO,nE),(nf,kN,jh),(kM,mP),ja,jO)=>
 (cN kZ (ab ja)).ae (fun k49=>
 (bQ ja (av 0 k49)).ae (fun j0=>
 (bQ ja (av 0 k49)).ae (fun su=>
 (cN kZ (ab jO)).ae (fun Xj=>
 (bQ jO (av 0 Xj)).ae (fun ww=>
 ah ja (
 (aO 0 (ab jO) (ab (bB jO (av 0 Xj) (aD (ab su))))).ae (fun _=>
 some (AI ((ud,mO,nE),(nf,kN,jh),(kM,mP),ja,bB jO (av 0 Xj) (aD (ab su))))))))))))))
 (fun((vj,nI,IQ),(nK,nM,oC),(xV,nN),mQ,o9)=>
 ah mQ (
 ah o9 (
 some (AI ((nI,IQ,bo .i64 vj 1),(nK,nM,oC),(xV,nN),mQ,o9))))))
 ((ah dk (
 ah dm (
 some (AI ((bS,cZ,cB),(fG,cO),dk,dm))))).ae (fun rC=>
 some (BY rC))))
 ((l4,aD (ab l4),(0:Int)),(l0,l1,l2),(i3,l4),cR k5 (([]:U)),cR k6 (0:Int)))))
 (fun((oD,nO,Qp),(zu,wC),sv,pf)=>
 (kB (aD (ab pf)) (aD (ab pf)) 8).ae (fun Mo=>
 ah sv (
 ah pf (
 (aO 0 0 (ab (([]:List (U×(U×(U×U))))))).ae (fun _=>
 (aO 0 Mo (ab (cR Mo (0:Int)))).ae (fun _=>
 cj NN (fun(((rD,sx,sA),(PT,nh),mb,lE,qE,ni):((U×(U×U))×((Int×(List U))×((List U)×(U×((List (U×(U×(U×U))))×U))))))=>
 (kB (aD (ab lE)) (aD (ab lE)) 8).ae (fun Mp=>
 bK (ah mb (
 ah lE (
 ah qE (
 ah ni (
 (aO 0 Mp (ab (cR Mp (0:Int)))).ae (fun _=>
 ah ni (
 cj NN (fun(((zv,Mc),(zK,wD,vp),(IY,ur),pU,qF,nj,km,kA):((Int×Int)×((U×(U×U))×((Int×(List U))×((List U)×(U×((List (U×(U×(U×U))))×(U×U))))))))=>
 au (bO Mc zv)
 ((cN Mc (ab km)).ae (fun k95=>
 (bQ km (av 0 k95)).ae (fun xX=>
 (cN Mc (ab pU)).ae (fun Xm=>
 (bQ pU (av 0 Xm)).ae (fun pV=>
 (bQ pU (av 0 Xm)).ae (fun nQ=>
 (cN xX (ab nQ)).ae (fun asI=>
 (bQ pU (av 0 Xm)).ae (fun pR=>
 (bQ pR asI).ae (fun aeD=>
 (cN Mc (ab kA)).ae (fun W5=>
 (bQ kA (av 0 W5)).ae (fun aBO=>
 ah pU (
 ah qF (
 ah nj (
 ah km (
 (aO 0 (ab kA) (ab (bB kA (av 0 W5) aeD))).ae (fun _=>
 ah km (
 some (AI ((zv,bo .i64 Mc 1),(zK,wD,vp),(IY,ur),pU,qF,nj,km,bB kA (av 0 W5) aeD)))))))))))))))))))
 ((ah kA (
 ah pU (
 ah qF (
 ah nj (
 ah km (
 some (AI ((zK,wD,vp),(IY,ur),kA,pU,qF,nj,km)))))))).ae (fun BD=>
 some (BY BD))))
 ((aD (ab ni),(0:Int)),(rD,sx,sA),(PT,nh),mb,lE,qE,ni,cR Mp (0:Int)))))))))
 (fun((qw,oZ,tj),(Ft,wz),wA,zE,zF,zG,BE)=>
 (bc wA 0 (ab wA)).ae (fun zH=>
 (yy zH).ae (fun L4=>
 (hZ L4 Ft).ae (fun arR=>
 bK (au (cu arR (0:Int))
 ((vI qw).ae (fun si=>
 bK (ah zE (
 ah zF (
 ah zG (
 ah BE (
 ah wA (
 ah wA (
 ah si (
 (aO 0 0 (ab (([]:U)))).ae (fun _=>
 cj NN (fun(((aeE,Dc),(rz,rA,vn),(L5,x8),ox,tm,sj,sk,vo,x9,BG):((Int×Int)×((U×(U×U))×((Int×(List U))×(U×(U×(U×((List U)×(U×((List (U×(U×(U×U))))×U))))))))))=>
 au (bO Dc aeE)
 ((cN Dc (ab ox)).ae (fun asK=>
 (bQ ox (av 0 asK)).ae (fun Fv=>
 (bF x8 Dc).ae (fun qx=>
 (Ce (qx,Fv)).ae (fun qy=>
 ah sj (
 (bc ((aD (ab qy)::([]:U))) 0 1).ae (fun oy=>
 (iN (av (ab sj) (ab oy)) 8).ae (fun _=>
 ah sk (
 ah vo (
 ah x9 (
 ah BG (
 ah ox (
 ah ox (
 ah tm (
 (aO 0 (av (ab sj) (ab oy)) (ab (dn sj oy))).ae (fun _=>
 some (AI ((aeE,bo .i64 Dc 1),(rz,rA,vn),(L5,x8),ox,tm,dn sj oy,sk,vo,x9,BG))))))))))))))))))
 ((ah x9 (
 ah sk (
 ah vo (
 ah BG (
 ah ox (
 ah tm (
 ah sj (
 some (AI ((rz,rA,vn),(L5,x8),ox,tm,sj,x9,sk,vo,BG)))))))))).ae (fun pT=>
 some (BY pT))))
 ((aD (ab wA),(0:Int)),(qw,oZ,tj),(Ft,wz),wA,si,([]:U),zE,zF,zG,BE))))))))))
 (fun((qz,qA,oz),(arT,nH),kx,ky,sn,oA,sq,nc,sr)=>
 (ed kx (ab kx)).ae (fun kz=>
 (ed ky (ab ky)).ae (fun tn=>
 (ed sn (ab sn)).ae (fun Dt=>
 ah oA (
 (aO 0 1 (ab (((kz,tn,Dt,([]:U))::([]:List (U×(U×(U×U)))))))).ae (fun _=>
 (iN (av (ab oA) (ab (((kz,tn,Dt,([]:U))::([]:List (U×(U×(U×U)))))))) 96).ae (fun _=>
 ah sq (
 ah nc (
 (aO 0 (av (ab oA) (ab (((kz,tn,Dt,([]:U))::([]:List (U×(U×(U×U)))))))) (ab (dn oA (((kz,tn,Dt,([]:U))::([]:List (U×(U×(U×U))))))))).ae (fun _=>
 ah sr (
 some (AI ((qz,qA,oz),(arT,nH),sq,nc,dn oA (((kz,tn,Dt,([]:U))::([]:List (U×(U×(U×U)))))),sr)))))))))))))))
 (ah zE (
 ah zF (
 ah zG (
 ah BE (
 some (AI ((qw,oZ,tj),(Ft,wz),zE,zF,zG,BE))))))))
 (fun((Du,I7,I8),(L8,FI),Dw,wB,Dx,Mr)=>
 (bc wB 0 (ab wB)).ae (fun BH=>
 ah Mr (
 (xf (BH,Mr)).ae (fun(TY,Qa)=>
 au (df TY)
 (((ed Dx (ab Dx)).ae (fun Xo=>
 some Xo)).ae (fun Xp=>
 some (BY Xp)))
 (ah Dw (
 ah wB (
 ah Dx (
 (aO 0 (ab Mr) (ab Qa)).ae (fun _=>
 some (AI ((Du,I7,I8),(L8,FI),Dw,wB,Dx,Qa)))))))))))))))))
 ((oD,nO,Qp),(zu,wC),sv,pf,([]:List (U×(U×(U×U)))),cR Mo (0:Int)))))))))))
theorem MT (of:U) (x:Int):∀n,x∈nq of n↔∃i:Nat,i<n/\x=(i:Int)/\x∈of
 |0=>by simp[nq]
 |n+1=>by have b:=MT of x n;simp only[nq];constructor;intro h;split at h;rename_i hm;rcases zaR.1 h with h|h;obtain⟨i,d,a⟩:=b.1 h;exact⟨i,by omega,a⟩;have:=zaG.1 h;exact⟨n,by omega,this,by rw[this];exact hm⟩;obtain⟨i,d,a⟩:=b.1 h;exact⟨i,by omega,a⟩;rintro⟨i,d,a,c⟩;by_cases e:i=n;subst e;rw[aj (by rw[<-a];exact c),a];simp;have:=b.2 ⟨i,by omega,a,c⟩;split;exact zaQ _ this;exact this
theorem abk (n:Int):∀l:U,l.countP (fun v=>decide (v<n))+(if n∈l then 1 else 0)<=l.countP (fun v=>decide (v<n+1))
 |[]=>by simp
 |v::l=>by
  have d:=abk n l;have mono:l.countP (fun v=>decide (v<n))<=l.countP (fun v=>decide (v<n+1)):=by
   have:0<=(if n∈l then 1 else 0):=za1 _
   omega
  simp only[List.countP_cons,List.mem_cons,decide_eq_true_eq];by_cases c:n=v
  ·subst c;rw[ak (show¬n<n by omega),aj (show n=n\/n∈l from .inl rfl),aj (show n<n+1 by omega)]
   omega
  ·by_cases b:n∈l
   ·rw[aj b] at d;rw[aj (show n=v\/n∈l from .inr b)]
    by_cases a:v<n
    ·rw[aj a,aj (show v<n+1 by omega)];omega
    ·rw[ak a];omega
   ·rw[ak (show¬(n=v\/n∈l) from fun h=>h.elim c b)]
    by_cases a:v<n
    ·rw[aj a,aj (show v<n+1 by omega)];omega
    ·rw[ak a];omega
theorem Yj (of:U):∀n,(nq of n).length<=of.countP (fun v=>decide (v<(n:Int)))
 |0=>za1 _
 |n+1=>by have ih:=Yj of n;have st:=abk (n:Int) of;simp only[nq];split;rename_i h;rw[aj h] at st;rw[AN,AT];push_cast;omega;rename_i h;rw[ak h] at st;push_cast;omega
theorem Yi (m:Int) (of:U):(e7 m of).length<=of.length:=zae (Yj of m.toNat) za7
theorem azc {m:Int} {of:U} {x:Int} (h:x∈e7 m of):x∈of:=by obtain⟨_,_,_,h⟩:=(MT of x _).1 h;exact h
theorem azd {m:Int} {of:U} (b:of≠[]) (a:∀v∈of,0<=v/\v<m):0<(e7 m of).length:=by rcases of with _|⟨v,l⟩;exact absurd rfl b;have:=a v (by simp);exact za5 ((MT (v::l) v _).2 ⟨v.toNat,by omega,by omega,by simp⟩)
theorem Yl:∀(A:U) (q:Int),aC (A++[q])=aC A*q.toNat
 |[],q=>by simp[aC]
 |a::A,q=>by have:=Yl A q;simp only[zbn,aC,this,zbe]
theorem anZ {P:U} {q:Int} {n i:Nat} (h:i<P.length):ef (P++[q]) n i=ef P (n/q.toNat) i:=by unfold ef dV;rw[zaD (by omega),Yl,zaL,<-Nat.div_div_eq_div_mul];rw[show(P++[q]).getD i 0=P.getD i 0 by rw[co,zas h,<-co]]
theorem anX (P:U) (q:Int) (n:Nat):ef (P++[q]) n P.length=((n%q.toNat:Nat):Int):=by unfold ef dV;rw[show(P++[q]).drop (P.length+1)=[] from za6 (by simp),show aC []=1 from rfl,zbF];rw[show(P++[q]).getD P.length 0=q by rw[co,zaq (zac _),zaM];rfl]
theorem adP {α:Type} (q:Nat) (f:Nat->α):∀a,gL (a*q) f=(gL a fun x=>gL q fun y=>f (x*q+y)).flatten
 |0=>by simp[gL]
 |a+1=>by have b:=adP q f a;have e:gL (a+1) (fun x=>gL q fun y=>f (x*q+y))=gL a (fun x=>gL q fun y=>f (x*q+y))++[gL q fun y=>f (a*q+y)]:=(by unfold gL;rw[zaS,zai];rfl);rw[e,List.flatten_append,<-b,zal,zam];unfold gL;rw[List.range_add,zai,zby];simp only[List.flatten_cons,List.flatten_nil,zaH];rfl
theorem Pf {α β:Type} (g:α->β) (l:List α) (d:α):gL l.length (fun i=>g (l.getD i d))=l.map g:=by apply zaK;intro i;by_cases h:i<l.length;rw[Ic _ h,Pe,getD_some d h];rfl;rw[zad (by rw[xH];omega),zad (by rw[wt];omega)]
theorem KH (m:Int) (R:List U) (of:U):ee m (R++[of])=(ee m R).flatMap fun l=>(e7 m of).map fun x=>l++[x]:=by unfold ee;rw[List.foldl_append];rfl
theorem ay2 {m:Int} {R:List U} {of:U} {x y:Nat} (h:y<(e7 m of).length): iI m (R++[of]) (aM (cV m (R++[of])) (x*(e7 m of).length+y))=iI m R (aM (cV m R) x)++[(e7 m of).getD y 0]:=by have a:cV m (R++[of])=cV m R++[((e7 m of).length:Int)]:=(by simp[cV]);have hl:(cV m R).length=R.length:=(by simp[cV]);have b:(x*(e7 m of).length+y)/(e7 m of).length=x:=(by rw[zbi,Nat.add_mul_div_right _ _ (by omega),zbo h,zbz]);have hr:(x*(e7 m of).length+y)%(e7 m of).length=y:=(by rw[zbi,Nat.add_mul_mod_self_right,zbp h]);unfold iI;rw[AN,AT];rw[show dd (R.length+1) (fun i=>(e7 m ((R++[of]).getD i [])).getD ((aM (cV m (R++[of])) (x*(e7 m of).length+y)).getD i 0).toNat 0)=dd R.length (fun i=>(e7 m ((R++[of]).getD i [])).getD ((aM (cV m (R++[of])) (x*(e7 m of).length+y)).getD i 0).toNat 0)++[(e7 m ((R++[of]).getD R.length [])).getD ((aM (cV m (R++[of])) (x*(e7 m of).length+y)).getD R.length 0).toNat 0] from(QR _ _).symm];congr 1;refine ko fun i c=>?_;rw[zw (by rw[a,AN];omega),zw (by omega),a,anZ (by omega),GB,b];rw[show(R++[of]).getD i []=R.getD i [] by rw[co,zas c,<-co]];rw[zw (by rw[a,AN,AT];omega),a];rw[show R.length=(cV m R).length from hl.symm,anX];simp only[GB,hr];rw[show(R++[of]).getD (cV m R).length []=of by rw[hl,co,zaq (zac _),zaM];rfl]
theorem OQ (m:Int):∀(k:Nat) (R:List U),R.length=k->gL (aC (cV m R)) (fun n=>iI m R (aM (cV m R) n))=ee m R
 |0,R,h=>by rw[zak h];rfl
 |k+1,R,h=>by obtain⟨R,of,rfl⟩:∃a of,R=a++[of]:=⟨R.dropLast,R.getLast (by intro e;rw[e] at h;simp at h),(zan _).symm⟩;have c:=OQ m k R (by simpa using h);have b:cV m (R++[of])=cV m R++[((e7 m of).length:Int)]:=(by simp[cV]);rw[KH,<-c,show aC (cV m (R++[of]))=aC (cV m R)*(e7 m of).length by rw[b,Yl,GB],adP,List.flatMap_def];congr 1;rw[show(gL (aC (cV m R)) fun n=>iI m R (aM (cV m R) n)).map (fun l=>(e7 m of).map fun x=>l++[x])=gL (aC (cV m R)) (fun n=>(e7 m of).map fun x=>iI m R (aM (cV m R) n)++[x]) by unfold gL;rw[zby];rfl];refine xG fun x _=>?_;rw[<-Pf (fun v=>iI m R (aM (cV m R) x)++[v]) (e7 m of) 0];exact xG fun y hy=>ay2 hy
structure PdF (D:U) (m:Int) (R:List U):Prop where
 l:(cV m R).length=D.length
 get:∀i,i<D.length->(cV m R).getD i 0=((e7 m (R.getD i [])).length:Int)
 b:∀i,i<D.length->1<=(e7 m (R.getD i [])).length/\((e7 m (R.getD i [])).length:Int)<=D.getD i 0
 g:jG (cV m R)
 p1:1<=aC (cV m R)
 pD:aC (cV m R)<=aC D
section
variable {D:U} {m:Int} {R:List U}
theorem fJ.pd (H:fJ D m R):PdF D m R:=by have g:=H.rl;have hl:(cV m R).length=D.length:=(by simp only[cV,wt];exact g);have c:∀i,i<D.length->(cV m R).getD i 0=((e7 m (R.getD i [])).length:Int):=fun i a=>(by rw[co,cV,Pe,getD_some [] (show i<R.length by omega)];rfl);have b:∀i,i<D.length->1<=(e7 m (R.getD i [])).length/\((e7 m (R.getD i [])).length:Int)<=D.getD i 0:=fun i a=>(by have d:=H.row i a;have h2:=H.re a;have h3:=Yi m (R.getD i []);have h4:=azd (m:=m) (of:=R.getD i []) (by intro e;rw[e] at d;simp only[zat] at d;omega) (H.al i a);omega);have f:∀x∈cV m R,1<=x/\x<=8:=fun x hx=>(by obtain⟨i,a,rfl⟩:=zah.1 hx;have e:(cV m R)[i]=(cV m R).getD i 0:=(by rw[co,By a];rfl);have a1:=b i (by omega);have a2:=H.re (i:=i) (by omega);rw[e,c i (by omega)];omega);have E2:=H.cB;exact⟨hl,c,b,⟨by omega,fun x hx=>by have:=f x hx;omega⟩,vt fun x hx=>(f x hx).1,Yn hl fun i a=>by rw[c i (by omega)];have:=b i (by omega);omega⟩
theorem I1 {P:U} (h:jG P) (n:Nat) {i:Nat} (a:i<P.length):0<=(aM P n).getD i 0/\(aM P n).getD i 0<P.getD i 0:=by
 obtain⟨d,d1,e,c,d4,d5⟩:=HW h a;have b:(aM P n).getD i 0=((n/dV P (i+1)%d:Nat):Int):=by rw[zw a];unfold ef;rw[c]
 have cF:=za9 (n/dV P (i+1)) (show 0<d by omega);rw[b,e];omega
theorem fJ.ix (H:fJ D m R) (n:Nat) {i:Nat} (a:i<D.length):∃k:Nat,(aM (cV m R) n).getD i 0=(k:Int)/\k<(e7 m (R.getD i [])).length:=by have P:=H.pd;have:=I1 P.g n (i:=i) (by have:=P.l;omega);rw[P.get i a] at this;exact⟨((aM (cV m R) n).getD i 0).toNat,by omega,by omega⟩
theorem ay1 {ix:U} {i:Nat} (a:i<R.length):(iI m R ix).getD i 0=(e7 m (R.getD i [])).getD (ix.getD i 0).toNat 0:=by rw[co,iI,rI _ a];rfl
theorem fJ.pick (H:fJ D m R) (n:Nat):fE R (iI m R (aM (cV m R) n)):=by refine⟨fT _ _,fun i c=>?_⟩;have Bj:=H.rl;obtain⟨k,b,a⟩:=H.ix n (i:=i) (by omega);rw[ay1 c,b,GB];exact azc (eF a)
theorem fJ.Ox (H:fJ D m R) {ch:U} (c:fE R ch):ch.length<=12/\∀v∈ch,0<=v/\v<=12:=by
 obtain⟨h1,a⟩:=c;have Bj:=H.rl;have E2:=H.cB;have hm:=H.FO;refine⟨by omega,fun v b=>?_⟩;obtain⟨i,d,rfl⟩:=zah.1 b;have e:ch[i]=ch.getD i 0:=by rw[co,By d];rfl
 have:=H.al i (by omega) _ (a i (by omega));rw[e];omega
theorem fJ.Zy (H:fJ D m R) {ch:U} (a:fE R ch):yy ch=some (pA ch):=aj (H.Ox a)
theorem fJ.aAX (H:fJ D m R) {ch:U} (d:fE R ch):0<=pA ch/\pA ch<=144:=by obtain⟨h1,c⟩:=H.Ox d;have b:∀k,k<=ch.length->0<=sm k (fun i=>ch.getD i 0)/\sm k (fun i=>ch.getD i 0)<=12*k:=(by intro k;induction k with|zero=>exact fun _=>⟨zbc 0,zbc 0⟩|succ k a=>intro hk;have a:=a (by omega);have:=c _ (eF (show k<ch.length by omega));simp only[sm];omega);have:=b ch.length (zac _);unfold pA;omega
theorem fJ.ai1 (H:fJ D m R) {ch:U} (d:fE R ch):hZ (pA ch) m=some (pA ch%m):=by have c:=H.aAX d;have hm:=H.m1;have:=aa5 (a:=(pA ch).toNat) (b:=m.toNat) (by omega);rw[show(((pA ch).toNat:Nat):Int)=pA ch by omega,show((m.toNat:Nat):Int)=m by omega] at this;rw[this];congr 1;rw[Int.natCast_emod,zbd c.1,zbd (by omega)]
end
def qg (L:U) (m:Int) (R:List U) (n:Nat):List Bk:=((gL n fun n=>iI m R (aM (cV m R) n)).filter (yj m)).map (nR L R)
theorem anc {L:U} {m:Int} {R:List U} {n:Nat} (h:pA (iI m R (aM (cV m R) n))%m=0):qg L m R (n+1)=qg L m R n++[nR L R (iI m R (aM (cV m R) n))]:=by unfold qg;rw[<-adO,dn,zaI,zai,zaw (by unfold yj;exact decide_eq_true h)];rfl
theorem anb {L:U} {m:Int} {R:List U} {n:Nat} (h:¬pA (iI m R (aM (cV m R) n))%m=0):qg L m R (n+1)=qg L m R n:=by unfold qg;rw[<-adO,dn,zaI,zai,zax (by unfold yj;simpa using h)];simp
theorem ana (L:U) (m:Int) (R:List U) (n:Nat):(qg L m R n).length<=n:=by unfold qg;rw[wt];exact zae (Pd _ _) (Nat.le_of_eq (xH _ _))
theorem am9 (L:U) (m:Int) (R:List U):qg L m R (aC (cV m R))=(gm m R).map (nR L R):=by unfold qg gm;rw[OQ m R.length R rfl]
def uw (m:Int) (R:List U) (i c q:Nat):U:=if q<i then e7 m (R.getD q []) else if q=i then nq (R.getD i []) c else[]
theorem ay8 (m:Int) (R:List U) (i:Nat) (n:Nat):gL n (uw m R i 0)=gL n (fun q=>if q<i then e7 m (R.getD q []) else[]):=xG fun q _=>by unfold uw;by_cases h:q<i;rw[aj h,aj h];rw[ak h,ak h];by_cases e:q=i;rw[aj e];rfl;rw[ak e]
theorem ay9 (m:Int) (R:List U) (i:Nat) (n:Nat):gL n (uw m R i m.toNat)=gL n (fun q=>if q<i+1 then e7 m (R.getD q []) else[]):=xG fun q _=>by unfold uw;by_cases h:q<i;rw[aj h,aj (by omega)];rw[ak h];by_cases e:q=i;subst e;rw[aj rfl,aj (by omega)];rfl;rw[ak e,ak (by omega)]
theorem azb {m:Int} {R:List U} {i c n:Nat} (h:(c:Int)∈R.getD i []):bB (gL n (uw m R i c)) i (nq (R.getD i []) c++[(c:Int)])=gL n (uw m R i (c+1)):=by rw[adQ];refine xG fun q _=>?_;by_cases e:q=i;subst e;rw[aj rfl];unfold uw;rw[ak (by omega),aj rfl];exact(aj h).symm;rw[ak e];unfold uw;by_cases a:q<i;rw[aj a,aj a];rw[ak a,ak a,ak e,ak e]
theorem aza {m:Int} {R:List U} {i c n:Nat} (h:¬(c:Int)∈R.getD i []):gL n (uw m R i c)=gL n (uw m R i (c+1)):=xG fun q _=>by unfold uw;by_cases a:q<i;rw[aj a,aj a];rw[ak a,ak a];by_cases e:q=i;rw[aj e,aj e];exact(ak h).symm;rw[ak e,ak e]
theorem aiD (of:U) (n:Nat):(nq of n).length<=of.length:=zae (Yj of n) za7
theorem ao7 (x:T3×gW) (y:List Bk) (h:Ca x=some y):Sx aN x=some y:=by
 obtain⟨⟨L,D,A⟩,⟨m,R⟩⟩:=x;simp only[Ca,aac] at h;split at h
 ·rename_i o;rw[<-h];have H:=EI o;have P:=H.pd;have V4:=H.cB;have t:=H.rl;have hp4:=H.p4;have jw:=H.m1;have ark:=H.FO;have mM:=P.p1;have hpD:=P.pD;have w:=P.l;have hLl:L.length<=12:=by
   simp only[mY,zag,decide_eq_true_eq] at o;by_cases u:ly L D=true/\fp D<=4096
   ·exact(gH u.1).1
   ·have e:fg L D= -1:=ak u;rw[e] at o;exact absurd o.1 (by decide)
  simp only[Sx,ah];rw[qH (n:=ab R) (by simp only[ab,eD];omega)];simp only[aQ];rw[qH (n:=ab R) (by simp only[ab,eD];omega)];simp only[aQ];rw[show aO 0 (ab R) (ab (cR (ab R) ([]:U)))=some () by rw[uv];exact be _,show aO 0 (ab R) (ab (cR (ab R) (0:Int)))=some () by rw[uv];exact be _];simp only[aQ];rw[eR (fun i=>((R,aD (ab R),(i:Int)),(L,D,A),(m,R),gL R.length (fun q=>if q<i then e7 m (R.getD q []) else[]),gL R.length (fun q=>if q<i then((e7 m (R.getD q [])).length:Int) else 0))) (r:=AI ((L,D,A),(m,R),gL R.length (fun q=>e7 m (R.getD q [])),cV m R)) R.length ?a1 ?a2 ?a3 dE]
  case a3=>
   rw[Vk (ab R) (fun q=>e7 m (R.getD q [])),Vk (ab R) (fun q=>((e7 m (R.getD q [])).length:Int))];rfl
  case a2=>
   dsimp only
   rw[aW (iQ R)];simp only[be,aQ];rw[Vj,Vj,Pf (fun of=>((e7 m of).length:Int)) R []];rfl
  case a1=>
   intro i d;have E:=H.row i (by omega);have B:=H.re (i:=i) (by omega);dsimp only
   rw[aX (dg (by rw[nl];omega)),cE,getD_some ([]:U) d];simp only[aQ,be];rw[eR (fun c=>(((i:Int),R.getD i [],(c:Int),R,aD (ab R),(i:Int)),(L,D,A),(m,R),gL R.length (uw m R i c),gL R.length (fun q=>if q<i then((e7 m (R.getD q [])).length:Int) else 0))) (r:=AI (((i:Int),(i:Int),R,aD (ab R)),(L,D,A),(m,R),gL R.length (fun q=>if q<i+1 then e7 m (R.getD q []) else[]),gL R.length (fun q=>if q<i then((e7 m (R.getD q [])).length:Int) else 0))) m.toNat ?b1 ?b2 ?b3 dE]
   case b3=>rw[ay8];rfl
   case b2=>
    dsimp only
    rw[aW dQ]
    try simp only[be,aQ]
    rw[ay9]
   case b1=>
    intro c oQ;have LM:=aiD (R.getD i []) c;dsimp only
    rw[aX dg,show uI (R.getD i [],(c:Int))=some (decide ((c:Int)∈R.getD i [])) from aj (by dsimp only;omega)]
    simp only[aQ];rw[d6,show(c:Int)+1=((c+1:Nat):Int) by push_cast;rfl];by_cases hm:(c:Int)∈R.getD i []
    ·rw[show decide ((c:Int)∈R.getD i [])=true from decide_eq_true hm,aX (by rfl),KW _ d]
     simp only[aQ,f9];rw[Ls _ d];simp only[aQ,az0];rw[show uw m R i c i=nq (R.getD i []) c by unfold uw;rw[ak (by omega),aj rfl]];rw[show bc [(c:Int)] 0 1=some [(c:Int)] from rfl]
     simp only[aQ];rw[kv (by simp only[av,ab,AT,eD];omega)];simp only[aQ];rw[show dn (nq (R.getD i []) c) [(c:Int)]=nq (R.getD i []) c++[(c:Int)] from rfl,azb hm,Vi]
     simp only[aQ,be]
    ·rw[show decide ((c:Int)∈R.getD i [])=false from decide_eq_false hm,aW (by rfl),aza hm]
     try simp only[aQ,be]
   simp only[bK,If];rw[KW _ d];simp only[aQ,f9];rw[Ls _ d];simp only[aQ];rw[KW _ d];simp only[aQ,f9];rw[Ls _ d];simp only[aQ,be];rw[aj (show i<i+1 by omega),show aD (ab (e7 m (R.getD i [])))=((e7 m (R.getD i [])).length:Int) from rfl,adR (fun q=>((e7 m (R.getD q [])).length:Int)),Vi]
   simp only[aQ,be];rw[d6];rfl
  simp only[bK,If];rw[qH (n:=ab (cV m R)) (by simp only[ab,eD];omega)];simp only[aQ,be,Ib];rw[show aO 0 (ab (cV m R)) (ab (cR (ab (cV m R)) (0:Int)))=some () by rw[uv];exact be _];simp only[aQ];obtain⟨Q,s⟩:∃Q,aC (cV m R)=Q+1:=⟨aC (cV m R) - 1,by omega⟩;rw[af1 (Q+1) (fun n=>((L,D,A),(m,R),gL R.length (fun q=>e7 m (R.getD q [])),cV m R,qg L m R n,aM (cV m R) n)) (r:=qg L m R (Q+1)) (by omega) ?e1 ?e3 (zbj dE)]
  case e3=>rw[asm P.g];rfl
  case e1=>
   intro n hn;have f:=H.pick n;have aBD:=H.Ox f;have rm:(aM (cV m R) n).length=R.length:=(fT _ _).trans (w.trans t.symm);have Lv:=ana L m R n;dsimp only
   rw[qH (n:=ab (cV m R)) (by simp only[ab,eD];omega)];simp only[aQ,be];rw[show aO 0 (ab (cV m R)) (ab (cR (ab (cV m R)) (0:Int)))=some () by rw[uv];exact be _];simp only[aQ];rw[eR (fun j=>((aD (ab (aM (cV m R) n)),(j:Int)),(L,D,A),(m,R),gL R.length (fun q=>e7 m (R.getD q [])),cV m R,qg L m R n,aM (cV m R) n,gL R.length fun q=>if q<j then(e7 m (R.getD q [])).getD ((aM (cV m R) n).getD q 0).toNat 0 else 0)) (r:=AI ((L,D,A),(m,R),iI m R (aM (cV m R) n),gL R.length (fun q=>e7 m (R.getD q [])),cV m R,qg L m R n,aM (cV m R) n)) R.length ?c1 ?c2 ?c3 dE]
   case c3=>
    rw[show ab (cV m R)=R.length from w.trans t.symm,Vk R.length (fun q=>(e7 m (R.getD q [])).getD ((aM (cV m R) n).getD q 0).toNat 0)]
    rfl
   case c2=>
    dsimp only
    rw[aW (dQ (by rw[nl];omega))]
    try simp only[aQ,be]
    rw[Vj];rfl
   case c1=>
    intro j b;obtain⟨k,v,z⟩:=H.ix n (i:=j) (by omega);dsimp only
    rw[aX (dg (by rw[nl];omega)),kI (show j<ab (aM (cV m R) n) by unfold ab;omega)];simp only[aQ,f9];rw[show bQ (aM (cV m R) n) j=some ((aM (cV m R) n).getD j 0) from getD_some 0 (by omega)]
    simp only[aQ];rw[KW _ b];simp only[aQ,f9];rw[Ls _ b];simp only[aQ];rw[v,kI (show k<ab (e7 m (R.getD j [])) from z)]
    simp only[aQ];rw[show bQ (e7 m (R.getD j [])) k=some ((e7 m (R.getD j [])).getD k 0) from getD_some 0 z]
    simp only[aQ];rw[KW _ b];simp only[aQ,f9];rw[Ls _ b];simp only[aQ,be];have e:=adR (n:=R.length) (k:=j) (fun q=>(e7 m (R.getD q [])).getD ((aM (cV m R) n).getD q 0).toNat 0) 0;rw[v,GB] at e;rw[e,Vi];simp only[aQ];rw[d6];rfl
   simp only[bK,If,eH,aQ];rw[H.Zy f];simp only[aQ];rw[H.ai1 f];simp only[aQ];by_cases p:pA (iI m R (aM (cV m R) n))%m=0
   ·rw[aX (uV p),show vI L=some L from aj (by omega)]
    simp only[aQ,be,Ib];rw[eR (fun j=>((aD (ab (iI m R (aM (cV m R) n))),(j:Int)),(L,D,A),(m,R),iI m R (aM (cV m R) n),L,dd j (fun i=>((vals (R.getD i []) ((iI m R (aM (cV m R) n)).getD i 0)).length:Int)),gL R.length (fun q=>e7 m (R.getD q [])),cV m R,qg L m R n,aM (cV m R) n)) (r:=AI ((L,D,A),(m,R),iI m R (aM (cV m R) n),L,cf R (iI m R (aM (cV m R) n)),qg L m R n,gL R.length (fun q=>e7 m (R.getD q [])),cV m R,aM (cV m R) n)) (iI m R (aM (cV m R) n)).length ?d1 ?d2 ?d3 dE]
    case d3=>rfl
    case d2=>
     dsimp only
     rw[aW (iQ _)]
     try simp only[aQ,be]
     rfl
    case d1=>
     intro j b;have C:j<R.length:=by have:=f.1;omega
     have E:=H.row j (by omega);have B:=H.re (i:=j) (by omega);have hv:=Kh (R.getD j []) ((iI m R (aM (cV m R) n)).getD j 0);dsimp only
     rw[aX (dg (by rw[nl];omega)),kI (show j<ab (iI m R (aM (cV m R) n)) from b)]
     simp only[aQ,f9];rw[show bQ (iI m R (aM (cV m R) n)) j=some ((iI m R (aM (cV m R) n)).getD j 0) from getD_some 0 b]
     simp only[aQ];rw[cE,getD_some ([]:U) C];simp only[aQ];rw[show Ce (R.getD j [],(iI m R (aM (cV m R) n)).getD j 0)=some (vals (R.getD j []) ((iI m R (aM (cV m R) n)).getD j 0)) from aj (by dsimp only;omega)]
     simp only[aQ,be];rw[show bc [aD (ab (vals (R.getD j []) ((iI m R (aM (cV m R) n)).getD j 0)))] 0 1=some [aD (ab (vals (R.getD j []) ((iI m R (aM (cV m R) n)).getD j 0)))] from rfl]
     simp only[aQ];rw[kv (by simp only[av,ab,AT,fT,eD];omega)];simp only[aQ,oP];rw[show[aD (ab (vals (R.getD j []) ((iI m R (aM (cV m R) n)).getD j 0)))]=[((vals (R.getD j []) ((iI m R (aM (cV m R) n)).getD j 0)).length:Int)] from rfl,QR j fun i=>((vals (R.getD i []) ((iI m R (aM (cV m R) n)).getD i 0)).length:Int),d6]
     rfl
    simp only[iJ,aQ,be];rw[show aO 0 1 (ab [(iI m R (aM (cV m R) n),L,cf R (iI m R (aM (cV m R) n)),([]:U))])=some () from rfl]
    simp only[aQ];rw[kv (by simp only[av,ab,AT,eD];omega)];simp only[aQ,oP,eH,be];rw[show dn (qg L m R n) [(iI m R (aM (cV m R) n),L,cf R (iI m R (aM (cV m R) n)),([]:U))]=qg L m R (n+1) from(anc p).symm,ah5 P.g (by omega) (by omega),s]
    simp only[aQ];by_cases a:n+1<Q+1
    ·rw[decide_eq_true a,aj a,aW (by rfl)]
     try simp only[aQ,be]
     rw[show aO 0 (ab (aM (cV m R) n)) (ab (aM (cV m R) (n+1)))=some () from qj ((fT _ _).trans (fT _ _).symm)]
     rfl
    ·obtain rfl:n=Q:=by omega
     rw[decide_eq_false a,ak a,aX (by rfl)]
     try simp only[aQ,iJ]
   ·rw[aW (nw p)];simp only[aQ,eH,be];rw[ah5 P.g (by omega) (by omega),s];rw[<-anb (L:=L) p];simp only[aQ];by_cases a:n+1<Q+1
    ·rw[decide_eq_true a,aj a,aW (by rfl)]
     try simp only[aQ,be]
     rw[show aO 0 (ab (aM (cV m R) n)) (ab (aM (cV m R) (n+1)))=some () from qj ((fT _ _).trans (fT _ _).symm)]
     rfl
    ·obtain rfl:n=Q:=by omega
     rw[decide_eq_false a,ak a,aX (by rfl)]
     try simp only[aQ,iJ]
  rw[<-s,am9]
 ·cases h
theorem Z8 {D:U} {m:Int} {R:List U} (H:fJ D m R):ye R=D/\KR (m,R):=by have Bj:=H.rl;have e:ye R=D:=(by apply zaK;intro i;by_cases a:i<D.length;rw[ye,Pe,getD_some [] (show i<R.length by omega),getD_some 0 a,<-H.row i a];rfl;rw[zad (by simp only[ye,wt];omega),zad (by omega)]);refine⟨e,⟨H.m1,H.FO⟩,by have:=H.cB;dsimp only;omega,fun l hl=>?_,by dsimp only;rw[e];exact H.p4⟩;obtain⟨i,a,rfl⟩:=zah.1 hl;have a:i<R.length:=a;show(1<=R[i].length/\R[i].length<=8)/\∀v∈R[i],0<=v/\v<m;have b:R[i]=R.getD i []:=(by rw[co,By a];rfl);have h1:=H.row i (by omega);have h2:=H.re (i:=i) (by omega);rw[b];exact⟨by omega,H.al i (by omega)⟩
theorem anq {m:Int} {R:List U} (h:KR (m,R)):fJ (ye R) m R:=by obtain⟨⟨g,e⟩,b,c,f⟩:=h;have hl:(ye R).length=R.length:=(by simp[ye]);have d:∀i,i<R.length->(ye R).getD i 0=((R.getD i []).length:Int):=fun i a=>(by rw[co,ye,Pe,getD_some [] a];rfl);have hm:∀i,i<R.length->R.getD i []∈R:=fun i a=>zao (getD_some [] a);have hd:∀x∈ye R,1<=x/\x<=8:=fun x hx=>(by obtain⟨l,hl,rfl⟩:=IT.1 hx;have:=(c l hl).1;omega);exact⟨g,e,by rw[hl];exact b,hd,⟨by dsimp only at b;omega,fun x hx=>by have:=hd x hx;omega⟩,vt fun x hx=>(hd x hx).1,f,hl.symm,fun i a=>(d i (by omega)).symm,fun i a=>(c _ (hm i (by omega))).2⟩
theorem TR {m:Int} {S:List U} {l:U} (h:l∈ee m S):∃n,l=iI m S (aM (cV m S) n):=by rw[<-OQ m S.length S rfl] at h;obtain⟨n,_,e⟩:=IT.1 h;exact⟨n,e.symm⟩
theorem amJ {m:Int} {S:List U} {l:U} (h:l∈ee m S):l.length=S.length:=by obtain⟨n,rfl⟩:=TR h;exact fT _ _
theorem acu {α β:Type} (K:List α) (g:α->List β) (q:Nat) (h:∀l,(g l).length=q):(K.flatMap g).length=K.length*q:=by induction K with|nil=>simp|cons a K b=>rw[zbg,AN,b,h,zap,zal,zam,zbi]
theorem aaD {m:Int}:∀(k:Nat) (S:List U),S.length=k->(∀l∈S,l.length<=8)->(ee m S).length<=8^k
 |0,S,h,_=>by rw[zak h];exact zac 1
 |k+1,S,h,h8=>by obtain⟨S,of,rfl⟩:∃a of,S=a++[of]:=⟨S.dropLast,S.getLast (by intro e;rw[e] at h;simp at h),(zan _).symm⟩;have b:=aaD (m:=m) k S (by simpa using h) fun l hl=>h8 l (by simp[hl]);have h1:=h8 of (by simp);have h2:=Yi m of;rw[KH,acu _ _ (e7 m of).length (fun l=>by simp),Nat.pow_succ];exact IS b (by omega)
theorem R9 {α:Type} {l:List α} {i:Nat} (d:α) (h:i<l.length):l.take (i+1)=l.take i++[l.getD i d]:=by rw[zaY,getD_some d h];rfl
theorem aqy {α:Type} (p:α->Bool) {l:List α} {i:Nat} (d:α) (h:i<l.length):(l.take (i+1)).filter p=(l.take i).filter p++(if p (l.getD i d)=true then[l.getD i d] else[]):=by rw[R9 d h,zaI];by_cases a:p (l.getD i d)=true;rw[aj a,zaw a];rfl;rw[ak a,zax a];rfl
def zO (m:Int) (of:U) (K:List U) (j:Nat):List U:=(K.take j).flatMap fun l=>(e7 m of).map fun x=>l++[x]
theorem axA {m:Int} {of:U} {K:List U} {j:Nat} (h:j<K.length):zO m of K (j+1)=zO m of K j++(nq of m.toNat).map fun x=>K.getD j []++[x]:=by unfold zO;rw[R9 [] h,zaz,zbg,List.flatMap_nil,zaH];rfl
theorem aqq (x:gW) (y:List U) (h:G8 x=some y):TB aN x=some y:=by obtain⟨m,R⟩:=x;simp only[G8] at h;split at h;rename_i f;rw[<-h];have H:=anq f;have V4:R.length<=12:=f.2.1;have jw:=H.m1;have ark:=H.FO;have s:∀l∈R,l.length<=8:=fun l hl=>(f.2.2.1 l hl).1.2;have PE:eD=140737488355328:=rfl;have o:∀i,i<=12->(8:Nat)^i<=68719476736:=fun i a=>zae (Nat.pow_le_pow_right (by decide) a) (by decide);have v:∀i,i<=R.length->(ee m (R.take i)).length<=68719476736:=fun i a=>zae (aaD i (R.take i) (by rw[IN];omega) fun l hl=>s l (zba hl)) (o i (by omega));simp only[TB,ah];rw[show ed ([]:U) 0=some [] from rfl];simp only[aQ];rw[show aO 0 1 (ab [([]:U)])=some () from rfl];simp only[aQ];rw[eR (fun i=>((R,aD (ab R),(i:Int)),(m,R),ee m (R.take i))) (r:=AI ((m,R),ee m R)) R.length ?a1 ?a2 ?a3 dE];(case a3=>rfl);(case a2=>dsimp only;rw[aW (iQ R)];(try simp only[be,aQ]);rw[OF]);(case a1=>intro i a;have hKi:=v i (by omega);have hof:=s _ (zao (getD_some [] a));have jz:=Yi m (R.getD i []);dsimp only;rw[aX (dg (by rw[nl];omega)),cE,getD_some ([]:U) a];simp only[aQ,be];rw[show aO 0 0 (ab ([]:List U))=some () from rfl];simp only[aQ];rw[eR (fun j=>((R.getD i [],R,aD (ab R),(i:Int),aD (ab (ee m (R.take i))),(j:Int)),(m,R),zO m (R.getD i []) (ee m (R.take i)) j,ee m (R.take i))) (r:=AI (((i:Int),R,aD (ab R)),(m,R),ee m (R.take (i+1)))) (ee m (R.take i)).length ?b1 ?b2 ?b3 dE];(case b3=>rfl);(case b2=>dsimp only;rw[aW (iQ _)];(try simp only[be,aQ]);rw[show zO m (R.getD i []) (ee m (R.take i)) (ee m (R.take i)).length=ee m (R.take (i+1)) by unfold zO;rw[OF,R9 [] a,KH]]);(case b1=>intro j b;have hlj:((ee m (R.take i)).getD j []).length<=12:=(by have:=amJ (zao (getD_some [] b));rw[this,IN];omega);have bJ:(zO m (R.getD i []) (ee m (R.take i)) j).length<=68719476736*8:=(by unfold zO;rw[acu _ _ (e7 m (R.getD i [])).length (fun l=>by simp),IN];exact IS (by omega) (by omega));dsimp only;rw[aX (dg (by rw[nl];omega)),kI (show j<ab (ee m (R.take i)) from b)];simp only[aQ,f9];rw[show bQ (ee m (R.take i)) j=some ((ee m (R.take i)).getD j []) from getD_some [] b];simp only[aQ,be];rw[eR (fun c=>((R.getD i [],(ee m (R.take i)).getD j [],(c:Int),R,aD (ab R),(i:Int),aD (ab (ee m (R.take i))),(j:Int)),(m,R),zO m (R.getD i []) (ee m (R.take i)) j++(nq (R.getD i []) c).map (fun x=>(ee m (R.take i)).getD j []++[x]),ee m (R.take i))) (r:=AI (((j:Int),R.getD i [],R,aD (ab R),(i:Int),aD (ab (ee m (R.take i)))),(m,R),zO m (R.getD i []) (ee m (R.take i)) (j+1),ee m (R.take i))) m.toNat ?c1 ?c2 ?c3 dE];(case c3=>simp[nq]);(case c2=>dsimp only;rw[aW dQ];(try simp only[be,aQ]);rw[axA b]);(case c1=>intro c oQ;have LM:=aiD (R.getD i []) c;dsimp only;rw[aX dg,show vO (R.getD i [],(c:Int))=some (vals (R.getD i []) (c:Int)) from aj (by dsimp only;omega)];simp only[aQ,be];rw[d6,show(c:Int)+1=((c+1:Nat):Int) by push_cast;rfl];by_cases hm:(c:Int)∈R.getD i [];have hv:=ZU hm;rw[aX (dg (by rw[nl];omega)),show mw ((ee m (R.take i)).getD j [])=some ((ee m (R.take i)).getD j []) from aj (by omega)];simp only[aQ,be];rw[show bc [(c:Int)] 0 1=some [(c:Int)] from rfl];simp only[aQ];rw[kv (by simp only[av,ab,AT];omega)];simp only[aQ];rw[show ed (dn ((ee m (R.take i)).getD j []) [(c:Int)]) (av (ab ((ee m (R.take i)).getD j [])) (ab [(c:Int)]))=some ((ee m (R.take i)).getD j []++[(c:Int)]) from alQ (by simp[dn,av,ab])];simp only[aQ];rw[show aO 0 1 (ab [(ee m (R.take i)).getD j []++[(c:Int)]])=some () from rfl];simp only[aQ];rw[kv (by simp only[av,ab,AT,AN,wt];omega)];simp only[aQ,oP];rw[show nq (R.getD i []) (c+1)=nq (R.getD i []) c++[(c:Int)] from aj hm,zai];unfold dn;rw[zaa];rfl;rw[aBh hm,aW (dQ (by rw[nl];simp)),show nq (R.getD i []) (c+1)=nq (R.getD i []) c from ak hm]);simp only[bK,If,be,aQ];rw[d6];rfl);simp only[bK,If,be,aQ];rw[d6];rfl);simp only[bK,If,be,aQ];have g:=v R.length (zac _);rw[OF] at g;rw[show aO 0 0 (ab ([]:List U))=some () from rfl];simp only[aQ];rw[eR (fun k=>((aD (ab (ee m R)),(k:Int)),(m,R),((ee m R).take k).filter (yj m),ee m R)) (r:=AI (gm m R)) (ee m R).length ?d1 ?d2 ?d3 dE];(case d3=>rfl);(case d2=>dsimp only;rw[aW (iQ _)];(try simp only[be,aQ]);rw[OF];rfl);(case d1=>intro k e;obtain⟨n,hn⟩:=TR (zao (getD_some [] e));have t:fE R ((ee m R).getD k []):=(by rw[hn];exact H.pick n);obtain⟨v1,A⟩:=H.Ox t;have m5:(((ee m R).take k).filter (yj m)).length<=68719476736:=zae (Pd _ _) (by rw[IN];omega);have u:∀q,q<=((ee m R).getD k []).length->0<=sm q (fun i=>((ee m R).getD k []).getD i 0)/\sm q (fun i=>((ee m R).getD k []).getD i 0)<=12*q:=(by intro q;induction q with|zero=>exact fun _=>⟨zbc 0,zbc 0⟩|succ q p=>intro w;have p:=p (by omega);have:=A _ (eF (show q<((ee m R).getD k []).length by omega));simp only[sm];omega);dsimp only;rw[aX (dg (by rw[nl];omega)),kI (show k<ab (ee m R) from e)];simp only[aQ,f9];rw[show bQ (ee m R) k=some ((ee m R).getD k []) from getD_some [] e];simp only[aQ,be];rw[eR (fun q=>(((ee m R).getD k [],sm q (fun i=>((ee m R).getD k []).getD i 0),aD (ab (ee m R)),(k:Int),(ee m R).getD k [],aD (ab ((ee m R).getD k [])),(q:Int)),(m,R),((ee m R).take k).filter (yj m),ee m R)) (r:=AI ((pA ((ee m R).getD k []),(ee m R).getD k [],(k:Int),aD (ab (ee m R))),(m,R),((ee m R).take k).filter (yj m),ee m R)) ((ee m R).getD k []).length ?e1 ?e2 ?e3 dE];(case e3=>rfl);(case e2=>dsimp only;rw[aW (iQ _)];(try simp only[be,aQ]);rfl);(case e1=>intro q w;have h1:=u q (by omega);have z:=u (q+1) (by omega);simp only[sm] at z;dsimp only;rw[aX (dg (by rw[nl];omega)),cE,getD_some (0:Int) w];simp only[aQ,be];rw[d6,d6];rfl);simp only[bK,If,be,aQ];rw[H.ai1 t];simp only[aQ];rw[aqy (yj m) [] e];by_cases d:pA ((ee m R).getD k [])%m=0;rw[aX (uV d)];rw[show aO 0 1 (ab [(ee m R).getD k []])=some () from rfl];simp only[aQ];rw[kv (by simp only[av,ab,AT];omega)];simp only[aQ,oP,be];rw[d6,show(k:Int)+1=((k+1:Nat):Int) by push_cast;rfl];rw[aj (show yj m ((ee m R).getD k [])=true from decide_eq_true d)];rfl;rw[aW (nw d),ak (show¬yj m ((ee m R).getD k [])=true from fun h=>d (of_decide_eq_true h)),zaH];(try simp only[aQ,be]);rw[d6,show(k:Int)+1=((k+1:Nat):Int) by push_cast;rfl]);simp only[bK,If,be,eH,aQ];cases h
def Au (r:Rg) (t:T3) (R:List U) (ch:U):Bk:=(ch,t.1,cf R ch,kc r t.2.2 (jl t.2.1 R ch) (aC (cf R ch)))
def aaW (r:Rg) (t:T3) (c:gW):List Bk:=(gm c.1 c.2).map (Au r t c.2)
def G7:Rg×T3×gW×U->Option Bk:=fun x=>if gM x.1 x.2.1=true/\mY (x.2.1,x.2.2.1)=true/\fE x.2.2.1.2 x.2.2.2 then some (Au x.1 x.2.1 x.2.2.1.2 x.2.2.2) else none
def Cq:Rg×T3×gW->Option (List Bk):=fun x=>if gM x.1 x.2.1=true/\mY x.2=true then some (aaW x.1 x.2.1 x.2.2) else none
def Te (NN:Nat):((Int×(Int×Int))×((U×(U×U))×(Int×(List U))))->(Option Bool):=
 (fun(((i0,i1,i2),(l3,l4,l5),i6,l7):((Int×(Int×Int))×((U×(U×U))×(Int×(List U)))))=>
 (GW ((i0,i1,i2),(l3,l4,l5),i6,l7)).ae (fun((l8,l9,bS),KM)=>
 au (KM)
 ((bc bS 0 (ab bS)).ae (fun cB=>
 (Cm (cB,l5)).ae (fun As=>
 some As)))
 (some false)))
def Sq (NN:Nat):((Int×(Int×Int))×((U×(U×U))×(Int×(List U))))->(Option Bool):=
 (fun(((i0,i1,i2),(l3,l4,l5),i6,l7):((Int×(Int×Int))×((U×(U×U))×(Int×(List U)))))=>
 (yw ((i0,i1,i2),l3,l4,l5)).ae (fun b8=>
 au (df b8)
 (some false)
 ((GF ((l3,l4,l5),i6,l7)).ae (fun b9=>
 au (df b9)
 (some false)
 ((Cd (i0,i1,i2)).ae (fun bS=>
 bK (ah bS (
 cj NN (fun((dX,(eC,fG,gf),(dk,dm,dA),(g9,eY),gi):(Int×((Int×(Int×Int))×((U×(U×U))×((Int×(List U))×U)))))=>
 (vJ dm).ae (fun fP=>
 au (bO dX fP)
 ((GM (dm,dX)).ae (fun dP=>
 (bc dP 0 (ab dP)).ae (fun iB=>
 (Cb ((g9,eY),iB)).ae (fun dq=>
 (bc dq 0 (ab dq)).ae (fun fi=>
 (yy fi).ae (fun nD=>
 (hZ nD g9).ae (fun jX=>
 au (fy jX (0:Int))
 ((vK ((eC,fG,gf),(dk,dm,dA),dX)).ae (fun ii=>
 (bc gi 0 (ab gi)).ae (fun gK=>
 (Eo (ii,gK)).ae (fun TZ=>
 au (df TZ)
 (some (BY (BY false)))
 (ah gi (
 some (AI (bo .i64 dX 1,(eC,fG,gf),(dk,dm,dA),(g9,eY),gi))))))))
 (ah gi (
 some (AI (bo .i64 dX 1,(eC,fG,gf),(dk,dm,dA),(g9,eY),gi)))))))))))
 (some (BY (AI ())))))
 ((0:Int),(i0,i1,i2),(l3,l4,l5),(i6,l7),bS)))
 (fun _=>
 some true)))))))
def Tz (NN:Nat):((Int×(Int×Int))×((U×(U×U))×((Int×(List U))×U)))->(Option (U×(U×(U×U)))):=
 (fun(((i0,i1,i2),(l3,l4,l5),(i6,l7),l8):((Int×(Int×Int))×((U×(U×U))×((Int×(List U))×U))))=>
 (G9 ((i6,l7),l8)).ae (fun(l9,bS)=>
 (mw l3).ae (fun cZ=>
 bK ((aO 0 0 (ab (([]:U)))).ae (fun _=>
 (aO 0 0 (ab (([]:U)))).ae (fun _=>
 (aO 0 0 (ab (([]:U)))).ae (fun _=>
 (aO 0 0 (ab (([]:U)))).ae (fun _=>
 ah cZ (
 (aO 0 0 (ab (([]:U)))).ae (fun _=>
 cj NN (fun(((cB,cM,cO,iG),(fH,gA,g9),(eY,gi,ir),dP,iB,dq,fi,gj,gB,ii):((U×((List U)×(U×Int)))×((Int×(Int×Int))×((U×(U×U))×(U×(U×(U×(U×(U×(U×U))))))))))=>
 (pC (cO,(4096:Int))).ae (fun tf=>
 au (bO iG tf)
 ((xg (cO,iG)).ae (fun lZ=>
 (bc lZ 0 (ab lZ)).ae (fun lC=>
 (Cp (cM,lC)).ae (fun hH=>
 (bc hH 0 (ab hH)).ae (fun iP=>
 (Ah (gi,iP)).ae (fun qt=>
 (pB ((fH,gA,g9),(eY,gi,ir),qt)).ae (fun gp=>
 ah ii (
 (bc gp 0 (ab gp)).ae (fun iL=>
 (iN (av (ab ii) (ab iL)) 8).ae (fun _=>
 ah iB (
 ah dq (
 ah fi (
 ah gj (
 ah gB (
 (aO 0 (av (ab ii) (ab iL)) (ab (dn ii iL))).ae (fun _=>
 some (AI ((cB,cM,cO,bo .i64 iG 1),(fH,gA,g9),(eY,gi,ir),dP,iB,dq,fi,gj,gB,dn ii iL))))))))))))))))))
 ((ah iB (
 ah dq (
 ah fi (
 ah gj (
 ah gB (
 ah ii (
 some (AI (cB,dP,iB,dq,fi,gj,gB,ii))))))))).ae (fun jZ=>
 some (BY jZ)))))
 ((l8,l9,bS,(0:Int)),(i0,i1,i2),(l3,l4,l5),bS,([]:U),([]:U),([]:U),([]:U),cZ,([]:U)))))))))
 (fun(qB,o6,mO,o7,nf,kN,jh,o8)=>
 (mw qB).ae (fun mP=>
 (bc mP 0 (ab mP)).ae (fun ja=>
 (bc jh 0 (ab jh)).ae (fun jO=>
 (bc o8 0 (ab o8)).ae (fun oB=>
 some (ja,jO,o6,oB)))))))))
def TA (NN:Nat):((Int×(Int×Int))×((U×(U×U))×(Int×(List U))))->(Option (List (U×(U×(U×U))))):=
 (fun(((i0,i1,i2),(l3,l4,l5),i6,l7):((Int×(Int×Int))×((U×(U×U))×(Int×(List U)))))=>
 (G8 (i6,l7)).ae (fun l8=>
 bK ((aO 0 0 (ab (([]:List (U×(U×(U×U))))))).ae (fun _=>
 cj NN (fun(((l9,fO,dX),(eC,fG,gf),(dk,dm,dA),(g9,eY),gi):(((List U)×(Int×Int))×((Int×(Int×Int))×((U×(U×U))×((Int×(List U))×(List (U×(U×(U×U)))))))))=>
 au (bO dX fO)
 ((bF l9 dX).ae (fun ir=>
 (G7 ((eC,fG,gf),(dk,dm,dA),(g9,eY),ir)).ae (fun(dP,iB,dq,fi)=>
 ah gi (
 (aO 0 1 (ab (((dP,iB,dq,fi)::([]:List (U×(U×(U×U)))))))).ae (fun _=>
 (iN (av (ab gi) (ab (((dP,iB,dq,fi)::([]:List (U×(U×(U×U)))))))) 96).ae (fun _=>
 (aO 0 (av (ab gi) (ab (((dP,iB,dq,fi)::([]:List (U×(U×(U×U)))))))) (ab (dn gi (((dP,iB,dq,fi)::([]:List (U×(U×(U×U))))))))).ae (fun _=>
 some (AI ((l9,fO,bo .i64 dX 1),(eC,fG,gf),(dk,dm,dA),(g9,eY),dn gi (((dP,iB,dq,fi)::([]:List (U×(U×(U×U)))))))))))))))
 ((ah gi (
 some (AI gi))).ae (fun gj=>
 some (BY gj))))
 ((l8,aD (ab l8),(0:Int)),(i0,i1,i2),(l3,l4,l5),(i6,l7),([]:List (U×(U×(U×U)))))))
 (fun gB=>
 (bc gB 0 (ab gB)).ae (fun ii=>
 some ii))))
theorem apT (x:Rg×T3×gW) (y:Bool) (h:vN x=some y):Te aN x=some y:=by obtain⟨⟨k,p,m⟩,⟨L,D,A⟩,b,R⟩:=x;simp only[vN] at h;split at h;rename_i f;rw[<-h];simp only[Te];rw[show GW ((k,p,m),(L,D,A),b,R)=some (HN (k,p,m) (L,D,A) (b,R)) from aj f];unfold HN oO;by_cases a:gM (k,p,m) (L,D,A)=true/\mY ((L,D,A),b,R)=true;rw[aj a];obtain⟨hr,_,_,⟨mM,ki⟩,g,_,_,_,_⟩:=mg a.1;have d:=K4 (D:=D) (c:=(b,R)) hr g (aC D) (zac _);simp only[aQ];rw[aX (by rfl),eH];simp only[aQ];rw[show Cm (mD (k,p,m) D (b,R) A (aC D),A)=some (decide (mD (k,p,m) D (b,R) A (aC D)=A)) from aj ⟨by rw[d];exact f.1.2.2,f.1.2.2⟩];simp only[aQ];congr 1;exact decide_eq_decide.2 ⟨fun e=>⟨a.1,a.2,e⟩,fun e=>e.2.2⟩;rw[ak a];simp only[aQ];rw[aW (by rfl)];congr 1;exact(decide_eq_false fun e=>a ⟨e.1,e.2.1⟩).symm;cases h
theorem aoY (x:Rg×T3×gW) (y:Bool) (h:yu x=some y):Sq aN x=some y:=by
  obtain⟨⟨k,p,m⟩,⟨L,D,A⟩,d,R⟩:=x;simp only[yu,vN] at h;split at h
  · rename_i E;rw[<-h];have W:=E.2;obtain⟨⟨l1,l2,u⟩,_⟩:=E;dsimp only at l1 l2 u;unfold oO;simp only[Sq,ah];rw[show yw ((k,p,m),L,D,A)=some (gM (k,p,m) (L,D,A)) from aj ⟨l1,l2,u⟩]
    simp only[aQ];cases ht:gM (k,p,m) (L,D,A) with
    |false=>rw[aX (b:=df false) rfl];simp
    |true=>
     rw[aW (b:=df true) rfl,show GF ((L,D,A),d,R)=some (mY ((L,D,A),d,R)) from aj W]
     simp only[aQ];cases kK:mY ((L,D,A),d,R) with
     |false=>rw[aX (b:=df false) rfl];simp
     |true=>
      rw[aW (b:=df true) rfl];obtain⟨hr,⟨hl,hd⟩,pN,⟨mM,ki⟩,J,H,kJ,M,_⟩:=mg ht;have hw:=mq hr;have hzl:=GA hr;rw[show Cd (k,p,m)=some (eX (k,p,m)) from aj hr]
      simp only[aQ,be];have r:vJ D=some ((aC D:Nat):Int):=by
        rw[<-M];exact aj ⟨.inl hl,hd⟩
      let q:Nat->Bool:=fun n=> !(xr D (d,R) n&&decide (fU A (n*ax (k,p,m)) (ax (k,p,m))≠eX (k,p,m)));have C:∀n,n<aC D->(vJ D).ae (fun(T:Int)=>
                    au (bO (n:Int) T)
                      ((GM (D,(n:Int))).ae (fun(F:U)=>
                        (bc F 0 (ab F)).ae (fun(O:U)=>
                          (Cb ((d,R),O)).ae (fun(dq:U)=>
                            (bc dq 0 (ab dq)).ae (fun(Q:U)=>
                              (yy Q).ae (fun(K:Int)=>
                                (hZ K d).ae (fun(V:Int)=>
                                  au (fy V (0:Int))
                                    ((vK ((k,p,m),(L,D,A),(n:Int))).ae (fun(Y:U)=>
                                      (bc (eX (k,p,m)) 0 (ab (eX (k,p,m)))).ae (fun(X:U)=>
                                        (Eo (Y,X)).ae (fun(P:Bool)=>
                                          au (df P)
                                            (some (BY (BY false)))
                                            (some (AI (bo .i64 (n:Int) (1:Int),(k,p,m),(L,D,A),(d,R),eX (k,p,m))))))))
                                    (some (AI (bo .i64 (n:Int) (1:Int),(k,p,m),(L,D,A),(d,R),eX (k,p,m)))))))))))
                      (some (BY (AI ()))))=if q n=true then some (AI (((n+1:Nat):Int),(k,p,m),(L,D,A),(d,R),eX (k,p,m))) else some (BY (BY false):((Int×(Rg×(T3×(gW×U))))⊕(Unit⊕Bool))):=by
        intro n hn;have hm:(n+1)*ax (k,p,m)<=aC D*ax (k,p,m):=zab _ hn;have s:=alJ ht kK n;have w:(aM D n).length=D.length:=fT _ _;have o:=Ok s (aM D n).length (zac _);have G:=s.1;dsimp only at G;rw[r];simp only[aQ];rw[aX dg,show GM (D,(n:Int))=some (aM D n) from aj ⟨H,by dsimp only;omega,by dsimp only;omega⟩]
        simp only[aQ,eH];rw[show Cb ((d,R),aM D n)=some (dd D.length (kf R (aM D n))) by
          rw[show Cb ((d,R),aM D n)=_ from aj s]
          dsimp only
          rw[w]]
        simp only[aQ,eH];have N:sm D.length (fun i=>(dd D.length (kf R (aM D n))).getD i 0)=sm D.length (kf R (aM D n)):=JS fun i g=>by
          rw[co,rI _ g];rfl
        rw[show yy (dd D.length (kf R (aM D n)))=some (sm D.length (kf R (aM D n))) by
          rw[show yy (dd D.length (kf R (aM D n)))=_ from aj ⟨by rw[fT];exact hl,fun v S=>by
            obtain⟨i,g,rfl⟩:=IT.1 S;exact(s.2.2 i (by dsimp only;rw[w];exact zaf.1 g)).2.2⟩]
          rw[fT,N]]
        simp only[aQ];rw[w] at o;rw[qM o.1 (by omega)];simp only[aQ];rw[d6];by_cases j:xr D (d,R) n=true
        · have z:=of_decide_eq_true j;rw[aX (show fy _ 0=true from bne_iff_ne.2 z),show vK ((k,p,m),(L,D,A),(n:Int))=some (fU A (n*ax (k,p,m)) (ax (k,p,m))) by
            rw[show vK ((k,p,m),(L,D,A),(n:Int))=_ from aj ⟨hr,by dsimp only;omega,by dsimp only;rw[GB];omega,u⟩]
            rfl]
          simp only[aQ];rw[show Eo (fU A (n*ax (k,p,m)) (ax (k,p,m)),eX (k,p,m))=some (decide (fU A (n*ax (k,p,m)) (ax (k,p,m))=eX (k,p,m))) from aj ⟨by
            have:(fU A (n*ax (k,p,m)) (ax (k,p,m))).length<=ax (k,p,m):=by unfold fU;rw[IN];omega
            dsimp only;omega,by dsimp only;omega⟩]
          simp only[aQ];by_cases t:fU A (n*ax (k,p,m)) (ax (k,p,m))=eX (k,p,m)
          · rw[decide_eq_true t,aW XU,aj (by simp[q,t])];rfl
          · rw[decide_eq_false t,aX (b:=df false) rfl,ak (by simp[q,t,j])]
        · have z:sm D.length (kf R (aM D n))%d=0:=zaW fun h=>j (decide_eq_true h);rw[z,aW (by rfl),aj (by simp[q,j])];rfl
      rw[FM (zay (aC D)) (fun i=>((i:Int),(k,p,m),(L,D,A),(d,R),eX (k,p,m))) q (.inr false) (.inl ()) ?b1 ?b2 ?b3 ?b0 (dE (by rw[zar];omega))]
      case b0=>rfl
      case b1=>
        intro i a f l;have g:=DC f;rw[zar] at g;have:a=i:=by rw[zaT g] at f;injection f with f;exact f.symm
        subst this;dsimp only
        exact(C a g).trans (aj l)
      case b2=>
        intro i a f l;have g:=DC f;rw[zar] at g;have:a=i:=by rw[zaT g] at f;injection f with f;exact f.symm
        subst this;dsimp only
        exact(C a g).trans (ak (by rw[l];simp))
      case b3=>
        dsimp only
        rw[r,zar];simp only[aQ];rw[aW dQ]
      have B:=abn (D:=D) (c:=(d,R)) hr J;by_cases l:(zay (aC D)).all q=true
      · rw[aj l];simp only[bK,If];have:mD (k,p,m) D (d,R) A (aC D)=A:=B.2 fun n hn j=>by
          have:=zav.1 l n (zaf.2 hn);simp only[q,j,zbx,Bool.not_eq_true',decide_eq_false_iff_not] at this;exact zaW fun h=>this h
        rw[this];simp
      · rw[ak l];simp only[bK,If];have:¬mD (k,p,m) D (d,R) A (aC D)=A:=fun e=>l (zav.2 fun n hn=>by
          have I:=B.1 e n (zaf.1 hn);cases j:xr D (d,R) n with
          |false=>simp[q,j]
          |true=>simp[q,j,I j])
        simp[this]
  · cases h
theorem Yo {B:U} (hl:B.length<=12) (a:∀x∈B,1<=x/\x<=8) (hp:aC B<=4096):pC (B,4096)=some ((aC B:Nat):Int):=by have c:=tC (D:=B) fun x hx=>(a x hx).1;have e:Ax 4096 B=(aC B:Int):=(by unfold Ax;rw[KO (by decide) _ 0 1 (fun x hx=>(a x hx).1) (by decide) (by decide),zbG,c,Int.min_eq_left (by omega)]);rw[<-e];exact aj ⟨by decide,by omega,zav.2 fun v b=>by have:=a v b;exact decide_eq_true (by omega)⟩
theorem aa3 (r:Rg) (A:U) (off:Nat->Nat):∀n,(kc r A off n).length<=n*ax r
 |0=>by simp[kc]
 |n+1=>by have ih:=aa3 r A off n;rw[kc,AN,zal,zam];have:(fU A (off n*ax r) (ax r)).length<=ax r:=(by unfold fU;rw[IN];omega);omega
theorem adW {r:Rg} {L D A:U} (a:gM r (L,D,A)=true) {o:Nat} (c:o<aC D):pB (r,(L,D,A),(o:Int))=some (fU A (o*ax r) (ax r)):=by obtain⟨hr,_,_,⟨mM,b⟩,hA,_,_,_,_⟩:=mg a;have d:=mq hr;have hm:(o+1)*ax r<=aC D*ax r:=zab _ c;have jV:aC D*ax r<=4096*6:=IS b d.2.2;have:=show pB (r,(L,D,A),(o:Int))=_ from aj ⟨hr,by dsimp only;omega,by dsimp only;rw[GB];omega,by dsimp only;omega⟩;rw[this];simp only[GB]
theorem avs {D:U} {m:Int} {R:List U} (H:fJ D m R) {ch:U} (a:fE R ch):G9 ((m,R),ch)=some (w7 R ch,cf R ch):=by have Bj:=H.rl;have hl:=H.cB;have dT:=a.1;refine aj ⟨by dsimp only;omega,by dsimp only;omega,fun l hl=>?_⟩;have:=(Z8 H).2.2.2.1 l hl;exact this.1.2
theorem aqo (x:Rg×T3×gW×U) (y:Bk) (h:G7 x=some y):Tz aN x=some y:=by obtain⟨⟨k,p,w⟩,⟨L,D,A⟩,⟨m,R⟩,ch⟩:=x;simp only[G7] at h;split at h;rename_i i;obtain⟨d,b,a⟩:=i;(try dsimp only at d b a);rw[<-h];have H:=EI b;have B:=H.blk a;obtain⟨hr,⟨hl,hd⟩,pN,⟨mM,ki⟩,hA,hD,kJ,Wj,_⟩:=mg d;have j:=mq hr;have Lv:=B.bl;have dT:=B.cl;have hpD:=B.pD;have hbp:=B.p1;have hLl:L.length<=12:=(by simp only[mY,zag,decide_eq_true_eq] at b;by_cases f:ly L D=true/\fp D<=4096;exact(gH f.1).1;have e:fg L D= -1:=ak f;rw[e] at b;exact absurd b.1 (by decide));have c:pC (cf R ch,4096)=some ((aC (cf R ch):Nat):Int):=Yo (by omega) B.b8 (by omega);simp only[Tz,ah];rw[avs H a];simp only[aQ];rw[show mw L=some L from aj (by omega)];simp only[aQ,be];rw[show aO 0 0 (ab ([]:U))=some () from rfl];simp only[aQ];rw[eR (fun n=>((ch,w7 R ch,cf R ch,(n:Int)),(k,p,w),(L,D,A),cf R ch,([]:U),([]:U),([]:U),([]:U),L,kc (k,p,w) A (jl D R ch) n)) (r:=AI (ch,cf R ch,([]:U),([]:U),([]:U),([]:U),L,kc (k,p,w) A (jl D R ch) (aC (cf R ch)))) (aC (cf R ch)) ?a1 ?a2 ?a3 dE];(case a3=>rfl);(case a2=>dsimp only;(try simp only[eH,aQ]);rw[c];simp only[aQ];rw[aW dQ];try simp only[be,aQ]);(case a1=>intro n hn;have E7:=aa3 (k,p,w) A (jl D R ch) n;have jV:n*ax (k,p,w)<=4096*6:=IS (by omega) j.2.2;have lB:(fU A (jl D R ch n*ax (k,p,w)) (ax (k,p,w))).length<=ax (k,p,w):=(by unfold fU;rw[IN];omega);dsimp only;(try simp only[eH,aQ]);rw[c];simp only[aQ];rw[aX dg,show xg (cf R ch,(n:Int))=some (aM (cf R ch) n) from aj ⟨B.g,by dsimp only;omega,by dsimp only;omega⟩];(try simp only[aQ,eH]);rw[show Cp (w7 R ch,aM (cf R ch) n)=some (vH R ch n) from aj (H.at a n)];simp only[aQ,eH];rw[show Ah (D,vH R ch n)=some ((jl D R ch n:Nat):Int) from H.axB a n];simp only[aQ];rw[adW d (H.X3 a n)];simp only[aQ,be,eH];rw[kv (by simp only[av,ab,eD];omega)];simp only[aQ];rw[show aO 0 (av (ab (kc (k,p,w) A (jl D R ch) n)) (ab (fU A (jl D R ch n*ax (k,p,w)) (ax (k,p,w))))) (ab (dn (kc (k,p,w) A (jl D R ch) n) (fU A (jl D R ch n*ax (k,p,w)) (ax (k,p,w)))))=some () from qj (by simp[av,ab,dn])];simp only[aQ,be];rw[d6];rfl);simp only[bK,If];rw[show mw ch=some ch from aj (by omega)];simp only[aQ,eH];rfl;cases h
theorem xw {m:Int} {D:U} {R:List U} (H:fJ D m R) {ch:U} (h:ch∈gm m R):fE R ch:=by obtain⟨n,e⟩:=TR (zaj.1 h).1;rw[e];exact H.pick n
theorem KS {m:Int} {D:U} {R:List U} (H:fJ D m R):(gm m R).length<=4096:=by have a:(gm m R).length<=(ee m R).length:=Pd _ _;have h2:=H.pd.pD;have h3:=H.p4;rw[<-OQ m R.length R rfl,xH] at a;omega
theorem avB {α β:Type} (g:α->β) {l:List α} {i:Nat} (d:α) (h:i<l.length):(l.take (i+1)).map g=(l.take i).map g++[g (l.getD i d)]:=by rw[R9 d h,zai];rfl
theorem aqp (x:Rg×T3×gW) (y:List Bk) (h:Cq x=some y):TA aN x=some y:=by obtain⟨⟨k,p,w⟩,⟨L,D,A⟩,⟨m,R⟩⟩:=x;simp only[Cq] at h;split at h;rename_i c;obtain⟨e,b⟩:=c;rw[<-h];have H:=EI b;have hln:=KS H;simp only[TA,ah];rw[show G8 (m,R)=some (gm m R) from aj (Z8 H).2];simp only[aQ];rw[show aO 0 0 (ab ([]:List (U×U×U×U)))=some () from rfl];simp only[aQ];rw[eR (fun i=>((gm m R,aD (ab (gm m R)),(i:Int)),(k,p,w),(L,D,A),(m,R),((gm m R).take i).map (Au (k,p,w) (L,D,A) R))) (r:=AI (aaW (k,p,w) (L,D,A) (m,R))) (gm m R).length ?a1 ?a2 ?a3 dE];(case a3=>rfl);(case a2=>dsimp only;rw[aW (iQ _)];simp only[be,aQ];rw[OF];rfl);(case a1=>intro i a;have d:=xw H (zao (getD_some [] a));dsimp only;rw[aX (dg (by rw[nl];omega)),cE,getD_some ([]:U) a];simp only[aQ];rw[show G7 ((k,p,w),(L,D,A),(m,R),(gm m R).getD i [])=some (Au (k,p,w) (L,D,A) R ((gm m R).getD i [])) from aj ⟨e,b,d⟩];unfold Au;simp only[aQ,be];rw[show aO 0 1 (ab [((gm m R).getD i [],L,cf R ((gm m R).getD i []),kc (k,p,w) A (jl D R ((gm m R).getD i [])) (aC (cf R ((gm m R).getD i []))))])=some () from rfl];simp only[aQ];rw[kv (by simp only[av,ab,AT,wt,IN,eD];omega)];simp only[aQ,oP];rw[d6,avB _ [] a];rfl);simp only[bK,If,eH,aQ];cases h
section
def pq (x:U):Nat->U
 |0=>[]
 |n+1=>pq x n++x
def OK (D:U):Prop:=D.length<=12/\(∀v∈D,1<=v/\v<=8)/\aC D<=4096
instance (D:U):Decidable (OK D):=by unfold OK;infer_instance
def GK:Rg×U×U×U->Option T3:=fun x=>if x.2.1.length<=1048576/\OK x.2.2.1/\x.2.2.2.length<=6 then some (x.2.1,x.2.2.1,pq x.2.2.2 (aC x.2.2.1)) else none
def Ai:Rg×U×U->Option T3:=fun x=>if eG x.1=true/\x.2.1.length<=1048576/\OK x.2.2 then some (x.2.1,x.2.2,pq (eX x.1) (aC x.2.2)) else none
def okB (r:Rg) (L:U) (R:List U) (ch:U) (b:Bk):Prop:=b.1=ch/\gM r b.2=true/\b.2.1=L/\b.2.2.1=cf R ch
instance (r:Rg) (L:U) (R:List U) (ch:U) (b:Bk):Decidable (okB r L R ch b):=by unfold okB;infer_instance
def b0:Bk:=([],[],[],[])
def ae8 (x:Rg×T3×gW×List Bk):Prop:=Hw (x.2.1,x.2.2.1)/\x.2.2.2.length<=1048576/\∀b∈x.2.2.2,b.1.length<=1048576/\b.2.1.length<=1048576/\b.2.2.1.length<=1048576/\b.2.2.2.length<=1048576
instance (x:Rg×T3×gW×List Bk):Decidable (ae8 x):=by unfold ae8;infer_instance
def Tv (NN:Nat):((Int×(Int×Int))×(U×U))->(Option (U×(U×U))):=
 (fun(((i0,i1,i2),l3,l4):((Int×(Int×Int))×(U×U)))=>
 (mw l3).ae (fun l5=>
 (mw l4).ae (fun l6=>
 (pC (l4,(4096:Int))).ae (fun i7=>
 bK ((aO 0 0 (ab (([]:U)))).ae (fun _=>
 (aO 0 0 (ab (([]:U)))).ae (fun _=>
 (aO 0 0 (ab (([]:U)))).ae (fun _=>
 ah l5 (
 ah l6 (
 (aO 0 0 (ab (([]:U)))).ae (fun _=>
 cj NN (fun((i8,(i9,fO,dX),cB,cM,cO,dk,dm,dA):(Int×((Int×(Int×Int))×(U×(U×(U×(U×(U×U))))))))=>
 au (bO (0:Int) i8)
 ((Ev (i9,fO,dX)).ae (fun d7=>
 ah dA (
 (bc d7 0 (ab d7)).ae (fun eY=>
 (iN (av (ab dA) (ab eY)) 8).ae (fun _=>
 ah cB (
 ah cM (
 ah cO (
 ah dk (
 ah dm (
 (aO 0 (av (ab dA) (ab eY)) (ab (dn dA eY))).ae (fun _=>
 some (AI (iw .i64 i8 1,(i9,fO,dX),cB,cM,cO,dk,dm,dn dA eY)))))))))))))
 ((ah cB (
 ah cM (
 ah cO (
 ah dk (
 ah dm (
 ah dA (
 some (AI (cB,cM,cO,dk,dm,dA))))))))).ae (fun gi=>
 some (BY gi))))
 (i7,(i0,i1,i2),([]:U),([]:U),([]:U),l5,l6,([]:U)))))))))
 (fun(ir,dP,iB,dq,fi,gj)=>
 (ed dq (ab dq)).ae (fun gB=>
 (ed fi (ab fi)).ae (fun ii=>
 (ed gj (ab gj)).ae (fun gK=>
 some (gB,ii,gK)))))))))
def SF (NN:Nat):((Int×(Int×Int))×(U×(U×U)))->(Option (U×(U×U))):=
 (fun(((i0,i1,i2),l3,l4,l5):((Int×(Int×Int))×(U×(U×U))))=>
 (vI l3).ae (fun l6=>
 (vI l4).ae (fun l7=>
 (vJ l4).ae (fun i8=>
 (kB (0:Int) (f6 .i64 i8 (aD (ab l5))) 8).ae (fun k9=>
 bK ((aO 0 0 (ab (([]:U)))).ae (fun _=>
 (aO 0 0 (ab (([]:U)))).ae (fun _=>
 (aO 0 0 (ab (([]:U)))).ae (fun _=>
 ah l6 (
 ah l7 (
 (aO 0 k9 (ab (cR k9 (0:Int)))).ae (fun _=>
 cj NN (fun(((bS,dX,eC),cM,cO,dk,dm,dA,d7):((U×(Int×Int))×(U×(U×(U×(U×(U×U)))))))=>
 au (bO eC dX)
 (ah d7 (
 (iN (av (ab d7) (ab bS)) 8).ae (fun _=>
 ah cM (
 ah cO (
 ah dk (
 ah dm (
 ah dA (
 (aO 0 (av (ab d7) (ab bS)) (ab (dn d7 bS))).ae (fun _=>
 some (AI ((bS,dX,bo .i64 eC 1),cM,cO,dk,dm,dA,dn d7 bS)))))))))))
 ((ah cM (
 ah cO (
 ah dk (
 ah dm (
 ah dA (
 ah d7 (
 some (AI (cM,cO,dk,dm,dA,d7))))))))).ae (fun eY=>
 some (BY eY))))
 ((l5,i8,(0:Int)),([]:U),([]:U),([]:U),l6,l7,cR k9 (0:Int)))))))))
 (fun(gi,ir,dP,iB,dq,fi)=>
 (ed iB (ab iB)).ae (fun gj=>
 (ed dq (ab dq)).ae (fun gB=>
 (ed fi (ab fi)).ae (fun ii=>
 some (gj,gB,ii))))))))))
theorem Yy (x:U):∀n,(pq x n).length=n*x.length
 |0=>by simp[pq]
 |n+1=>by rw[pq,AN,Yy x n,zal,zam]
theorem apd (x:Rg×U×U×U) (y:T3) (h:GK x=some y):SF aN x=some y:=by obtain⟨⟨r1,r2,r3⟩,L,D,x⟩:=x;simp only[GK] at h;split at h;rename_i b;obtain⟨hL,⟨a,hd,e⟩,hx⟩:=b;rw[<-h];have PE:eD=140737488355328:=rfl;have c:=tC (D:=D) fun v d=>(hd v d).1;have hm:aC D*x.length<=4096*6:=IS e hx;simp only[SF,ah];rw[show vI L=some L from aj (by omega)];simp only[aQ];rw[show vI D=some D from aj (by omega)];simp only[aQ];rw[show vJ D=some (fp D) from aj ⟨.inl a,hd⟩,c];simp only[aQ];rw[nl,BL];rw[show kB 0 ((aC D*x.length:Nat):Int) 8=some 0 by unfold kB;rw[aj (by refine⟨by omega,by omega,?_⟩;simp only[eD];omega)];rfl];simp only[aQ,be];rw[show aO 0 0 (ab ([]:U))=some () from rfl,show aO 0 0 (ab (cR 0 (0:Int)))=some () from rfl];simp only[aQ];rw[eR (fun i=>((x,((aC D:Nat):Int),(i:Int)),([]:U),([]:U),([]:U),L,D,pq x i)) (aC D) (r:=AI (([]:U),([]:U),([]:U),L,D,pq x (aC D))) ?a1 ?a2 ?a3 dE];(case a1=>intro i hi;have jV:i*x.length<=4096*6:=IS (by omega) hx;dsimp only;rw[aX dg];(try simp only[aQ,be]);rw[kv (by simp only[av,ab];rw[Yy];omega)];simp only[aQ];rw[show aO 0 (av (ab (pq x i)) (ab x)) (ab (dn (pq x i) x))=some () from qj (by simp[av,ab,dn])];simp only[aQ];rw[d6];rfl);(case a2=>dsimp only;rw[aW dQ];try simp only[aQ,be]);(case a3=>rfl);simp only[bK,If,iJ,aQ];cases h
theorem aqf (x:Rg×U×U) (y:T3) (h:Ai x=some y):Tv aN x=some y:=by obtain⟨⟨c,b,a⟩,L,D⟩:=x;simp only[Ai] at h;split at h;rename_i e;obtain⟨hr,hL,⟨d,hd,f⟩⟩:=e;rw[<-h];have PE:eD=140737488355328:=rfl;have hw:=mq hr;have hz:=GA hr;simp only[Tv,ah];rw[show mw L=some L from aj (by omega)];simp only[aQ];rw[show mw D=some D from aj (by omega)];simp only[aQ];rw[Yo d hd f];simp only[aQ,be];rw[show aO 0 0 (ab ([]:U))=some () from rfl];simp only[aQ];rw[eR (fun i=>((((aC D:Nat):Int) - (i:Int)),(c,b,a),([]:U),([]:U),([]:U),L,D,pq (eX (c,b,a)) i)) (aC D) (r:=AI (([]:U),([]:U),([]:U),L,D,pq (eX (c,b,a)) (aC D))) ?a1 ?a2 ?a3 dE];(case a1=>intro i hi;have jV:i*(eX (c,b,a)).length<=4096*6:=IS (by omega) (by omega);dsimp only;rw[aX dg,show Ev (c,b,a)=some (eX (c,b,a)) from aj hr];simp only[aQ,be,eH];rw[kv (by simp only[av,ab];rw[Yy];omega)];simp only[aQ];rw[show aO 0 (av (ab (pq (eX (c,b,a)) i)) (ab (eX (c,b,a)))) (ab (dn (pq (eX (c,b,a)) i) (eX (c,b,a))))=some () from qj (by simp[av,ab,dn])];simp only[aQ];rw[mT,show((aC D:Nat):Int) - (i:Int) - 1=((aC D:Nat):Int) - ((i+1:Nat):Int) by omega];rfl);(case a2=>dsimp only;rw[aW dQ];try simp only[aQ,be]);(case a3=>simp only[Int.natCast_zero,Int.sub_zero];rfl);simp only[bK,If,iJ,aQ];cases h
theorem alc {a b n:Nat} (h1:a<=b) (h2:b<=n):jB (a:Int) (b:Int) n=some (a,b - a):=by unfold jB;rw[aj ⟨by omega,by omega,by omega⟩];congr 2;omega
variable {m:Int} {L K R:Nat} {X:fz} {d:U}
end
theorem Ka {w:Nat} {f g:Nat->Int} (h:∀j,j<w->f j=g j):gV w f=gV w g:=zaB fun j a=>h j (zaf.1 a)
theorem axH {r:Int×Int×Int} (hr:eG r=true) (a b:Int):j3 r a b=j3 r b a:=by obtain⟨k,p,n⟩:=r;have e1:∀n:Int,j3 (6,0,n) a b=((a.toNat|||b.toNat:Nat):Int)/\j3 (6,0,n) b a=((b.toNat|||a.toNat:Nat):Int):=fun n=>⟨rfl,rfl⟩;rcases sE hr with⟨rfl,rfl,rfl⟩|⟨rfl,c,rfl⟩|⟨rfl,c,rfl⟩|⟨rfl,c,rfl⟩|⟨rfl,c,rfl⟩|⟨rfl,rfl,hn⟩|⟨rfl,c,hn⟩|⟨rfl,c,ki,rfl⟩;show((a.toNat|||b.toNat:Nat):Int)=((b.toNat|||a.toNat:Nat):Int);rw[zbH];show(a+b)%p=(b+a)%p;rw[zaV];show min (a+b) p=min (b+a) p;rw[zaV];show min a b=min b a;omega;show max a b=max b a;omega;show((a.toNat|||b.toNat:Nat):Int)=((b.toNat|||a.toNat:Nat):Int);rw[zbH];show(a+b)%p=(b+a)%p;rw[zaV];show(a+b)%p=(b+a)%p;rw[zaV]
theorem axG {r:Int×Int×Int} (hr:eG r=true) {a b c:Int} (ha:0<=a) (hb:0<=b) (hc:0<=c):j3 r (j3 r a b) c=j3 r a (j3 r b c):=by obtain⟨k,p,n⟩:=r;have f:((a+b)%p+c)%p=(a+(b+c)%p)%p:=(by rw[Int.emod_add_emod,Int.add_emod_emod,Int.add_assoc]);have d:(((((a.toNat|||b.toNat:Nat):Int).toNat|||c.toNat:Nat)):Int)=((a.toNat|||(((b.toNat|||c.toNat:Nat):Int)).toNat:Nat):Int):=(by rw[GB,GB,Nat.or_assoc]);rcases sE hr with⟨rfl,rfl,rfl⟩|⟨rfl,e,rfl⟩|⟨rfl,e,rfl⟩|⟨rfl,e,rfl⟩|⟨rfl,e,rfl⟩|⟨rfl,rfl,hn⟩|⟨rfl,e,hn⟩|⟨rfl,e,ki,rfl⟩;exact d;exact f;show min (min (a+b) p+c) p=min (a+min (b+c) p) p;omega;show min (min a b) c=min a (min b c);omega;show max (max a b) c=max a (max b c);omega;exact d;exact f;exact f
def z0 (r:Int×Int×Int):Int:=if r.1=4 then r.2.1 else 0
theorem Li {r:Int×Int×Int} (hr:eG r=true) {j:Nat} (a:j<ax r):bR (eX r) j=z0 r:=by obtain⟨k,p,n⟩:=r;unfold eX z0;by_cases h:k=4;subst h;have:ax (4,p,n)=1:=rfl;have a:j=0:=(by omega);subst a;rfl;simp only[ak h];simp[bR,cR,a]
theorem axJ {r:Int×Int×Int} (hr:eG r=true) {a:Int} (c:0<=a/\a<=dO r):j3 r a (z0 r)=a:=by obtain⟨k,p,n⟩:=r;rcases sE hr with⟨rfl,rfl,rfl⟩|⟨rfl,b,rfl⟩|⟨rfl,b,rfl⟩|⟨rfl,b,rfl⟩|⟨rfl,b,rfl⟩|⟨rfl,rfl,hn⟩|⟨rfl,b,hn⟩|⟨rfl,b,ki,rfl⟩;show((a.toNat|||(0:Int).toNat:Nat):Int)=a;rw[show(0:Int).toNat=0 from rfl,zbI];omega;have e:dO (2,p,0)=p - 1:=rfl;show(a+0)%p=a;rw[zbk];exact zaZ c.1 (by omega);have e:dO (3,p,0)=p:=rfl;show min (a+0) p=a;omega;have e:dO (4,p,0)=p:=rfl;show min a p=a;omega;show max a 0=a;omega;show((a.toNat|||(0:Int).toNat:Nat):Int)=a;rw[show(0:Int).toNat=0 from rfl,zbI];omega;have e:dO (7,p,n)=p - 1:=rfl;show(a+0)%p=a;rw[zbk];exact zaZ c.1 (by omega);have e:dO (8,p,0)=p - 1:=rfl;show(a+0)%p=a;rw[zbk];exact zaZ c.1 (by omega)
theorem add_comm {r:Int×Int×Int} (hr:eG r=true) (x y:U):fV r x y=fV r y x:=Ka fun j _=>axH hr _ _
theorem add_assoc {r:Int×Int×Int} {x y z:U} (hr:eG r=true) (hx:eV r x=true) (hy:eV r y=true) (b:eV r z=true):fV r (fV r x y) z=fV r x (fV r y z):=by refine Ka fun j a=>?_;rw[show bR (fV r x y) j=_ from Lh _ a,show bR (fV r y z) j=_ from Lh _ a];exact axG hr (rO hx a).1 (rO hy a).1 (rO b a).1
theorem add_zero {r:Int×Int×Int} {x:U} (hr:eG r=true) (hx:eV r x=true):fV r x (eX r)=x:=by
 have h:fV r x (eX r)=gV (ax r) (bR x):=Ka fun j a=>by rw[Li hr a];exact axJ hr (rO hx a)
 rw[h,NB (jv hx)]
theorem zero_add {r:Int×Int×Int} {x:U} (hr:eG r=true) (hx:eV r x=true):fV r (eX r) x=x:=by rw[add_comm hr,add_zero hr hx]
theorem amo {r:Int×Int×Int} (hr:eG r=true) (a:¬(r.1=7\/r.1=8)):eX r=[z0 r]:=by have h:=NB (x:=eX r) (w:=ax r) (jv (ET hr));rw[Kl a] at h;rw[<-h];show[bR (eX r) 0]=[z0 r];rw[Li hr (by rw[Kl a];omega)]
theorem aib {r:Int×Int×Int} (hr:eG r=true) (c:¬(r.1=7\/r.1=8)) {a:Int} (ha:0<=a/\a<=dO r):nU r a (z0 r)=z0 r/\nU r (z0 r) a=z0 r:=by obtain⟨k,p,n⟩:=r;simp only at c;rcases sE hr with⟨rfl,rfl,rfl⟩|⟨rfl,b,rfl⟩|⟨rfl,b,rfl⟩|⟨rfl,b,rfl⟩|⟨rfl,b,rfl⟩|⟨rfl,rfl,hn⟩|⟨rfl,b,hn⟩|⟨rfl,b,ki,rfl⟩;constructor;show((a.toNat&&&(0:Int).toNat:Nat):Int)=0;rw[show(0:Int).toNat=0 from rfl,zbA];rfl;show(((0:Int).toNat&&&a.toNat:Nat):Int)=0;rw[show(0:Int).toNat=0 from rfl,zbB];rfl;constructor;show a*0%p=0;rw[zbl,za2];show 0*a%p=0;rw[zbC,za2];constructor;show min (a*0) p=0;rw[zbl];omega;show min (0*a) p=0;rw[zbC];omega;constructor;show min (a+p) p=p;omega;show min (p+a) p=p;omega;constructor;show min a 0=0;omega;show min 0 a=0;omega;constructor;show((a.toNat&&&(0:Int).toNat:Nat):Int)=0;rw[show(0:Int).toNat=0 from rfl,zbA];rfl;show(((0:Int).toNat&&&a.toNat:Nat):Int)=0;rw[show(0:Int).toNat=0 from rfl,zbB];rfl;exact absurd (.inl rfl) c;exact absurd (.inr rfl) c
theorem afb {om:Bool} {w:Nat} {x y:Nat->Int} (t:Nat) {i j:Nat} (h:x i=0\/y j=0):kW om x y t i j=0:=by unfold kW;have e:x i*y j=0:=(by rcases h with h|h<;>simp[h]);split;exact e;split;rw[e];rfl;rfl
theorem Sm {r:Int×Int×Int} (hk:r.1=7\/r.1=8):z0 r=0:=by unfold z0;rw[ak (by omega)]
theorem R4 {r:Int×Int×Int} (hr:eG r=true):gV (ax r) (fun _=>z0 r)=eX r:=by have h:=NB (x:=eX r) (w:=ax r) (jv (ET hr));rw[<-h];exact Ka fun j a=>(Li hr a).symm
theorem mul_zero {r:Int×Int×Int} {x:U} (hr:eG r=true) (hx:eV r x=true):mR r x (eX r)=eX r:=by by_cases a:r.1=7\/r.1=8;rw[EQ a,<-R4 hr];refine Ka fun t ht=>?_;rw[Gk _ fun i hi=>Gk _ fun j d=>afb (w:=ax r) t (.inr (by rw[R4 hr,Li hr d,Sm a])),Sm a];exact za2 _;have c:=Kl a;have b:=AJ hx c;rw[b.1,amo hr a,pj a,(aib hr a b.2).1]
theorem zero_mul {r:Int×Int×Int} {x:U} (hr:eG r=true) (hx:eV r x=true):mR r (eX r) x=eX r:=by by_cases a:r.1=7\/r.1=8;rw[EQ a,<-R4 hr];refine Ka fun t ht=>?_;rw[Gk _ fun i d=>Gk _ fun j hj=>afb (w:=ax r) t (.inl (by rw[R4 hr,Li hr d,Sm a])),Sm a];exact za2 _;have c:=Kl a;have b:=AJ hx c;rw[b.1,amo hr a,pj a,(aib hr a b.2).2]
def SR (NN:Nat):((U×(U×U))×U)->(Option U):=
 (fun(((l0,l1,l2),l3):((U×(U×U))×U))=>
 (kB (aD (ab l3)) (aD (ab l3)) 8).ae (fun k4=>
 bK ((aO 0 k4 (ab (cR k4 (0:Int)))).ae (fun _=>
 cj NN (fun(((l5,i6,i7),(l8,l9,bS),cZ):((U×(Int×Int))×((U×(U×U))×U)))=>
 au (fR (0:Int) i7)
 (bK (bK (ah cZ (
 cj NN (fun(((cB,fG,gf,dk,fH,gA),(d7,eY,gi),ir):((U×(Int×(Int×(U×(Int×Int)))))×((U×(U×U))×U)))=>
 au (bO gA fH)
 ((bF dk gA).ae (fun kY=>
 (bF d7 gf).ae (fun gT=>
 au (cu kY gT)
 ((cN gA (ab ir)).ae (fun Xc=>
 (bQ ir (av 0 Xc)).ae (fun oe=>
 (aO 0 (ab ir) (ab (bB ir (av 0 Xc) fG))).ae (fun _=>
 some (AI ((cB,fG,gf,dk,fH,bo .i64 gA 1),(d7,eY,gi),bB ir (av 0 Xc) fG))))))
 (ah ir (
 some (AI ((cB,fG,gf,dk,fH,bo .i64 gA 1),(d7,eY,gi),ir)))))))
 ((ah ir (
 some (AI ((fG,gf,cB),(d7,eY,gi),ir)))).ae (fun gj=>
 some (BY gj))))
 ((l5,i6,i7,l5,aD (ab l5),(0:Int)),(l8,l9,bS),cZ)))
 (fun((jX,lW,gK),(lZ,lC,hH),iP)=>
 (bF lC lW).ae (fun qt=>
 ah iP (
 some (AI ((lW,gK,f6 .i64 jX qt),(lZ,lC,hH),iP))))))
 (fun((zq,iL,zr),(qB,o6,mO),o7)=>
 ah o7 (
 some (AI ((iL,zr,iw .i64 zq 1),(qB,o6,mO),o7)))))
 ((ah cZ (
 some (AI cZ))).ae (fun nf=>
 some (BY nf))))
 ((l3,(1:Int),iw .i64 (aD (ab l1)) (1:Int)),(l0,l1,l2),cR k4 (0:Int))))
 (fun kN=>
 (ed kN (ab kN)).ae (fun jh=>
 some jh))))
theorem R6 {D:U} (h:jG D) {i:Nat} (a:i<=D.length):dV D i<=aC D:=by have:=ZJ (D:=D) (i:=0) (j:=i) (za1 i) a;rw[R5] at this;exact Nat.le_of_dvd (vt fun x hx=>(h.2 x hx).1) this
theorem amS {L:U} {v:Int} (hn:L.Nodup) {k:Nat} (a:k<L.length):v=L.getD k 0↔bh L v=k:=by constructor;intro e;rw[e,j4 hn a];intro e;have d:bh L v<L.length:=(by omega);have:=zbb (w:=d);have c:L[bh L v]=v:=of_decide_eq_true this;have b:L.getD k 0=L[k]:=(by rw[co,By a];rfl);rw[b];subst e;exact c.symm
theorem gI {l:U} {i:Nat} (h:i<l.length:=by omega):l[i]? =some (l.getD i 0):=by rw[co,By h];rfl
theorem JD (n:Nat):cR n (0:Int)=dd n fun _=>0:=by apply zaK;intro i;by_cases a:i<n;rw[rI _ a];show(zbs n (0:Int))[i]? =_;rw[List.getElem?_replicate,aj a];rw[zad (by show(zbs n (0:Int)).length<=i;simp;omega),zad (by rw[fT];omega)]
def pz (L D S:U) (j q:Nat) (i:Nat):Int:=if(i<q/\bh L (S.getD i 0)+1=D.length - j)\/(D.length - j<=bh L (S.getD i 0)/\bh L (S.getD i 0)<D.length) then((dV D (bh L (S.getD i 0)+1):Nat):Int) else 0
theorem apt (x:T3×U) (y:U) (h:yx x=some y):SR aN x=some y:=by
 obtain⟨⟨L,D,A⟩,S⟩:=x;simp only[yx] at h;split at h
 ·rename_i a;rw[<-h];obtain⟨c,z,B⟩:=a
  try dsimp only at c z B
  obtain⟨E2,hl,_⟩:=gH c;have s:=qU c;have G:=tQ c;have u:jG D:=⟨by omega,fun x hx=>by have:=s x hx;omega⟩;simp only[SR,ah];rw[qH (by simp only[ab,eD];omega)]
  try simp only[aQ]
  rw[show aO 0 (ab S) (ab (cR (ab S) (0:Int)))=some () from qj (by simp[ab,cR])]
  try simp only[aQ]
  rw[eR (r:=AI (fI L D S)) (fun j=>((S,((dV D (D.length - j):Nat):Int),(D.length:Int) - 1 - (j:Int)),(L,D,A),dd S.length (pz L D S j 0))) D.length ?a1 ?a2 ?a3 dE]
  case a3=>
   rw[mT (by show _<=((ab D:Nat):Int) - 1;omega) (by show((ab D:Nat):Int) - 1<=_;unfold ab;omega),JD];rw[show D.length - 0=D.length from rfl,uF]
   rw[show dd S.length (pz L D S 0 0)=dd (ab S) (fun _=>0) from ko fun i g=>by
    unfold pz;rw[ak (by omega)]]
   show _=((S,((1:Nat):Int),(D.length:Int) - 1 - ((0:Nat):Int)),(L,D,A),_);rw[show(D.length:Int) - 1 - ((0:Nat):Int)=(D.length:Int) - 1 by omega];rfl
  case a2=>
   dsimp only
   rw[show fR (0:Int) ((D.length:Int) - 1 - (D.length:Int))=false from decide_eq_false (by omega),aW rfl]
   try simp only[be,aQ]
   rw[show dd S.length (pz L D S D.length 0)=fI L D S from ko fun i g=>by
     unfold pz;by_cases a:bh L (S.getD i 0)<L.length
     ·rw[aj (by omega),aj a]
     ·rw[ak (by omega),ak a]]
  case a1=>
   intro j hj;dsimp only
   rw[aX lc]
   try simp only[be,aQ]
   have E:((D.length:Int) - 1 - (j:Int))=((D.length - 1 - j:Nat):Int):=by omega
   rw[E];have hdk:=s _ (eF (l:=D) (i:=D.length - 1 - j) (by omega));rw[eR (r:=AI ((((dV D (D.length - j):Nat):Int),((D.length - 1 - j:Nat):Int),S),(L,D,A),dd S.length (pz L D S (j+1) 0))) (fun q=>((S,((dV D (D.length - j):Nat):Int),((D.length - 1 - j:Nat):Int),S,(S.length:Int),(q:Int)),(L,D,A),dd S.length (pz L D S j q))) S.length ?b1 ?b2 ?b3 dE]
   case b3=>rfl
   case b2=>
    dsimp only
    rw[aW dQ]
    try simp only[be,aQ]
    rw[show dd S.length (pz L D S j S.length)=dd S.length (pz L D S (j+1) 0) from ko fun i g=>by
     unfold pz;by_cases a:(i<S.length/\bh L (S.getD i 0)+1=D.length - j)\/(D.length - j<=bh L (S.getD i 0)/\bh L (S.getD i 0)<D.length)
     ·rw[aj a,aj (by omega)]
     ·rw[ak a,ak (by omega)]]
   case b1=>
    intro q o;dsimp only
    rw[aX dg,cE,cE,gI o,gI (l:=L) (i:=D.length - 1 - j) (by omega)]
    try simp only[aQ]
    rw[d6];have t:=amS (v:=S.getD q 0) G (k:=D.length - 1 - j) (by omega);by_cases f:S.getD q 0=L.getD (D.length - 1 - j) 0
    ·have p:=t.1 f;rw[aX (by unfold cu;exact beq_iff_eq.2 f),CD _ o]
     try simp only[aQ,f9]
     rw[EZ _ o]
     try simp only[aQ]
     rw[F8,show aO 0 (ab (dd S.length (pz L D S j q))) (ab (dd S.length fun i=>if i=q then((dV D (D.length - j):Nat):Int) else pz L D S j q i))=some () from xF _ _ _]
     try simp only[aQ]
     rw[show dd S.length (fun i=>if i=q then((dV D (D.length - j):Nat):Int) else pz L D S j q i)=dd S.length (pz L D S j (q+1)) from ko fun i g=>by
      by_cases b:i=q
      ·subst b;rw[aj rfl];unfold pz;rw[aj (by omega),p,show D.length - 1 - j+1=D.length - j by omega]
      ·rw[ak b];unfold pz;by_cases a:(i<q/\bh L (S.getD i 0)+1=D.length - j)\/(D.length - j<=bh L (S.getD i 0)/\bh L (S.getD i 0)<D.length)
       ·rw[aj a,aj (by omega)]
       ·rw[ak a,ak (by omega)]]
     rfl
    ·have p:bh L (S.getD q 0)≠D.length - 1 - j:=fun e=>f (t.2 e);rw[aW (by simp only[cu,beq_eq_false_iff_ne,ne_eq];exact f)]
     try simp only[be,aQ]
     rw[show dd S.length (pz L D S j (q+1))=dd S.length (pz L D S j q) from ko fun i g=>by
      unfold pz;by_cases a:(i<q/\bh L (S.getD i 0)+1=D.length - j)\/(D.length - j<=bh L (S.getD i 0)/\bh L (S.getD i 0)<D.length)
      ·rw[aj a,aj (by omega)]
      ·rw[ak a,ak (by
        intro C;apply a;rcases C with⟨c1,m⟩|m
        ·left;refine⟨?_,m⟩;have:i≠q:=by intro e;subst e;omega
         omega
        ·exact .inr m)]]
     rfl
   simp only[bK,If];rw[cE,gI (l:=D) (i:=D.length - 1 - j) (by omega)]
   try simp only[aQ,be]
   obtain⟨d,d1,F,w,d4,d5⟩:=HW u (i:=D.length - 1 - j) (by omega);have n:dV D (D.length - 1 - j)=d*dV D (D.length - 1 - j+1):=by rw[B2 (by omega),w]
   rw[show D.length - 1 - j+1=D.length - j by omega] at n;have gS:=R6 u (i:=D.length - 1 - j) (by omega);rw[F,rE (by rw[<-za8];omega) (by rw[<-za8,zaL,<-n];omega),mT,<-za8,zaL,<-n];show some (AI _)=some (AI ((S,((dV D (D.length - (j+1)):Nat):Int),(D.length:Int) - 1 - ((j+1:Nat):Int)),(L,D,A),dd S.length (pz L D S (j+1) 0)));rw[show D.length - (j+1)=D.length - 1 - j by omega,show(D.length:Int) - 1 - ((j+1:Nat):Int)=((D.length - 1 - j:Nat):Int) - 1 by omega]
  simp only[bK,If,iJ,aQ]
 ·cases h
def alg (s:Cv):Prop:=(0<=s.1/\s.1<=4096)/\(0<=s.2.1/\s.2.1<=4096)/\(0<=s.2.2.1/\s.2.2.1<=4096)
instance (s:Cv):Decidable (alg s):=by unfold alg;infer_instance
def aaX (m:Int) (s t:Cv) (x:Int×Int×U):Prop:=x.1=s.2.1*t.2.1/\x.2.1=s.2.1*t.2.1/\s.1*s.2.1<=64/\t.2.1*t.2.2.1<=64
instance (m:Int) (s t:Cv) (x:Int×Int×U):Decidable (aaX m s t x):=by unfold aaX;infer_instance
section
variable {A1 A2 A3 A4 A5 X Y Z T ρ:Type}
end
section
variable {p:Int} {n:Nat} {a b:U} {ms:List n4} {N k:Nat}
end
section
variable {p:Int} {n:Nat} {a b:U} {ms:List n4} {N k:Nat}
end
theorem Gs {r:Rg} {L D A:U} (h:gM r (L,D,A)=true):ly L D=true/\fp D<=4096:=by simp only[gM,zag,decide_eq_true_eq] at h;obtain⟨h1,a,h3,h4⟩:=h;by_cases b:ly L D=true/\fp D<=4096;exact b;have e:fg L D= -1:=ak b;rw[e] at a;exact absurd a (by decide)
theorem v7 {l a:U} (hl:l.length=a.length) (h:∀k,k<l.length->l.getD k 0=a.getD k 0):l=a:= List.ext_getElem hl fun k b c=>by have:=h k b;rw[co,co,By b,By c] at this;exact this
theorem ay6 {f:U} {v:Int} (h:bh f v<f.length):f[bh f v]? =some v:=by rw[By h];have:=zbb (w:=h);congr 1;exact of_decide_eq_true this
theorem aB {α β:Type} (x:α) (f:α->Option β):(some x).ae f=f x:=by
 have h:∀o:Option α,o=some x->o.ae f=f x:=by intro o h;subst h;rfl
 exact h _ rfl
theorem lN {α:Type} (x y:α):au true x y=x:=rfl
theorem iU {α:Type} (x y:α):au false x y=y:=rfl
def jL (a b:U):U:=a++b.filter fun x=> !decide (x∈a)
def jd (La Da Lb Db:U) (v:Int):Int:=if bh La v<La.length then Da.getD (bh La v) 0 else Db.getD (bh Lb v) 0
theorem tB {l:U} {v:Int}:bh l v<l.length↔v∈l:=by constructor;intro h;exact zao (ay6 h);exact ff
theorem x4 {a b:U} {v:Int} (h:v∈jL a b):v∈a\/v∈b:=by unfold jL at h;rcases zaR.1 h with h|h;exact .inl h;exact .inr (zaj.1 h).1
theorem azf (a b:U):aC (a++b)=aC a*aC b:=by induction a with|nil=>simp[aC]|cons x a c=>simp only[zbn,aC,c,zbe]
def rF (D ix:U):Nat:=jQ D ix D.length
theorem QB {D:U} (a:jG D) {n:Nat} (hn:n<aC D):rF D (aM D n)=n:=by unfold rF;rw[XW a hn _ (zac _),uF,zbF]
def tY (J I:U) (v:Int):Int:=I.getD (bh J v) 0
theorem aAY {L J:U} (hL:L.Nodup) (d:J.Nodup) (f:∀v∈L,v∈J) {g:Int->Nat} (i:∀v,v∉L->g v=0):(J.map g).sum=(L.map g).sum:=by have e:∀l:U,(l.map g).sum=((l.filter fun v=>decide (v∈L)).map g).sum:=(by intro l;induction l with|nil=>rfl|cons a l c=>by_cases b:a∈L;rw[zaw (by simpa using b),zaJ,zbf,zaJ,zbf,c];rw[zax (by simpa using b),zaJ,zbf,c,i a b,zbz]);rw[e J];refine List.Perm.sum_nat (List.Perm.map g ((zaU (d.filter _) hL).2 fun v=>?_));rw[zaj];exact⟨fun h=>by simpa using h.2,fun h=>⟨f v h,by simpa using h⟩⟩
def gY (L D J I:U):Nat:=sN (fun i=>(I.getD i 0).toNat*((fI L D J).getD i 0).toNat) (fI L D J).length
theorem OL {L D J I:U} (hL:L.Nodup) (c:J.Nodup) (j:∀v∈L,v∈J) (hl:L.length=D.length) (hI:I.length=J.length):gY L D J I=rF D (L.map (tY J I)):=by
 have b:(fI L D J).length=J.length:=fT _ _;let g:Int->Nat:=fun v=>(tY J I v).toNat*(if bh L v<L.length then dV D (bh L v+1) else 0)
 have f:gY L D J I=(J.map g).sum:=by
  unfold gY;rw[b,<-Q3 g J];refine Q2 _ fun i a=>?_;show _=(I.getD (bh J (J.getD i 0)) 0).toNat*_;rw[j4 c a];congr 1;unfold fI;rw[co,rI _ a];show(if bh L (J.getD i 0)<L.length then((dV D (bh L (J.getD i 0)+1):Nat):Int) else 0).toNat=_
  split
  ·exact GB _
  ·rfl
 have d:rF D (L.map (tY J I))=(L.map g).sum:=by
  unfold rF;have:=XX (D:=D) (ix:=L.map (tY J I)) D.length (zac _);rw[uF,zbJ] at this;rw[this,<-Q3 g L,<-hl];refine Q2 _ fun i a=>?_;show _=(tY J I (L.getD i 0)).toNat*(if bh L (L.getD i 0)<L.length then dV D (bh L (L.getD i 0)+1) else 0)
  rw[j4 hL a,aj a];congr 1;rw[co,Pe,gI a];rfl
 rw[f,d];refine aAY hL c j fun v e=>?_;show _*_=0;rw[ak fun h=>e (tB.1 h),Nat.mul_zero]
theorem XV {D ix:U} (h:∀k,k<D.length->(ix.getD k 0).toNat<(D.getD k 0).toNat):rF D ix<aC D:=by have:=QC h D.length (zac _);rw[uF,zbJ] at this;unfold rF;omega
theorem P5 {a b:U} (d:a.Nodup) (c:b.Nodup):(jL a b).Nodup:=by unfold jL;rw[za0];refine⟨d,c.filter _,fun x hx y hy=>?_⟩;have:=(zaj.1 hy).2;intro e;subst e;simp[hx] at this
theorem xZ {a b:U}:∀v∈a,v∈jL a b:=fun v c=>zaQ _ c
theorem Dn {a b:U}:∀v∈b,v∈jL a b:=fun v c=>by by_cases h:v∈a;exact xZ v h;exact List.mem_append_right _ (zaj.2 ⟨c,by simp[h]⟩)
structure Sub (L D J DJ:U):Prop where
 nL:L.Nodup
 nJ:J.Nodup
 s:∀v∈L,v∈J
 l:L.length=D.length
 lJ:DJ.length=J.length
 d:∀i,i<L.length->DJ.getD (bh J (L.getD i 0)) 0=D.getD i 0
 pos:∀x∈DJ,1<=x
theorem Sub.lt {L D J a:U} (h:Sub L D J a) (k:Nat):gY L D J (aM a k)<aC D:=by
 have hl:(aM a k).length=J.length:=by unfold aM;rw[fT,h.lJ]
 rw[OL h.nL h.nJ h.s h.l hl];refine XV fun i hi=>?_;have b:i<L.length:=by have:=h.l;omega
 have c:bh J (L.getD i 0)<a.length:=by rw[h.lJ];exact ff (h.s _ (eF b))
 have e:(L.map (tY J (aM a k))).getD i 0=ef a k (bh J (L.getD i 0)):=by
  rw[co,Pe,gI b];exact zw c
 rw[e,<-h.d i b];unfold ef;rw[GB];refine za9 _ ?_;have:=h.pos _ (eF c);omega
theorem aBp {α:Type} {xs:List α} {lo n:Nat} (h:lo+n<=ab xs):bc xs lo n=some ((xs.drop lo).take n):=aj h
theorem aA2 {α:Type} {xs:List α} {n:Nat} (h:xs.length=n):ed xs n=some xs:=by subst h;exact iJ xs
theorem jH {l:U} {f:Int->Int} {i:Nat} (a:i<l.length):(l.map f).getD i 0=f (l.getD i 0):=by rw[co,Pe,gI a];rfl
theorem ah8 {D ix:U} (h:∀k,k<D.length->(ix.getD k 0).toNat<(D.getD k 0).toNat):∀t i,i+t=D.length->∃q,jQ D ix D.length=jQ D ix i*dV D i+q/\q<dV D i
 |0,i,hi=>by have:i=D.length:=(by omega);subst this;exact⟨0,by rw[uF];omega,by rw[uF];omega⟩
 |t+1,i,hi=>by obtain⟨q,b,h2⟩:=ah8 h t (i+1) (by omega);have c:=h i (by omega);have a:=B2 (D:=D) (i:=i) (by omega);refine⟨(ix.getD i 0).toNat*dV D (i+1)+q,?_,?_⟩;rw[b,a];simp only[jQ];rw[zal,zbe,Nat.add_assoc];rw[a];have:((ix.getD i 0).toNat+1)*dV D (i+1)<=(D.getD i 0).toNat*dV D (i+1):=zab _ c;rw[zal,zam] at this;omega
theorem PV {D ix:U} (hl:ix.length=D.length) (h:∀k,k<D.length->0<=ix.getD k 0/\ix.getD k 0<D.getD k 0):aM D (rF D ix)=ix:=by
 have h':∀k,k<D.length->(ix.getD k 0).toNat<(D.getD k 0).toNat:=fun k a=>by have:=h k a;omega
 refine v7 (by unfold aM;rw[fT,hl]) fun k a=>?_;have a:k<D.length:=by unfold aM at a;rw[fT] at a;exact a
 obtain⟨q,c,b⟩:=ah8 h' (D.length - (k+1)) (k+1) (by omega);rw[zw a];unfold ef rF;rw[c,zaL,Nat.mul_add_div (by omega),zbo b,Nat.add_zero];simp only[jQ];have cI:=h k a;rw[zaL,Nat.mul_add_mod,zbp (h' k a)];omega
def SL (r:Rg) (h:Nat->U):List Nat->U
 |[]=>eX r
 |k::l=>fV r (h k) (SL r h l)
section
variable {r:Rg} {h g:Nat->U}
theorem yK (hr:eG r=true) (a:∀k,eV r (h k)=true):∀l,eV r (SL r h l)=true
 |[]=>ET hr
 |k::l=>K8 hr (a k) (yK hr a l)
theorem TK (hr:eG r=true) (b:∀k,eV r (h k)=true) (a:List Nat):∀l,SL r h (l++a)=fV r (SL r h l) (SL r h a)
 |[]=>(zero_add hr (yK hr b a)).symm
 |k::l=>by show fV r (h k) (SL r h (l++a))=fV r (fV r (h k) (SL r h l)) (SL r h a);rw[TK hr b a l,add_assoc hr (b k) (yK hr b l) (yK hr b a)]
theorem aaw:∀(l:List Nat),(∀k∈l,h k=g k)->SL r h l=SL r g l
 |[],_=>rfl
 |k::l,H=>by show fV r (h k) (SL r h l)=fV r (g k) (SL r g l);rw[H k (by simp),aaw l fun q a=>H q (by simp[a])]
theorem aay (e:Nat->Nat):∀l:List Nat,SL r h (l.map e)=SL r (fun k=>h (e k)) l
 |[]=>rfl
 |k::l=>by show fV r (h (e k)) (SL r h (l.map e))=fV r (h (e k)) (SL r (fun k=>h (e k)) l);rw[aay e l]
theorem aaz (hr:eG r=true):∀(l:List Nat),(∀k∈l,h k=eX r)->SL r h l=eX r
 |[],_=>rfl
 |k::l,H=>by show fV r (h k) (SL r h l)=eX r;rw[H k (by simp),aaz hr l fun q a=>H q (by simp[a]),add_zero hr (ET hr)]
theorem amC (hr:eG r=true) (c:∀k,eV r (h k)=true) {l d:List Nat} (p:l.Perm d):SL r h l=SL r h d:=by induction p with|nil=>rfl|cons k _ g=>show fV r (h k) _=fV r (h k) _;rw[g]|swap a b l=>show fV r (h b) (fV r (h a) (SL r h l))=fV r (h a) (fV r (h b) (SL r h l));have hl:=yK hr c l;rw[<-add_assoc hr (c b) (c a) hl,<-add_assoc hr (c a) (c b) hl,add_comm hr (h b) (h a)]|trans _ _ f e=>rw[f,e]
theorem aax (hr:eG r=true) (a:∀k,eV r (h k)=true) (p:Nat->Bool):∀(l:List Nat),(∀k∈l,p k=false->h k=eX r)->SL r h (l.filter p)=SL r h l
 |[],_=>rfl
 |k::l,H=>by have b:=aax hr a p l fun q c=>H q (by simp[c]);cases hp:p k with|true=>rw[zaw hp];show fV r (h k) _=fV r (h k) _;rw[b]|false=>rw[zax (by rw[hp];exact Bool.false_ne_true),b];show SL r h l=fV r (h k) (SL r h l);rw[H k (by simp) hp,zero_add hr (yK hr a l)]
theorem amB (hr:eG r=true) (b:∀k,eV r (h k)=true) {L:List Nat} {P:Nat} (hn:L.Nodup) (hl:∀k∈L,k<P) (c:∀k,k<P->k∉L->h k=eX r):SL r h L=SL r h (zay P):=by rw[<-aax hr b (fun k=>decide (k∈L)) (zay P) fun k a d=>c k (zaf.1 a) (by simpa using d)];refine amC hr b ((zaU hn (zbq.filter _)).2 fun k=>?_);rw[zaj,zaf];exact⟨fun a=>⟨hl k a,decide_eq_true a⟩,fun a=>of_decide_eq_true a.2⟩
end
def gz (r:Rg) (f:Nat->U) (oc:Nat->Nat) (n:Nat):Nat->U
 |0=>eX r
 |k+1=>if oc k=n then fV r (gz r f oc n k) (f k) else gz r f oc n k
def sY (r:Rg) (f:Nat->U) (oc:Nat->Nat) (n:Nat) (k:Nat):U:=if oc k=n then f k else eX r
theorem Ix {r:Rg} {f:Nat->U} (hr:eG r=true) (b:∀k,eV r (f k)=true) (a:Nat->Nat) (n k:Nat):eV r (sY r f a n k)=true:=by unfold sY;split;exact b k;exact ET hr
theorem K3 {r:Rg} {f:Nat->U} (hr:eG r=true) (b:∀k,eV r (f k)=true) (a:Nat->Nat) (n:Nat):∀k,gz r f a n k=SL r (sY r f a n) (zay k)
 |0=>rfl
 |k+1=>by
  have c:=Ix hr b a n;rw[zaS,TK hr c,<-K3 hr b a n k];show(if a k=n then fV r (gz r f a n k) (f k) else gz r f a n k)=fV r _ (fV r (sY r f a n k) (eX r))
  rw[add_zero hr (c k)];unfold sY;split
  ·rfl
  ·rw[add_zero hr];rw[K3 hr b a n k];exact yK hr c _
theorem HK {r:Rg} {f:Nat->U} (hr:eG r=true) (b:∀k,eV r (f k)=true) (a:Nat->Nat) (n k:Nat):eV r (gz r f a n k)=true:=by rw[K3 hr b];exact yK hr (Ix hr b a n) _
def eP (g:Nat->U):Nat->U
 |0=>[]
 |n+1=>eP g n++g n
theorem vQ {g:Nat->U} {w:Nat}:∀{n},(∀i,i<n->(g i).length=w)->(eP g n).length=n*w
 |0,_=>by simp[eP]
 |n+1,h=>by rw[eP,AN,vQ fun i hi=>h i (by omega),h n (by omega),zal,zam]
theorem KP {g h:Nat->U}:∀{n},(∀i,i<n->g i=h i)->eP g n=eP h n
 |0,_=>rfl
 |n+1,e=>by rw[eP,eP,KP fun i hi=>e i (by omega),e n (by omega)]
theorem Nq {g:Nat->U} {w:Nat}:∀{n},(∀i,i<n->(g i).length=w)->∀{i},i<n->fU (eP g n) (i*w) w=g i
 |n+1,h,i,a=>by have hl:=vQ (n:=n) fun i a=>h i (by omega);unfold fU;by_cases e:i=n;subst e;rw[eP,List.drop_append,za6 (by omega),List.nil_append,hl,zaM,List.drop_zero,List.take_of_length_le (by rw[h i (by omega)];exact zac _)];have hm:(i+1)*w<=n*w:=zab _ (by omega);rw[zal,zam] at hm;rw[eP,zaD (by omega),zaO (by rw[zaP];omega)];exact Nq (fun i a=>h i (by omega)) (by omega)
theorem Yu {g:Nat->U} {w:Nat} {x:U} (hx:x.length=w):∀{n},(∀i,i<n->(g i).length=w)->∀{i},i<n->gC (eP g n) (i*w) x=eP (fun j=>if j=i then x else g j) n
 |n+1,h,i,a=>by have hl:=vQ (n:=n) fun i a=>h i (by omega);have hn:=h n (by omega);rw[eP,eP];by_cases e:i=n;subst e;rw[aj rfl,KP (n:=i) (h:=g) fun j hj=>ak (by omega)];unfold gC;rw[<-hl,List.take_left,hx,<-zbt,List.drop_left,<-hn,List.drop_length,zaH];have hm:(i+1)*w<=n*w:=zab _ (by omega);rw[zal,zam] at hm;rw[ak (Ne.symm e),<-Yu hx (fun i a=>h i (by omega)) (show i<n by omega)];unfold gC;rw[zaO (by omega),zaD (by rw[hx];omega),zaa,zaa,zaa]
theorem QP (x:U):∀n,pq x n=eP (fun _=>x) n
 |0=>rfl
 |n+1=>by rw[pq,eP,QP x n]
theorem aa2 (r:Rg) (A:U) (off:Nat->Nat):∀n,kc r A off n=eP (fun i=>fU A (off i*ax r) (ax r)) n
 |0=>rfl
 |n+1=>by rw[kc,eP,aa2 r A off n]
def n8 (r:Rg) (A:U) (i:Nat):U:=fU A (i*ax r) (ax r)
theorem AH {r:Rg} {L D A:U} (h:gM r (L,D,A)=true) {i:Nat} (b:i<aC D):eV r (n8 r A i)=true:=by obtain⟨hr,_,_,⟨mM,ki⟩,hA,_,_,_,a⟩:=mg h;have hm:(i+1)*ax r<=aC D*ax r:=zab _ b;rw[zal,zam] at hm;unfold eV;rw[zag,decide_eq_true_eq];refine⟨by unfold n8 fU;rw[IN,zaP];omega,zav.2 fun x hx=>?_⟩;exact zav.1 a x (List.mem_of_mem_drop (zba hx))
section
variable {J DJ:U} {f:Int->U}
theorem ai5 {n k:Nat} (f:Nat->Int) (h:k<n):(dd n f).getD k 0=f k:=by rw[co,rI _ h];rfl
def fL (f:Int->U) (v:Int):Int:=((f v).length:Int)
def yq (J:U) (f:Int->U) (I:U):U:=J.map fun v=>(f v).getD (tY J I v).toNat 0
def rP (J DJ:U) (f:Int->U) (j:Nat):Nat:=rF DJ (yq J f (aM (J.map (fL f)) j))
structure Jn (J DJ:U) (f:Int->U):Prop where
 nJ:J.Nodup
 lJ:DJ.length=J.length
 g:jG DJ
 p:∀v∈J,1<=(f v).length/\(f v).length<=1048576
 nd:∀v∈J,(f v).Nodup
 b:∀i,i<J.length->∀t∈f (J.getD i 0),0<=t/\t<DJ.getD i 0
theorem Jn.gF (h:Jn J DJ f):jG (J.map (fL f)):=by have:=h.g.1;have:=h.lJ;refine⟨by rw[wt];omega,fun x hx=>?_⟩;obtain⟨v,a,rfl⟩:=IT.1 hx;have:=h.p v a;unfold fL;omega
theorem Jn.dF (h:Jn J DJ f) {i:Nat} (a:i<J.length):(J.map (fL f)).getD i 0=((f (J.getD i 0)).length:Int):=by rw[jH a];rfl
theorem Jn.ix (h:Jn J DJ f) (j:Nat) {i:Nat} (a:i<J.length):0<=(aM (J.map (fL f)) j).getD i 0/\((aM (J.map (fL f)) j).getD i 0).toNat<(f (J.getD i 0)).length:=by have:=I1 h.gF j (i:=i) (by rw[wt];exact a);rw[h.dF a] at this;omega
theorem FC (J:U) (f:Int->U) (j:Nat):(aM (J.map (fL f)) j).length=J.length:=by unfold aM;rw[fT,wt]
theorem NH (J:U) (f:Int->U) (I:U):(yq J f I).length=J.length:=wt ..
theorem Jn.w (h:Jn J DJ f) (I:U) {i:Nat} (a:i<J.length):(yq J f I).getD i 0=(f (J.getD i 0)).getD (I.getD i 0).toNat 0:=by unfold yq;rw[co,Pe,getD_some 0 a];show(f (J.getD i 0)).getD (tY J I (J.getD i 0)).toNat 0=_;unfold tY;rw[j4 h.nJ a]
theorem Jn.ZZ (h:Jn J DJ f) (j:Nat) {i:Nat} (a:i<J.length):(yq J f (aM (J.map (fL f)) j)).getD i 0∈f (J.getD i 0):=by rw[h.w _ a];exact eF (h.ix j a).2
theorem Jn.w_b (h:Jn J DJ f) (j:Nat):∀i,i<DJ.length->0<=(yq J f (aM (J.map (fL f)) j)).getD i 0/\(yq J f (aM (J.map (fL f)) j)).getD i 0<DJ.getD i 0:=fun i hi=>by
 have a:i<J.length:=by have:=h.lJ;omega
 exact h.b i a _ (h.ZZ j a)
theorem Jn.idx (h:Jn J DJ f) (j:Nat):aM DJ (rP J DJ f j)=yq J f (aM (J.map (fL f)) j):=PV (by rw[NH,h.lJ]) (h.w_b j)
theorem Jn.lt (h:Jn J DJ f) (j:Nat):rP J DJ f j<aC DJ:=XV fun k a=>by have:=h.w_b j k a;omega
theorem Jn.off (h:Jn J DJ f) {L D:U} (hL:L.Nodup) (b:∀v∈L,v∈J) (hl:L.length=D.length) (j:Nat): gY L D J (aM DJ (rP J DJ f j))=rF D (qT (L.map f) (aM (L.map (fL f)) (gY L (L.map (fL f)) J (aM (J.map (fL f)) j)))):=by have d:=FC J f j;rw[h.idx,OL hL h.nJ b hl (NH _ _ _),OL hL h.nJ b (by rw[wt]) d];have hd:∀k,k<L.length->0<=(L.map (tY J (aM (J.map (fL f)) j))).getD k 0/\(L.map (tY J (aM (J.map (fL f)) j))).getD k 0<(L.map (fL f)).getD k 0:=fun k a=>(by have c:=ff (b _ (eF a));have:=h.ix j c;rw[jA (b _ (eF a))] at this;rw[jH a,jH a];show 0<=(aM (J.map (fL f)) j).getD (bh J (L.getD k 0)) 0/\(aM (J.map (fL f)) j).getD (bh J (L.getD k 0)) 0<((f (L.getD k 0)).length:Int);omega);rw[PV (by rw[wt,wt]) (by rw[wt];exact hd)];congr 1;unfold qT;refine v7 (by rw[wt,fT,wt]) fun k a=>?_;rw[wt] at a;have c:=ff (b _ (eF a));rw[jH a,ai5 _ (by rw[wt];exact a),jH a];rw[show(L.map f).getD k []=f (L.getD k 0) by rw[co,Pe,getD_some 0 a];rfl];unfold tY;rw[h.w _ c,jA (b _ (eF a))]
theorem getD_inj {l:U} (hn:l.Nodup) {i j:Nat} (b:i<l.length) (c:j<l.length) (e:l.getD i 0=l.getD j 0):i=j:=by have a:=j4 hn b;have h2:=j4 hn c;rw[e] at a;omega
theorem Jn.inj (h:Jn J DJ f) {j k:Nat} (m:j<aC (J.map (fL f))) (l:k<aC (J.map (fL f))) (e:rP J DJ f j=rP J DJ f k):j=k:=by have c:yq J f (aM (J.map (fL f)) j)=yq J f (aM (J.map (fL f)) k):=(by rw[<-h.idx,<-h.idx,e]);have g:aM (J.map (fL f)) j=aM (J.map (fL f)) k:=v7 (by rw[FC,FC]) fun i a=>(by rw[FC] at a;have b:=h.ix j a;have d:=h.ix k a;have:=getD_inj (h.nd _ (eF a)) b.2 d.2 (by rw[<-h.w _ a,<-h.w _ a,c]);omega);rw[<-QB h.gF m,g,QB h.gF l]
theorem Jn.sur (h:Jn J DJ f) {k:Nat} (e:k<aC DJ) (hm:∀i,i<J.length->(aM DJ k).getD i 0∈f (J.getD i 0)):∃j,j<aC (J.map (fL f))/\rP J DJ f j=k:=by let I:U:=dd J.length fun i=>(bh (f (J.getD i 0)) ((aM DJ k).getD i 0):Int);have d:I.length=(J.map (fL f)).length:=(by rw[fT,wt]);have c:∀i,i<J.length->I.getD i 0=(bh (f (J.getD i 0)) ((aM DJ k).getD i 0):Int):=fun i a=>(by rw[co,rI _ a];rfl);have b:∀i,i<(J.map (fL f)).length->0<=I.getD i 0/\I.getD i 0<(J.map (fL f)).getD i 0:=fun i a=>(by rw[wt] at a;rw[c i a,h.dF a];have:=ff (hm i a);omega);refine⟨rF (J.map (fL f)) I,XV fun i a=>by have:=b i a;omega,?_⟩;unfold rP;rw[PV d b];have:yq J f I=aM DJ k:=v7 (by rw[NH];unfold aM;rw[fT,h.lJ]) fun i a=>(by rw[NH] at a;rw[h.w _ a,c i a,GB,jA (hm i a)]);rw[this,QB h.g e]
end
theorem ZS (of:U) (x:Int):∀n,(mn of x n).Nodup
 |0=>zbu
 |n+1=>by simp only[mn];split;rw[za0];refine⟨ZS of x n,by simp,fun a d b c e=>?_⟩;obtain⟨i,hi,h1,_⟩:=Kg of x n a d;rw[zaG] at c;omega;exact ZS of x n
theorem MC {of:U} {x t:Int}:t∈vals of x↔∃i:Nat,i<of.length/\t=(i:Int)/\of.getD i 0=x:= ⟨Kg of x _ t,fun⟨i,c,a,b⟩=>by rw[a];exact ZT c b⟩
theorem amd {of b:U} {x y:Int}:∀n,(∀i,i<n->(of.getD i 0=x↔b.getD i 0=y))->mn of x n=mn b y n
 |0,_=>rfl
 |n+1,h=>by simp only[mn];rw[amd n fun i hi=>h i (by omega)];by_cases a:of.getD n 0=x;rw[aj a,aj ((h n (by omega)).1 a)];rw[ak a,ak fun e=>a ((h n (by omega)).2 e)]
theorem aBg {of a:U} {x y:Int} (hl:of.length=a.length) (h:∀i,i<of.length->(of.getD i 0=x↔a.getD i 0=y)):vals of x=vals a y:=by unfold vals;rw[hl];exact amd _ fun i hi=>h i (by omega)
theorem ago {m a b c:Int} (hb:0<=b/\b<m) (hc:0<=c/\c<m) (g:(a+b)%m=0) (d:(a+c)%m=0):b=c:=by
 obtain⟨x,hx⟩:=za3 g;obtain⟨y,hy⟩:=za3 d;have e:b - c=m*(x - y):=by rw[Int.mul_sub];omega
 have hm:0<m:=by omega
 have h3:x - y<1:=zaX (a:=m) (by omega) (by omega);have h4: -1<x - y:=zaX (a:=m) (by omega) (by omega);have f:x - y=0:=by omega
 rw[f,zbl] at e;omega
theorem Yk (of:U):∀n,(nq of n).Nodup
 |0=>zbu
 |n+1=>by simp only[nq];split;rw[za0];refine⟨Yk of n,by simp,fun a d b c e=>?_⟩;obtain⟨i,hi,h1,_⟩:=(MT of a n).1 d;rw[zaG] at c;omega;exact Yk of n
theorem aaF (m:Int):∀(k:Nat) (R:List U),R.length=k->(ee m R).Nodup/\∀l∈ee m R,l.length=R.length
 |0,R,h=>by rw[zak h];exact⟨by simp[ee],fun l hl=>by simp[ee] at hl;rw[hl];rfl⟩
 |k+1,R,h=>by obtain⟨R,of,rfl⟩:∃g of,R=g++[of]:=⟨R.dropLast,R.getLast (by intro e;rw[e] at h;simp at h),(zan _).symm⟩;obtain⟨n,d⟩:=aaF m k R (by simpa using h);rw[KH];refine⟨?_,fun l hl=>?_⟩;rw[zbL,zaN];refine⟨fun a c=>?_,zaA (fun{a b} c j i=>?_) n⟩;rw[zbh];refine zbM (fun{x y} f e=>f ?_) (Yk of m.toNat);have:=List.append_cancel_left e;simpa using this;intro x hx y hy e;obtain⟨u,_,rfl⟩:=IT.1 hx;obtain⟨w,_,o⟩:=IT.1 hy;rw[<-o] at e;exact i (List.append_inj_left e (by rw[d a c,d b j]));obtain⟨a,c,hl⟩:=zaE.1 hl;obtain⟨u,_,rfl⟩:=IT.1 hl;rw[AN,AN,d a c];rfl
theorem aaE (m:Int):∀(k:Nat) (R:List U),R.length=k->∀l:U,l.length=R.length->(∀i,i<R.length->l.getD i 0∈e7 m (R.getD i []))->l∈ee m R
 |0,R,h,l,hl,hm=>by rw[zak h] at hl⊢;rw[zak hl];simp[ee]
 |k+1,R,h,l,hl,hm=>by obtain⟨R,of,rfl⟩:∃a of,R=a++[of]:=⟨R.dropLast,R.getLast (by intro e;rw[e] at h;simp at h),(zan _).symm⟩;rw[AN,AT] at hl;obtain⟨l,x,rfl⟩:∃b x,l=b++[x]:=⟨l.dropLast,l.getLast (by intro e;rw[e] at hl;simp at hl),(zan _).symm⟩;rw[AN,AT] at hl;rw[AN,AT] at hm;rw[KH];refine zaE.2 ⟨l,aaE m k R (by simpa using h) l (by omega) fun i hi=>?_,IT.2 ⟨x,?_,rfl⟩⟩;have:=hm i (by omega);rw[co,co,zas (by omega),zas (by omega),<-co,<-co] at this;exact this;have:=hm R.length (by omega);rw[co,co,zaq (by omega),zaq (by omega),zaM,show R.length - l.length=0 by omega] at this;exact this
theorem aa4 (m:Int) (R:List U):(gm m R).Nodup:=(aaF m R.length R rfl).1.filter _
theorem agf {D:U} {m:Int} {R:List U} (H:fJ D m R) {ch:U} (b:fE R ch) (c:pA ch%m=0):ch∈gm m R:=by refine zaj.2 ⟨aaE m R.length R rfl ch b.1 fun i d=>?_,decide_eq_true c⟩;have a:=b.2 i d;have h2:=H.al i (by have:=H.rl;omega) _ a;exact(MT _ _ _).2 ⟨(ch.getD i 0).toNat,by omega,by omega,a⟩
structure fK (La Da:U) (Ra:List U) (Lb Db:U) (Rb:List U) (m:Int):Prop where
 HA:fJ Da m Ra
 HB:fJ Db m Rb
 na:La.Nodup
 nb:Lb.Nodup
 la:La.length=Da.length
 lb:Lb.length=Db.length
 X6:∀v,v∈La->v∈Lb->Da.getD (bh La v) 0=Db.getD (bh Lb v) 0/\∀t,t<(Ra.getD (bh La v) []).length->((Ra.getD (bh La v) []).getD t 0+(Rb.getD (bh Lb v) []).getD t 0)%m=0
def lF (La Lb:U) (m:Int) (x y:U):Prop:=∀v∈La,v∈Lb->(x.getD (bh La v) 0+y.getD (bh Lb v) 0)%m=0
instance (La Lb:U) (m:Int) (x y:U):Decidable (lF La Lb m x y):=by unfold lF;infer_instance
def ft (La:U) (Ra:List U) (Lb:U) (Rb:List U) (x y:U) (v:Int):U:=
 if v∈La then vals (Ra.getD (bh La v) []) (x.getD (bh La v) 0) else vals (Rb.getD (bh Lb v) []) (y.getD (bh Lb v) 0)
def cq (La Da Lb Db:U):U:=(jL La Lb).map (jd La Da Lb Db)
def rM (L:U) (R:List U) (J K:U):U:=dd L.length fun i=>(R.getD i []).getD (K.getD (bh J (L.getD i 0)) 0).toNat 0
theorem EK (L:U) (R:List U) (J K:U):(rM L R J K).length=L.length:=fT _ _
theorem AA {L:U} {R:List U} {J K:U} {i:Nat} (a:i<L.length:=by omega):(rM L R J K).getD i 0=(R.getD i []).getD (K.getD (bh J (L.getD i 0)) 0).toNat 0:=by rw[co,rM,rI _ a];rfl
section
variable {La Da:U} {Ra:List U} {Lb Db:U} {Rb:List U} {m:Int}
theorem fK.Dp (H:fK La Da Ra Lb Db Rb m) {v:Int} (a:v∈La):jd La Da Lb Db v=Da.getD (bh La v) 0:=aj (ff a)
theorem fK.I5 (H:fK La Da Ra Lb Db Rb m) {v:Int} (a:v∈Lb):jd La Da Lb Db v=Db.getD (bh Lb v) 0:=by by_cases h:v∈La;rw[H.Dp h,(H.X6 v h a).1];exact ak fun q=>h (tB.1 q)
theorem fK.dv (H:fK La Da Ra Lb Db Rb m) {v:Int} (a:v∈jL La Lb):1<=jd La Da Lb Db v/\jd La Da Lb Db v<=8:=by have h1:=H.la;have h2:=H.lb;rcases x4 a with h|h;rw[H.Dp h];exact H.HA.re (by have:=ff h;omega);rw[H.I5 h];exact H.HB.re (by have:=ff h;omega)
theorem fK.nJ (H:fK La Da Ra Lb Db Rb m):(jL La Lb).Nodup:=P5 H.na H.nb
theorem P4 (La Lb:U):(jL La Lb).length<=La.length+Lb.length:=by unfold jL;rw[AN];have:=Pd (fun x=> !decide (x∈La)) Lb;omega
theorem fK.lJ (H:fK La Da Ra Lb Db Rb m):(jL La Lb).length<=24:=by have:=P4 La Lb;have:=H.la;have:=H.lb;have:=H.HA.cB;have:=H.HB.cB;omega
theorem fK.gJ (H:fK La Da Ra Lb Db Rb m):jG (cq La Da Lb Db):=by have:=H.lJ;refine⟨by unfold cq;rw[wt];omega,fun x hx=>?_⟩;obtain⟨v,a,rfl⟩:=IT.1 hx;have:=H.dv a;omega
theorem fK.wZ (H:fK La Da Ra Lb Db Rb m):Sub La Da (jL La Lb) (cq La Da Lb Db):= ⟨H.na,H.nJ,xZ,H.la,wt ..,fun i c=>by have a:=xZ (b:=Lb) _ (eF c);unfold cq;rw[jH (ff a),jA a,H.Dp (eF c),j4 H.na c],fun x hx=>by obtain⟨v,a,rfl⟩:=IT.1 hx;exact(H.dv a).1⟩
theorem fK.w4 (H:fK La Da Ra Lb Db Rb m):Sub Lb Db (jL La Lb) (cq La Da Lb Db):= ⟨H.nb,H.nJ,Dn,H.lb,wt ..,fun i c=>by have b:=Dn (a:=La) _ (eF c);unfold cq;rw[jH (ff b),jA b,H.I5 (eF c),j4 H.nb c],fun x hx=>by obtain⟨v,b,rfl⟩:=IT.1 hx;exact(H.dv b).1⟩
theorem fK.kb (H:fK La Da Ra Lb Db Rb m) (k:Nat) {v:Int} (a:v∈jL La Lb):0<=(aM (cq La Da Lb Db) k).getD (bh (jL La Lb) v) 0/\(aM (cq La Da Lb Db) k).getD (bh (jL La Lb) v) 0<jd La Da Lb Db v:=by have b:=ff a;have:=I1 H.gJ k (i:=bh (jL La Lb) v) (by unfold cq;rw[wt];exact b);rw[show(cq La Da Lb Db).getD (bh (jL La Lb) v) 0=jd La Da Lb Db v by unfold cq;rw[jH b,jA a]] at this;exact this
theorem fK.abg (H:fK La Da Ra Lb Db Rb m) (k:Nat):fE Ra (rM La Ra (jL La Lb) (aM (cq La Da Lb Db) k)):=by have h1:=H.la;have h2:=H.HA.rl;refine⟨by rw[EK];omega,fun i hi=>?_⟩;rw[AA];have a:La.getD i 0∈La:=eF (by omega);have:=H.kb k (xZ (b:=Lb) _ a);rw[H.Dp a,j4 H.na (by omega)] at this;have:=H.HA.row i (by omega);exact eF (by omega)
theorem fK.abh (H:fK La Da Ra Lb Db Rb m) (k:Nat):fE Rb (rM Lb Rb (jL La Lb) (aM (cq La Da Lb Db) k)):=by have h1:=H.lb;have h2:=H.HB.rl;refine⟨by rw[EK];omega,fun i hi=>?_⟩;rw[AA];have b:Lb.getD i 0∈Lb:=eF (by omega);have:=H.kb k (Dn (a:=La) _ b);rw[H.I5 b,j4 H.nb (by omega)] at this;have:=H.HB.row i (by omega);exact eF (by omega)
theorem fK.abi (H:fK La Da Ra Lb Db Rb m) (k:Nat):lF La Lb m (rM La Ra (jL La Lb) (aM (cq La Da Lb Db) k)) (rM Lb Rb (jL La Lb) (aM (cq La Da Lb Db) k)):=fun v a c=>by rw[AA (ff a),AA (ff c),jA a,jA c];have d:=H.kb k (xZ (b:=Lb) _ a);rw[H.Dp a] at d;have:=H.HA.row (bh La v) (by have:=ff a;have:=H.la;omega);exact(H.X6 v a c).2 _ (by omega)
section
variable {x y:U}
theorem fK.f_b (H:fK La Da Ra Lb Db Rb m) (hx:fE Ra x) (hy:fE Rb y) (hm:lF La Lb m x y) {v:Int} (c:v∈Lb):ft La Ra Lb Rb x y v=vals (Rb.getD (bh Lb v) []) (y.getD (bh Lb v) 0):=by unfold ft;by_cases b:v∈La;rw[aj b];have p1:=ff b;have p2:=ff c;have l1:=H.la;have l2:=H.lb;have l3:=H.HA.rl;have l4:=H.HB.rl;have r1:=H.HA.row (bh La v) (by omega);have r2:=H.HB.row (bh Lb v) (by omega);obtain⟨o1,k⟩:=H.X6 v b c;have d:=hm v b c;have g:=H.HA.al _ (by omega) _ (hx.2 (bh La v) (by omega));have n:=H.HB.al _ (by omega) _ (hy.2 (bh Lb v) (by omega));refine aBg (by omega) fun i f=>?_;have a:=k i f;have j:=H.HA.al _ (by omega) _ (eF f);have h:=H.HB.al _ (by omega) _ (eF (l:=Rb.getD (bh Lb v) []) (i:=i) (by omega));constructor;intro e;rw[e] at a;exact ago h n a d;intro e;rw[e] at a;rw[zaV] at a d;exact ago j g a d;rw[ak b]
theorem fK.jn (H:fK La Da Ra Lb Db Rb m) (hx:fE Ra x) (hy:fE Rb y) (hm:lF La Lb m x y):Jn (jL La Lb) (cq La Da Lb Db) (ft La Ra Lb Rb x y):=by have l1:=H.la;have l2:=H.lb;have l3:=H.HA.rl;have l4:=H.HB.rl;have e:∀v∈jL La Lb,∃of c,ft La Ra Lb Rb x y v=vals of c/\c∈of/\(of.length:Int)=jd La Da Lb Db v:=fun v a=>(by by_cases d:v∈La;have p1:=ff d;exact⟨_,_,aj d,hx.2 _ (by omega),by rw[H.Dp d];exact H.HA.row _ (by omega)⟩;have h:=(x4 a).resolve_left d;have p1:=ff h;exact⟨_,_,ak d,hy.2 _ (by omega),by rw[H.I5 h];exact H.HB.row _ (by omega)⟩);refine⟨H.nJ,wt ..,H.gJ,fun v a=>?_,fun v a=>?_,fun i g t j=>?_⟩;obtain⟨of,c,b,f,k⟩:=e v a;rw[b];have:=H.dv a;have:=ZU f;have:=Kh of c;omega;obtain⟨of,c,b,f,k⟩:=e v a;rw[b];exact ZS _ _ _;obtain⟨of,c,b,f,k⟩:=e _ (eF g);rw[b] at j;obtain⟨q,q1,q2,_⟩:=MC.1 j;have:(cq La Da Lb Db).getD i 0=jd La Da Lb Db ((jL La Lb).getD i 0):=(by unfold cq;rw[jH g]);omega
theorem fK.XI (H:fK La Da Ra Lb Db Rb m) (hx:fE Ra x):La.map (ft La Ra Lb Rb x y)=w7 Ra x/\La.map (fL (ft La Ra Lb Rb x y))=cf Ra x:=by have l1:=H.la;have l3:=H.HA.rl;have hl:=hx.1;have e:∀i,i<La.length->ft La Ra Lb Rb x y (La.getD i 0)=vals (Ra.getD i []) (x.getD i 0):=fun i a=>(by unfold ft;rw[aj (eF a),j4 H.na a]);constructor;rw[<-Pf (ft La Ra Lb Rb x y) La 0,show La.length=x.length by omega];exact xG fun i a=>e i (by omega);refine v7 (by rw[wt,Uy];omega) fun i a=>?_;rw[wt] at a;rw[jH a,HV];unfold fL;rw[e i a]
theorem fK.XJ (H:fK La Da Ra Lb Db Rb m) (hx:fE Ra x) (hy:fE Rb y) (hm:lF La Lb m x y):Lb.map (ft La Ra Lb Rb x y)=w7 Rb y/\Lb.map (fL (ft La Ra Lb Rb x y))=cf Rb y:=by have l1:=H.lb;have l3:=H.HB.rl;have hl:=hy.1;have e:∀i,i<Lb.length->ft La Ra Lb Rb x y (Lb.getD i 0)=vals (Rb.getD i []) (y.getD i 0):=fun i a=>(by rw[H.f_b hx hy hm (eF a),j4 H.nb a]);constructor;rw[<-Pf (ft La Ra Lb Rb x y) Lb 0,show Lb.length=y.length by omega];exact xG fun i a=>e i (by omega);refine v7 (by rw[wt,Uy];omega) fun i a=>?_;rw[wt] at a;rw[jH a,HV];unfold fL;rw[e i a]
theorem fK.dJ (H:fK La Da Ra Lb Db Rb m) (hx:fE Ra x) (hy:fE Rb y) (hm:lF La Lb m x y):cq La (cf Ra x) Lb (cf Rb y)=(jL La Lb).map (fL (ft La Ra Lb Rb x y)):=by refine zaB fun v c=>?_;have l1:=H.la;have l2:=H.lb;have l3:=H.HA.rl;have l4:=H.HB.rl;have h1:=hx.1;have h2:=hy.1;unfold jd fL;by_cases a:v∈La;have p1:=ff a;rw[aj p1,HV];unfold ft;rw[aj a];have b:=(x4 c).resolve_left a;have p1:=ff b;rw[ak fun q=>a (tB.1 q),HV];unfold ft;rw[ak a]
theorem fK.anD (H:fK La Da Ra Lb Db Rb m) (hx:fE Ra x) (hy:fE Rb y) (hm:lF La Lb m x y) (j:Nat): rM La Ra (jL La Lb) (aM (cq La Da Lb Db) (rP (jL La Lb) (cq La Da Lb Db) (ft La Ra Lb Rb x y) j))=x/\rM Lb Rb (jL La Lb) (aM (cq La Da Lb Db) (rP (jL La Lb) (cq La Da Lb Db) (ft La Ra Lb Rb x y) j))=y:=by have N:=H.jn hx hy hm;have l1:=H.la;have l2:=H.lb;have l3:=H.HA.rl;have l4:=H.HB.rl;have h1:=hx.1;have h2:=hy.1;rw[N.idx];constructor;refine v7 (by rw[EK];omega) fun i c=>?_;rw[EK] at c;have e:La.getD i 0∈La:=eF c;have d:=N.ZZ j (ff (xZ (b:=Lb) _ e));rw[jA (xZ _ e)] at d;rw[show ft La Ra Lb Rb x y (La.getD i 0)=_ from aj e,j4 H.na c] at d;obtain⟨q,h,g,f⟩:=MC.1 d;rw[AA c,g,GB,f];refine v7 (by rw[EK];omega) fun i c=>?_;rw[EK] at c;have e:Lb.getD i 0∈Lb:=eF c;have d:=N.ZZ j (ff (Dn (a:=La) _ e));rw[jA (Dn _ e)] at d;rw[H.f_b hx hy hm e,j4 H.nb c] at d;obtain⟨q,h,g,f⟩:=MC.1 d;rw[AA c,g,GB,f]
end
theorem fK.atM (H:fK La Da Ra Lb Db Rb m) (k:Nat) {i:Nat} (b:i<(jL La Lb).length): (aM (cq La Da Lb Db) k).getD i 0∈ft La Ra Lb Rb (rM La Ra (jL La Lb) (aM (cq La Da Lb Db) k)) (rM Lb Rb (jL La Lb) (aM (cq La Da Lb Db) k)) ((jL La Lb).getD i 0):=by have e:=eF b;have d:=H.kb k e;rw[j4 H.nJ b] at d;have l1:=H.la;have l2:=H.lb;unfold ft;by_cases a:(jL La Lb).getD i 0∈La;rw[aj a];have p1:=ff a;have:=H.HA.row _ (show bh La ((jL La Lb).getD i 0)<Da.length by omega);rw[H.Dp a] at d;refine MC.2 ⟨((aM (cq La Da Lb Db) k).getD i 0).toNat,by omega,by omega,?_⟩;rw[AA p1,jA a,j4 H.nJ b];rw[ak a];have c:=(x4 e).resolve_left a;have p1:=ff c;have:=H.HB.row _ (show bh Lb ((jL La Lb).getD i 0)<Db.length by omega);rw[H.I5 c] at d;refine MC.2 ⟨((aM (cq La Da Lb Db) k).getD i 0).toNat,by omega,by omega,?_⟩;rw[AA p1,jA c,j4 H.nJ b]
def rT (La Da:U) (Ra:List U) (Lb Db:U) (Rb:List U) (m:Int) (x y:U):List Nat:=
 if lF La Lb m x y then(zay (aC ((jL La Lb).map (fL (ft La Ra Lb Rb x y))))).map (rP (jL La Lb) (cq La Da Lb Db) (ft La Ra Lb Rb x y)) else[]
def u0 (La Da:U) (Ra:List U) (Lb Db:U) (Rb:List U) (m:Int) (Y:List U) (x:U):List Nat:=Y.flatMap (rT La Da Ra Lb Db Rb m x)
def lv (La Da:U) (Ra:List U) (Lb Db:U) (Rb:List U) (m:Int) (X Y:List U):List Nat:=X.flatMap (u0 La Da Ra Lb Db Rb m Y)
theorem age {X Y:List U} {k:Nat}:k∈lv La Da Ra Lb Db Rb m X Y↔∃x∈X,∃y∈Y,lF La Lb m x y/\∃j,j<aC ((jL La Lb).map (fL (ft La Ra Lb Rb x y)))/\rP (jL La Lb) (cq La Da Lb Db) (ft La Ra Lb Rb x y) j=k:=by unfold lv;rw[zaE];refine exists_congr fun x=>and_congr_right fun _=>?_;unfold u0;rw[zaE];refine exists_congr fun y=>and_congr_right fun _=>?_;unfold rT;by_cases h:lF La Lb m x y;rw[aj h,IT];simp only[zaf];exact⟨fun⟨j,b,a⟩=>⟨h,j,b,a⟩,fun⟨_,j,b,a⟩=>⟨j,b,a⟩⟩;rw[ak h];exact⟨fun h=>(List.not_mem_nil h).elim,fun⟨h',_⟩=>absurd h' h⟩
theorem fK.aan (H:fK La Da Ra Lb Db Rb m) {k:Nat} (h:k∈lv La Da Ra Lb Db Rb m (gm m Ra) (gm m Rb)):k<aC (cq La Da Lb Db):=by obtain⟨x,hx,y,hy,hm,j,_,rfl⟩:=age.1 h;exact(H.jn (xw H.HA hx) (xw H.HB hy) hm).lt j
theorem fK.aao (H:fK La Da Ra Lb Db Rb m):(lv La Da Ra Lb Db Rb m (gm m Ra) (gm m Rb)).Nodup:=by unfold lv;rw[zbL,zaN];have one:∀x∈gm m Ra,∀y∈gm m Rb,∀k∈rT La Da Ra Lb Db Rb m x y,rM La Ra (jL La Lb) (aM (cq La Da Lb Db) k)=x/\rM Lb Rb (jL La Lb) (aM (cq La Da Lb Db) k)=y:=fun x hx y hy k c=>(by unfold rT at c;split at c;rename_i hm;obtain⟨j,_,rfl⟩:=IT.1 c;exact H.anD (xw H.HA hx) (xw H.HB hy) hm j;cases c);refine⟨fun x hx=>?_,zaA (fun{a b} d g f=>?_) (aa4 m Ra)⟩;unfold u0;rw[zaN];refine⟨fun y hy=>?_,zaA (fun{a b} d g f=>?_) (aa4 m Rb)⟩;unfold rT;split;rename_i hm;rw[zbh];have N:=H.jn (xw H.HA hx) (xw H.HB hy) hm;exact zaA (fun{a b} d g f e=>f (N.inj (zaf.1 d) (zaf.1 g) e)) zbq;exact zbN;intro k c l hl e;have i:=(one x hx a d k c).2;have h:=(one x hx b g l hl).2;rw[<-e] at h;exact f (i.symm.trans h);intro k c l hl e;obtain⟨y,hy,c⟩:=zaE.1 c;obtain⟨z,n,hl⟩:=zaE.1 hl;have i:=(one a d y hy k c).1;have h:=(one b g z n l hl).1;rw[<-e] at h;exact f (i.symm.trans h)
theorem fK.amw (H:fK La Da Ra Lb Db Rb m) {k:Nat} (c:k<aC (cq La Da Lb Db)) (hn:k∉lv La Da Ra Lb Db Rb m (gm m Ra) (gm m Rb)): ¬pA (rM La Ra (jL La Lb) (aM (cq La Da Lb Db) k))%m=0\/¬pA (rM Lb Rb (jL La Lb) (aM (cq La Da Lb Db) k))%m=0:=by rw[<-Decidable.not_and_iff_or_not];rintro⟨b,a⟩;refine hn (age.2 ⟨_,agf H.HA (H.abg k) b,_,agf H.HB (H.abh k) a,H.abi k,?_⟩);exact(H.jn (H.abg k) (H.abh k) (H.abi k)).sur c fun i d=>H.atM k d
theorem fK.aam (H:fK La Da Ra Lb Db Rb m):(lv La Da Ra Lb Db Rb m (gm m Ra) (gm m Rb)).length<=aC (cq La Da Lb Db):=by have:=zau H.aao (l₂:=zay (aC (cq La Da Lb Db))) fun k a=>zaf.2 (H.aan a);rw[zar] at this;exact this
end
theorem ale {f g:Nat->Int}:∀n,(∀i,i<n->f i=g i)->sm n f=sm n g
 |0,_=>rfl
 |n+1,h=>by simp only[sm];rw[ale n fun i hi=>h i (by omega),h n (by omega)]
theorem abo {r:Rg} {L D A:U} {m:Int} {R:List U} (h:oO r (L,D,A) (m,R)=true) {n:Nat} (hn:n<aC D) (a:xr D (m,R) n=true):n8 r A n=eX r:=by obtain⟨c,h2,b⟩:=of_decide_eq_true h;obtain⟨hr,_,_,_,d,_,_,_,_⟩:=mg c;exact(abn hr d).1 b n hn a
theorem abj {L D J a:U} {R:List U} (S:Sub L D J a) (hR:R.length=D.length) (gJ:jG a) (k:Nat): sm D.length (kf R (aM D (gY L D J (aM a k))))=pA (rM L R J (aM a k)):=by have e:(aM a k).length=J.length:=(by unfold aM;rw[fT,S.lJ]);have hl:=S.l;have hd:∀i,i<D.length->0<=(L.map (tY J (aM a k))).getD i 0/\(L.map (tY J (aM a k))).getD i 0<D.getD i 0:=fun i g=>(by have c:=S.s _ (eF (l:=L) (i:=i) (by omega));have f:=ff c;have b:=I1 gJ k (i:=bh J (L.getD i 0)) (by rw[S.lJ];exact f);rw[S.d i (by omega)] at b;rw[jH (by omega)];exact b);rw[OL S.nL S.nJ S.s S.l e,PV (by rw[wt];exact S.l) hd];unfold pA;rw[EK,hl];refine ale _ fun i g=>?_;rw[AA];unfold kf;rw[jH (by omega)];rfl
def Gu (r:Rg) (A B:U) (oa ob:Nat->Nat) (k:Nat):U:=mR r (n8 r A (oa k)) (n8 r B (ob k))
def nV (r:Rg) (La Da A Lb Db B:U):Nat->U:=Gu r A B (fun k=>gY La Da (jL La Lb) (aM (cq La Da Lb Db) k)) (fun k=>gY Lb Db (jL La Lb) (aM (cq La Da Lb Db) k))
def pn (La Da Lb Db S DS:U) (k:Nat):Nat:=gY S DS (jL La Lb) (aM (cq La Da Lb Db) k)
section
variable {r:Rg} {La Da A:U} {Ra:List U} {Lb Db B:U} {Rb:List U} {m:Int}
theorem Gv (a:Sub La Da (jL La Lb) (cq La Da Lb Db)) (SB:Sub Lb Db (jL La Lb) (cq La Da Lb Db)) (ta:gM r (La,Da,A)=true) (tb:gM r (Lb,Db,B)=true) (k:Nat):eV r (nV r La Da A Lb Db B k)=true:= aob (mg ta).1 (AH ta (a.lt k)) (AH tb (SB.lt k))
theorem fK.aA8 (H:fK La Da Ra Lb Db Rb m) (ca:oO r (La,Da,A) (m,Ra)=true) (cb:oO r (Lb,Db,B) (m,Rb)=true) {k:Nat} (a:k<aC (cq La Da Lb Db)) (hn:k∉lv La Da Ra Lb Db Rb m (gm m Ra) (gm m Rb)):nV r La Da A Lb Db B k=eX r:=by have ta:=(of_decide_eq_true ca).1;have tb:=(of_decide_eq_true cb).1;have hr:=(mg ta).1;unfold nV Gu;rcases H.amw a hn with h|h;rw[abo ca (H.wZ.lt k) (decide_eq_true (by rw[abj H.wZ H.HA.rl H.gJ k];exact h)),zero_mul hr (AH tb (H.w4.lt k))];rw[abo cb (H.w4.lt k) (decide_eq_true (by rw[abj H.w4 H.HB.rl H.gJ k];exact h)),mul_zero hr (AH ta (H.wZ.lt k))]
theorem fK.sum (H:fK La Da Ra Lb Db Rb m) (ca:oO r (La,Da,A) (m,Ra)=true) (cb:oO r (Lb,Db,B) (m,Rb)=true) (a:Nat->Nat) (n:Nat): SL r (sY r (nV r La Da A Lb Db B) a n) (lv La Da Ra Lb Db Rb m (gm m Ra) (gm m Rb))=gz r (nV r La Da A Lb Db B) a n (aC (cq La Da Lb Db)):=by have ta:=(of_decide_eq_true ca).1;have tb:=(of_decide_eq_true cb).1;have hr:=(mg ta).1;have c:=Gv H.wZ H.w4 ta tb;rw[K3 hr c];refine amB hr (Ix hr c a n) H.aao (fun k b=>H.aan b) fun k b hn=>?_;unfold sY;split;exact H.aA8 ca cb b hn;rfl
end
def qS (r:Rg) (g t:Nat->U) (off:Nat->Nat):Nat->Nat->U
 |0=>g
 |n+1=>fun a=>if a=off n then fV r (qS r g t off n a) (t n) else qS r g t off n a
theorem TO {r:Rg} {g t:Nat->U} {off:Nat->Nat} {a:Nat}:∀n,(∀i,i<n->off i≠a)->qS r g t off n a=g a
 |0,_=>rfl
 |n+1,h=>by
  show(if a=off n then _ else qS r g t off n a)=g a
  rw[ak (Ne.symm (h n (by omega))),TO n fun i hi=>h i (by omega)]
theorem aaB {r:Rg} {g t:Nat->U} {off:Nat->Nat} {N:Nat} (a:∀i j,i<N->j<N->off i=off j->i=j) {i:Nat}:∀n,n<=N->i<n->qS r g t off n (off i)=fV r (g (off i)) (t i)
 |n+1,hn,h=>by
  show(if off i=off n then fV r (qS r g t off n (off i)) (t n) else qS r g t off n (off i))=_
  by_cases e:i=n
  ·subst e;rw[aj rfl,TO i fun j hj e=>by have:=a j i (by omega) (by omega) e;omega]
  ·rw[ak fun q=>e (a i n (by omega) (by omega) q)];exact aaB a n (by omega) (by omega)
theorem Ek {α:Type} (x:α):bc [x] 0 1=some [x]:=rfl
theorem Lg {P:Int->Bool} (l:U) (i:Nat):((l.take i).filter P).length<=l.length:=by have:=Pd P (l.take i);rw[IN] at this;omega
theorem H5 {P:Int->Bool} {l:U} {i:Nat} (h:i<l.length):(l.take (i+1)).filter P=if P (l.getD i 0)=true then(l.take i).filter P++[l.getD i 0] else(l.take i).filter P:=by have e:l.take (i+1)=l.take i++[l.getD i 0]:=(by rw[zaY,gI h];rfl);rw[e,zaI];clear e;generalize l.getD i 0=x;cases hp:P x with|true=>rw[aj rfl];simp[zbK,hp]|false=>rw[ak (by simp)];simp[zbK,hp]
theorem Jg {X Y:Type} {f:X->Option (X⊕Y)} (P:Nat->Prop) [DecidablePred P] (c:Nat) (mk:Nat->X) (a fF:Y) (b:∀i,i<c->f (mk i)=some (if P i then .inl (mk (i+1)) else .inr a))
  (m:f (mk c)=some (.inr fF)) {g:X} (k:g=mk 0) {N:Nat} (hN:c<N):cj N f g=some (if∀i,i<c->P i then fF else a):=by
 obtain⟨n,hn,h,j⟩:=Ed P c;rw[eR mk (r:=if∀i,i<c->P i then fF else a) n (fun i l=>by rw[b i (by omega),aj (h i l)]) ?_ k (by omega)]
 by_cases e:n=c
 ·subst e;rw[aj h,m]
 ·have d:=j.resolve_left e;rw[ak fun q=>d (q n (by omega)),b n (by omega),ak d]
theorem xB {l:U} {v:Int} (h:v∈l):jU l v=((bh l v:Nat):Int):=aj (ff h)
theorem yZ {l:U} {v:Int} (h:v∉l):jU l v= -1:=ak fun q=>h (tB.1 q)
def N2 (NN:Nat):((U×(U×U))×U)->(Option U):=
 (fun(((l0,l1,l2),l3):((U×(U×U))×U))=>
 bK ((aO 0 0 (ab (([]:U)))).ae (fun _=>
 cj NN (fun(((l4,l5,i6,i7),l8):((U×(U×(Int×Int)))×U))=>
 au (bO i7 i6)
 ((bF l5 i7).ae (fun i9=>
 (mW (l4,i9)).ae (fun fO=>
 au (bO fO (0:Int))
 (ah l8 (
 (bc ((i9::([]:U))) 0 1).ae (fun cZ=>
 (iN (av (ab l8) (ab cZ)) 8).ae (fun _=>
 (aO 0 (av (ab l8) (ab cZ)) (ab (dn l8 cZ))).ae (fun _=>
 some (AI ((l4,l5,i6,bo .i64 i7 1),dn l8 cZ)))))))
 (ah l8 (
 some (AI ((l4,l5,i6,bo .i64 i7 1),l8)))))))
 ((ah l8 (
 some (AI l8))).ae (fun cB=>
 some (BY cB))))
 ((l3,l0,aD (ab l0),(0:Int)),([]:U))))
 (fun cM=>
 (ed cM (ab cM)).ae (fun cO=>
 some cO)))
def Ew:((U×(U×U))×U)->(Option U):=N2 aN
theorem aqm (x:((U×(U×U))×U)) (z:U) (h:Ew x=some z):N2 aN x=some z:=h
theorem ai3 (L D A a:U) (h:L.length<=1000) (hk:a.length<=1000):Ew ((L,D,A),a)=some (L.filter fun x=> !decide (x∈a)):=by simp only[Ew,N2,ah];rw[show aO 0 0 (ab ([]:U))=some () from rfl];(try simp only[aB]);rw[eR (fun i=>((a,L,aD (ab L),(i:Int)),(L.take i).filter fun x=> !decide (x∈a))) L.length ?a1 ?a2 ?a3 dE];(case a1=>intro i c;dsimp only;have hlen:=Lg (P:=fun x=> !decide (x∈a)) L i;rw[aX (dg (by show(i:Int)<(L.length:Int);omega)),cE,gI c];(try simp only[aB]);rw[show mW (a,L.getD i 0)=some (jU a (L.getD i 0)) from aj (by dsimp only;omega),H5 c,je];(try simp only[aB]);by_cases b:L.getD i 0∈a;rw[xB b,aW dQ,ak (by rw[decide_eq_true b];decide)];(try simp only[be,aB]);rw[yZ b,aX dg,aj (by rw[decide_eq_false b];rfl)];(try simp only[be,aB]);rw[Ek];(try simp only[aB]);rw[kv (by simp only[av,ab,zap,zat,eD];omega)];(try simp only[aB]);rw[oP];rfl);(case a2=>dsimp only;rw[aW (dQ (by show(L.length:Int)<=(L.length:Int);omega)),OF];(try simp only[be,aB]);try rfl);(case a3=>rfl);simp only[bK,If,iJ,aB]
def NY (NN:Nat):((U×(U×U))×(U×(U×U)))->(Option (U×(U×Bool))):=
 (fun(((l0,l1,l2),l3,l4,l5):((U×(U×U))×(U×(U×U))))=>
 (mw l0).ae (fun l6=>
 (mw l1).ae (fun l7=>
 bK (ah l6 (
 ah l7 (
 cj NN (fun(((l8,i9,fO),(cZ,cB,cM),cO,dk):((U×(Int×Int))×((U×(U×U))×(U×U))))=>
 au (bO fO i9)
 ((bF l8 fO).ae (fun fH=>
 (bc cO 0 (ab cO)).ae (fun dA=>
 (mW (dA,fH)).ae (fun g9=>
 au (fR (0:Int) g9)
 ((cN g9 (ab dk)).ae (fun Mk=>
 (bQ dk (av 0 Mk)).ae (fun fw=>
 (bF cB fO).ae (fun fP=>
 au (fy fw fP)
 (some (BY (BY (([]:U),([]:U),false))))
 (au (bO g9 (0:Int))
 (ah cO (
 (bc ((fH::([]:U))) 0 1).ae (fun dP=>
 (iN (av (ab cO) (ab dP)) 8).ae (fun _=>
 (bF cB fO).ae (fun gT=>
 ah dk (
 (bc ((gT::([]:U))) 0 1).ae (fun dq=>
 (iN (av (ab dk) (ab dq)) 8).ae (fun _=>
 (aO 0 (av (ab cO) (ab dP)) (ab (dn cO dP))).ae (fun _=>
 (aO 0 (av (ab dk) (ab dq)) (ab (dn dk dq))).ae (fun _=>
 some (AI ((l8,i9,bo .i64 fO 1),(cZ,cB,cM),dn cO dP,dn dk dq))))))))))))
 (ah cO (
 ah dk (
 some (AI ((l8,i9,bo .i64 fO 1),(cZ,cB,cM),cO,dk))))))))))
 (au (bO g9 (0:Int))
 (ah cO (
 (bc ((fH::([]:U))) 0 1).ae (fun fi=>
 (iN (av (ab cO) (ab fi)) 8).ae (fun _=>
 (bF cB fO).ae (fun nD=>
 ah dk (
 (bc ((nD::([]:U))) 0 1).ae (fun gB=>
 (iN (av (ab dk) (ab gB)) 8).ae (fun _=>
 (aO 0 (av (ab cO) (ab fi)) (ab (dn cO fi))).ae (fun _=>
 (aO 0 (av (ab dk) (ab gB)) (ab (dn dk gB))).ae (fun _=>
 some (AI ((l8,i9,bo .i64 fO 1),(cZ,cB,cM),dn cO fi,dn dk gB))))))))))))
 (ah cO (
 ah dk (
 some (AI ((l8,i9,bo .i64 fO 1),(cZ,cB,cM),cO,dk))))))))))
 ((ah cO (
 ah dk (
 some (AI (cO,dk))))).ae (fun ii=>
 some (BY ii))))
 ((l3,aD (ab l3),(0:Int)),(l3,l4,l5),l6,l7))))
 (fun(gK,lZ)=>
 (ed gK (ab gK)).ae (fun lC=>
 (ed lZ (ab lZ)).ae (fun hH=>
 some (lC,hH,true)))))))
def yF:((U×(U×U))×(U×(U×U)))->(Option (U×(U×Bool))):=NY aN
theorem aqi (x:((U×(U×U))×(U×(U×U)))) (z:(U×(U×Bool))) (h:yF x=some z):NY aN x=some z:=h
theorem asG {a b:U} {i:Nat} (h:i<b.length):jL a (b.take (i+1))=if b.getD i 0∈a then jL a (b.take i) else jL a (b.take i)++[b.getD i 0]:=by unfold jL;rw[H5 h];by_cases c:b.getD i 0∈a;rw[aj c,ak (by rw[decide_eq_true c];decide)];rw[ak c,aj (by rw[decide_eq_false c];rfl),zaa]
theorem ay5 {a b:U} {v:Int} (h:v∈a):bh (a++b) v=bh a v:=by unfold bh;rw[List.findIdx_append];exact aj (ff h)
theorem af6 {La Da Lb Db:U} (hn:La.Nodup) (hl:La.length=Da.length):La.map (jd La Da Lb Db)=Da:=by refine v7 (by rw[wt,hl]) fun i a=>?_;rw[wt] at a;rw[jH a];unfold jd;rw[j4 hn a,aj a]
theorem aAu {La Da A Lb Db B:U} (na:La.Nodup) (nb:Lb.Nodup) (h:La.length=Da.length) (hb:Lb.length=Db.length) (E2:La.length<=12) (aqI:Lb.length<=12) (f:∀v,v∈La->v∈Lb->Da.getD (bh La v) 0=Db.getD (bh Lb v) 0): yF ((La,Da,A),Lb,Db,B)=some (jL La Lb,cq La Da Lb Db,true):=by simp only[yF,NY,ah];rw[show mw La=some La from aj (by omega),show mw Da=some Da from aj (by omega)];(try simp only[aB,be]);rw[eR (fun i=>((Lb,aD (ab Lb),(i:Int)),(Lb,Db,B),jL La (Lb.take i),(jL La (Lb.take i)).map (jd La Da Lb Db))) (r:=AI (jL La Lb,cq La Da Lb Db)) Lb.length ?a1 ?a2 ?a3 dE];(case a3=>rw[zbv,show jL La []=La by simp[jL],af6 na h];rfl);(case a2=>dsimp only;rw[aW (dQ (by show(Lb.length:Int)<=(Lb.length:Int);omega)),OF];(try simp only[be,aB]);try rfl);(case a1=>intro i b;dsimp only;have d:=P4 La (Lb.take i);rw[IN] at d;rw[aX (dg (by show(i:Int)<(Lb.length:Int);omega)),cE,gI b];(try simp only[aB,eH]);rw[show mW (jL La (Lb.take i),Lb.getD i 0)=some (jU (jL La (Lb.take i)) (Lb.getD i 0)) from aj (by dsimp only;omega),asG b,je];(try simp only[aB]);by_cases a:Lb.getD i 0∈La;have hm:Lb.getD i 0∈jL La (Lb.take i):=xZ _ a;have c:bh (jL La (Lb.take i)) (Lb.getD i 0)=bh La (Lb.getD i 0):=ay5 a;have k:=ff a;have hJ:=ff hm;rw[xB hm,c,aj a];rw[aX lc,kI (by show _<((jL La (Lb.take i)).map _).length;rw[wt];omega)];(try simp only[aB]);rw[f9,show bQ ((jL La (Lb.take i)).map (jd La Da Lb Db)) (bh La (Lb.getD i 0))=some (Db.getD i 0) by show((jL La (Lb.take i)).map (jd La Da Lb Db))[bh La (Lb.getD i 0)]? =_;rw[gI (by rw[wt];omega),jH (by omega),<-c,jA hm];unfold jd;rw[aj k,f _ a (eF b),j4 nb b]];(try simp only[aB]);rw[cE,gI (show i<Db.length by omega)];(try simp only[aB]);rw[aW (me rfl),aW dQ];(try simp only[aB,be]);have hm:Lb.getD i 0∉jL La (Lb.take i):=fun q=>(by rcases x4 q with q|q;exact a q;obtain⟨j,g,e⟩:=zah.1 q;rw[IN] at g;rw[List.getElem_take] at e;have l:Lb.getD j 0=Lb.getD i 0:=(by rw[co,By (by omega)];exact e);have:=getD_inj nb (show j<Lb.length by omega) b l;omega);rw[yZ hm,ak a,aW (by rfl),aX dg];(try simp only[aB,be]);rw[Ek];(try simp only[aB]);rw[kv (by simp only[av,ab,zap,zat,eD];omega),cE,gI (show i<Db.length by omega)];(try simp only[aB,be]);rw[Ek];(try simp only[aB]);rw[kv (by simp only[av,ab,wt,zap,zat,eD];omega)];(try simp only[aB]);rw[oP];(try simp only[aB]);rw[oP];(try simp only[aB]);rw[zai,show[Lb.getD i 0].map (jd La Da Lb Db)=[Db.getD i 0] by show[jd La Da Lb Db (Lb.getD i 0)]=_;unfold jd;rw[ak fun q=>a (tB.1 q),j4 nb b]];rfl);simp only[bK,If,iJ,aB]
def NZ (NN:Nat):(U×(U×U))->(Option (U×(U×U))):=
 (fun((l0,l1,l2):(U×(U×U)))=>
 bK ((aO 0 0 (ab (([]:U)))).ae (fun _=>
 (aO 0 0 (ab (([]:U)))).ae (fun _=>
 (aO 0 0 (ab (([]:U)))).ae (fun _=>
 (aO 0 0 (ab (([]:U)))).ae (fun _=>
 (aO 0 0 (ab (([]:U)))).ae (fun _=>
 (aO 0 0 (ab (([]:U)))).ae (fun _=>
 cj NN (fun(((l3,l4,l5,i6,i7),l8,l9,bS,cZ,cB,cM):((U×(U×(U×(Int×Int))))×(U×(U×(U×(U×(U×U)))))))=>
 au (bO i7 i6)
 ((bF l5 i7).ae (fun gf=>
 (mW (l4,gf)).ae (fun iG=>
 au (fR (0:Int) iG)
 (ah cZ (
 (bc ((gf::([]:U))) 0 1).ae (fun dm=>
 (iN (av (ab cZ) (ab dm)) 8).ae (fun _=>
 (bF l3 i7).ae (fun gA=>
 ah cB (
 (bc ((gA::([]:U))) 0 1).ae (fun d7=>
 (iN (av (ab cB) (ab d7)) 8).ae (fun _=>
 ah l8 (
 ah l9 (
 ah bS (
 (aO 0 (av (ab cZ) (ab dm)) (ab (dn cZ dm))).ae (fun _=>
 (aO 0 (av (ab cB) (ab d7)) (ab (dn cB d7))).ae (fun _=>
 ah cM (
 some (AI ((l3,l4,l5,i6,bo .i64 i7 1),l8,l9,bS,dn cZ dm,dn cB d7,cM))))))))))))))))
 (ah l8 (
 ah l9 (
 ah bS (
 ah cZ (
 ah cB (
 ah cM (
 some (AI ((l3,l4,l5,i6,bo .i64 i7 1),l8,l9,bS,cZ,cB,cM))))))))))))
 ((ah l8 (
 ah l9 (
 ah bS (
 ah cZ (
 ah cB (
 ah cM (
 some (AI (l8,l9,bS,cZ,cB,cM))))))))).ae (fun eY=>
 some (BY eY))))
 ((l1,l2,l0,aD (ab l0),(0:Int)),([]:U),([]:U),([]:U),([]:U),([]:U),([]:U)))))))))
 (fun(gi,ir,dP,iB,dq,fi)=>
 (ed iB (ab iB)).ae (fun gj=>
 (ed dq (ab dq)).ae (fun gB=>
 (ed fi (ab fi)).ae (fun ii=>
 some (gj,gB,ii))))))
def Aj:(U×(U×U))->(Option (U×(U×U))):=NZ aN
theorem aqj (x:(U×(U×U))) (z:(U×(U×U))) (h:Aj x=some z):NZ aN x=some z:=h
theorem Y4 {J keep:U} (g:Int->Int) (h:J.length<=1000) (hk:keep.length<=1000):Aj (J,J.map g,keep)=some (J.filter (fun x=>decide (x∈keep)),(J.filter fun x=>decide (x∈keep)).map g,[]):=by simp only[Aj,NZ,ah];(try simp only[show aO 0 0 (ab ([]:U))=some () from rfl,aB]);rw[eR (fun i=>((J.map g,keep,J,aD (ab J),(i:Int)),([]:U),([]:U),([]:U),(J.take i).filter (fun x=>decide (x∈keep)),((J.take i).filter fun x=>decide (x∈keep)).map g,([]:U))) (r:=AI ([],[],[],J.filter (fun x=>decide (x∈keep)),(J.filter fun x=>decide (x∈keep)).map g,[])) J.length ?a1 ?a2 ?a3 dE];(case a3=>rfl);(case a2=>dsimp only;rw[aW (dQ (by show(J.length:Int)<=(J.length:Int);omega)),OF];(try simp only[be,aB]);try rfl);(case a1=>intro i b;dsimp only;have hlen:=Lg (P:=fun x=>decide (x∈keep)) J i;rw[aX (dg (by show(i:Int)<(J.length:Int);omega)),cE,gI b];(try simp only[aB]);rw[show mW (keep,J.getD i 0)=some (jU keep (J.getD i 0)) from aj (by dsimp only;omega),H5 b,je];(try simp only[aB]);by_cases a:J.getD i 0∈keep;rw[xB a,aX lc,aj (decide_eq_true a)];(try simp only[be,aB]);rw[Ek];(try simp only[aB]);rw[kv (by simp only[av,ab,zap,zat,eD];omega),cE,gI (show i<(J.map g).length by rw[wt];exact b)];(try simp only[aB,be]);rw[Ek];(try simp only[aB]);rw[kv (by simp only[av,ab,wt,zap,zat,eD];omega)];(try simp only[aB,be]);rw[oP];(try simp only[aB]);rw[oP];(try simp only[aB,be]);rw[zai,jH b];rfl;rw[yZ a,aW (by rfl),ak (by rw[decide_eq_false a];decide)];try simp only[be,aB]);simp only[bK,If,iJ,aB]
def N1 (NN:Nat):((U×(U×U))×U)->(Option U):=
 (fun(((l0,l1,l2),l3):((U×(U×U))×U))=>
 (kB (aD (ab l3)) (aD (ab l3)) 8).ae (fun k4=>
 bK ((aO 0 k4 (ab (cR k4 (0:Int)))).ae (fun _=>
 cj NN (fun(((l5,i6,i7),(l8,l9,bS),cZ):((U×(Int×Int))×((U×(U×U))×U)))=>
 au (fR (0:Int) i7)
 ((bF l8 i7).ae (fun eC=>
 (mW (l5,eC)).ae (fun fG=>
 bK (au (fR (0:Int) fG)
 ((cN fG (ab cZ)).ae (fun W9=>
 (bQ cZ (av 0 W9)).ae (fun iG=>
 (aO 0 (ab cZ) (ab (bB cZ (av 0 W9) i6))).ae (fun _=>
 some (AI ((i6,i7,l5),(l8,l9,bS),bB cZ (av 0 W9) i6))))))
 (ah cZ (
 some (AI ((i6,i7,l5),(l8,l9,bS),cZ)))))
 (fun((fH,gA,d7),(eY,gi,ir),dP)=>
 (bF gi gA).ae (fun gT=>
 ah dP (
 some (AI ((d7,f6 .i64 fH gT,iw .i64 gA 1),(eY,gi,ir),dP))))))))
 ((ah cZ (
 some (AI cZ))).ae (fun dq=>
 some (BY dq))))
 ((l3,(1:Int),iw .i64 (aD (ab l0)) (1:Int)),(l0,l1,l2),cR k4 (0:Int))))
 (fun fi=>
 (ed fi (ab fi)).ae (fun gj=>
 some gj))))
def Co:((U×(U×U))×U)->(Option U):=N1 aN
theorem aql (x:((U×(U×U))×U)) (z:U) (h:Co x=some z):N1 aN x=some z:=h
def yn (L D J:U) (n q:Nat):Int:=if bh L (J.getD q 0)<L.length/\n<=bh L (J.getD q 0) then((dV D (bh L (J.getD q 0)+1):Nat):Int) else 0
theorem Zq {L D A J:U} (hx:ly L D=true) (hp:aC D<=4096) (hn:J.Nodup) (hJ:J.length<=1000):Co ((L,D,A),J)=some (fI L D J):=by
 have nL:=tQ hx;have hl:=(gH hx).2.1;have E2:=(gH hx).1;have hd:=qU hx;have o:jG D:=⟨by omega,fun x h=>by have:=hd x h;omega⟩;simp only[Co,N1,ah];rw[qH (by simp only[ab,eD];omega)]
 try simp only[aB]
 rw[show aO 0 (ab J) (ab (cR (ab J) (0:Int)))=some () by rw[uv];exact be _]
 try simp only[aB]
 rw[eR (fun t=>((J,((dV D (L.length - t):Nat):Int),(L.length:Int) - 1 - (t:Int)),(L,D,A),dd J.length (yn L D J (L.length - t)))) (r:=AI (fI L D J)) L.length ?a1 ?a2 ?a3 dE]
 case a3=>
  rw[zbm,show dV D L.length=1 by rw[hl,uF],mT (by rw[nl];omega) (by rw[nl];omega),JD,nl];rw[show dd (ab J) (fun _=>(0:Int))=dd J.length (yn L D J L.length) from ko fun q _=>by unfold yn;rw[ak (by omega)]]
  simp
 case a2=>
  dsimp only
  rw[aW zM,zaM]
  try simp only[be,aB]
  congr 3;exact ko fun q _=>by
   unfold yn;exact xY ⟨fun h=>h.1,fun h=>⟨h,za1 _⟩⟩ _ _
 case a1=>
  intro t ht;dsimp only
  have e:(L.length:Int) - 1 - (t:Int)=((L.length - 1 - t:Nat):Int):=by omega
  have k:L.length - t=L.length - 1 - t+1:=by omega
  have c:L.length - 1 - t<L.length:=by omega
  have j:=B2 (D:=D) (i:=L.length - 1 - t) (by omega);have g:=R6 o (i:=L.length - 1 - t) (by omega);have p:=hd _ (eF (show L.length - 1 - t<D.length by omega));rw[aX lc,e,cE,gI c]
  try simp only[aB]
  rw[show mW (J,L.getD (L.length - 1 - t) 0)=some (jU J (L.getD (L.length - 1 - t) 0)) from aj (by dsimp only;omega)]
  try simp only[aB]
  rw[k,show L.length - (t+1)=L.length - 1 - t by omega];obtain⟨i,d⟩:∃i,L.length - 1 - t=i:=⟨_,rfl⟩;rw[d] at e k c j g p⊢;have l:f6 .i64 ((dV D (i+1):Nat):Int) (D.getD i 0)=((dV D i:Nat):Int):=by
   have s:D.getD i 0=(((D.getD i 0).toNat:Nat):Int):=by omega
   have:dV D (i+1)*(D.getD i 0).toNat=dV D i:=by rw[j,zaL]
   rw[s,BL,this]
  by_cases a:L.getD i 0∈J
  ·have m:=ff a;rw[xB a,aX lc,CD _ m]
   try simp only[aB]
   rw[f9,EZ _ m]
   try simp only[aB]
   rw[F8,xF]
   try simp only[aB,bK,If]
   rw[cE,gI (show i<D.length by omega)]
   try simp only[aB,be]
   rw[l,mT];rw[show dd J.length (fun q=>if q=bh J (L.getD i 0) then((dV D (i+1):Nat):Int) else yn L D J (i+1) q)=dd J.length (yn L D J i) from ko fun q f=>by
    by_cases b:q=bh J (L.getD i 0)
    ·rw[aj b];have ev:J.getD q 0=L.getD i 0:=by rw[b,jA a]
     unfold yn;rw[ev,j4 nL c,aj ⟨c,zac _⟩]
    ·rw[ak b];unfold yn;refine xY ⟨fun h=>⟨h.1,by omega⟩,fun h=>⟨h.1,?_⟩⟩ _ _;have n:bh L (J.getD q 0)≠i:=fun e=>b (by
      have:J.getD q 0=L.getD i 0:=by rw[<-e,jA (tB.1 h.1)]
      rw[<-this,j4 hn f])
     have:=h.2;omega]
   rw[show(i:Int) - 1=(L.length:Int) - 1 - ((t+1:Nat):Int) by omega]
  ·rw[yZ a,aW (by rfl)]
   try simp only[aB,be,bK,If]
   rw[cE,gI (show i<D.length by omega)]
   try simp only[aB,be]
   rw[l,mT];rw[show dd J.length (yn L D J (i+1))=dd J.length (yn L D J i) from ko fun q f=>by
    unfold yn;refine xY ⟨fun h=>⟨h.1,by omega⟩,fun h=>⟨h.1,?_⟩⟩ _ _;have n:bh L (J.getD q 0)≠i:=fun e=>a (by
     have:J.getD q 0=L.getD i 0:=by rw[<-e,jA (tB.1 h.1)]
     rw[<-this];exact eF f)
    have:=h.2;omega]
   rw[show(i:Int) - 1=(L.length:Int) - 1 - ((t+1:Nat):Int) by omega]
 simp only[bK,If,iJ,aB]
theorem azK {n:Nat} (f:Nat->Int) (i:Nat) (x:Int) (hx:x=f i):bB (dd n (fun q=>if q<i then f q else 0)) i x=dd n (fun q=>if q<i+1 then f q else 0):=by rw[F8];refine ko fun q _=>?_;by_cases e:q=i;rw[aj e,aj (by omega),hx,e];rw[ak e];by_cases a:q<i;rw[aj a,aj (by omega)];rw[ak a,ak (by omega)]
def NT (NN:Nat):(U×U)->(Option U):=
 (fun((l0,l1):(U×U))=>
 bK ((aO 0 0 (ab (([]:U)))).ae (fun _=>
 cj NN (fun(((l2,l3,i4,i5),l6):((U×(U×(Int×Int)))×U))=>
 au (bO i5 i4)
 ((bF l3 i5).ae (fun i7=>
 (uI (l2,i7)).ae (fun b8=>
 au (b8)
 (ah l6 (
 (bc ((i7::([]:U))) 0 1).ae (fun l9=>
 (iN (av (ab l6) (ab l9)) 8).ae (fun _=>
 (aO 0 (av (ab l6) (ab l9)) (ab (dn l6 l9))).ae (fun _=>
 some (AI ((l2,l3,i4,bo .i64 i5 1),dn l6 l9)))))))
 (ah l6 (
 some (AI ((l2,l3,i4,bo .i64 i5 1),l6)))))))
 ((ah l6 (
 some (AI l6))).ae (fun bS=>
 some (BY bS))))
 ((l1,l0,aD (ab l0),(0:Int)),([]:U))))
 (fun cZ=>
 (ed cZ (ab cZ)).ae (fun cB=>
 some cB)))
def GN:(U×U)->(Option U):=NT aN
theorem apk (x:(U×U)) (z:U) (h:GN x=some z):NT aN x=some z:=h
theorem auz (l keep:U) (h:l.length<=1000) (hk:keep.length<=1000):GN (l,keep)=some (l.filter fun x=>decide (x∈keep)):=by simp only[GN,NT,ah];rw[show aO 0 0 (ab ([]:U))=some () from rfl];(try simp only[aB]);rw[eR (fun i=>((keep,l,aD (ab l),(i:Int)),(l.take i).filter fun x=>decide (x∈keep))) l.length ?a1 ?a2 ?a3 dE];(case a1=>intro i b;dsimp only;have hlen:=Lg (P:=fun x=>decide (x∈keep)) l i;rw[aX (dg (by show(i:Int)<(l.length:Int);omega)),cE,gI b];(try simp only[aB]);rw[show uI (keep,l.getD i 0)=some (decide (l.getD i 0∈keep)) from aj (by dsimp only;omega),H5 b,je];(try simp only[aB]);by_cases a:l.getD i 0∈keep;rw[decide_eq_true a,lN,aj rfl];(try simp only[be,aB]);rw[Ek];(try simp only[aB]);rw[kv (by simp only[av,ab,zap,zat,eD];omega)];(try simp only[aB]);rw[oP];rfl;rw[decide_eq_false a,iU,ak (by simp)];try simp only[be,aB]);(case a2=>dsimp only;rw[aW (dQ (by show(l.length:Int)<=(l.length:Int);omega)),OF];(try simp only[be,aB]);try rfl);(case a3=>rfl);simp only[bK,If,iJ,aB]
def NS (NN:Nat):(U×U)->(Option U):=
 (fun((l0,l1):(U×U))=>
 (vI l0).ae (fun l2=>
 bK (ah l2 (
 cj NN (fun(((l3,l4,i5,i6),l7):((U×(U×(Int×Int)))×U))=>
 au (bO i6 i5)
 ((bF l4 i6).ae (fun i8=>
 (uI (l3,i8)).ae (fun b9=>
 au (df b9)
 (ah l7 (
 (bc ((i8::([]:U))) 0 1).ae (fun bS=>
 (iN (av (ab l7) (ab bS)) 8).ae (fun _=>
 (aO 0 (av (ab l7) (ab bS)) (ab (dn l7 bS))).ae (fun _=>
 some (AI ((l3,l4,i5,bo .i64 i6 1),dn l7 bS)))))))
 (ah l7 (
 some (AI ((l3,l4,i5,bo .i64 i6 1),l7)))))))
 ((ah l7 (
 some (AI l7))).ae (fun cZ=>
 some (BY cZ))))
 ((l0,l1,aD (ab l1),(0:Int)),l2)))
 (fun cB=>
 (ed cB (ab cB)).ae (fun cM=>
 some cM))))
def Er:(U×U)->(Option U):=NS aN
theorem apj (x:(U×U)) (z:U) (h:Er x=some z):NS aN x=some z:=h
theorem ae9 (a b:U) (h:a.length<=1000) (hb:b.length<=1000):Er (a,b)=some (jL a b):=by simp only[Er,NS,ah];rw[show vI a=some a from aj (by omega)];(try simp only[aB,be]);rw[eR (fun i=>((a,b,aD (ab b),(i:Int)),a++(b.take i).filter fun x=> !decide (x∈a))) b.length ?a1 ?a2 ?a3 dE];(case a1=>intro i d;dsimp only;have hlen:=Lg (P:=fun x=> !decide (x∈a)) b i;rw[aX (dg (by show(i:Int)<(b.length:Int);omega)),cE,gI d];(try simp only[aB]);rw[show uI (a,b.getD i 0)=some (decide (b.getD i 0∈a)) from aj (by dsimp only;omega),H5 d,je];(try simp only[aB]);by_cases c:b.getD i 0∈a;rw[decide_eq_true c,show df true=false from rfl,iU,ak (by simp)];(try simp only[be,aB]);rw[decide_eq_false c,show df false=true from rfl,lN,aj (show(!false)=true from rfl)];(try simp only[be,aB]);rw[Ek];(try simp only[aB]);rw[kv (by simp only[av,ab,zap,zat,AN,eD];omega)];(try simp only[aB]);rw[oP];simp only[aB,dn,zaa]);(case a2=>dsimp only;rw[aW (dQ (by show(b.length:Int)<=(b.length:Int);omega)),OF];(try simp only[be,aB]);try rfl);(case a3=>rw[zbv,List.filter_nil,zaH];rfl);simp only[bK,If,iJ,aB];try rfl
def NR (NN:Nat):((U×(U×U))×(U×(U×U)))->(Option (U×(U×Bool))):=
 (fun(((l0,l1,l2),l3,l4,l5):((U×(U×U))×(U×(U×U))))=>
 (Er (l0,l3)).ae (fun l6=>
 (kB (aD (ab l6)) (aD (ab l6)) 8).ae (fun k7=>
 bK (ah l6 (
 (aO 0 k7 (ab (cR k7 (0:Int)))).ae (fun _=>
 ah l6 (
 cj NN (fun(((i8,i9),(bS,cZ,cB),(cM,cO,dk),dm,dA):((Int×Int)×((U×(U×U))×((U×(U×U))×(U×U)))))=>
 au (bO i9 i8)
 ((cN i9 (ab dm)).ae (fun FF=>
 (bQ dm (av 0 FF)).ae (fun kV=>
 (rK ((bS,cZ,cB),kV)).ae (fun fw=>
 (rK ((cM,cO,dk),kV)).ae (fun fP=>
 au (fR (0:Int) fw)
 (au (fR (0:Int) fP)
 ((bF cZ fw).ae (fun kY=>
 (bF cO fP).ae (fun gT=>
 au (fy kY gT)
 (some (BY (BY (([]:U),([]:U),false))))
 (au (fR (0:Int) fw)
 ((bF cZ fw).ae (fun il=>
 (cN i9 (ab dA)).ae (fun x6=>
 (bQ dA (av 0 x6)).ae (fun nD=>
 ah dm (
 (aO 0 (ab dA) (ab (bB dA (av 0 x6) il))).ae (fun _=>
 ah dm (
 some (AI ((i8,bo .i64 i9 1),(bS,cZ,cB),(cM,cO,dk),dm,bB dA (av 0 x6) il)))))))))
 ((bF cO fP).ae (fun jX=>
 (cN i9 (ab dA)).ae (fun Mm=>
 (bQ dA (av 0 Mm)).ae (fun tf=>
 ah dm (
 (aO 0 (ab dA) (ab (bB dA (av 0 Mm) jX))).ae (fun _=>
 ah dm (
 some (AI ((i8,bo .i64 i9 1),(bS,cZ,cB),(cM,cO,dk),dm,bB dA (av 0 Mm) jX)))))))))))))
 (au (fR (0:Int) fw)
 ((bF cZ fw).ae (fun kl=>
 (cN i9 (ab dA)).ae (fun x7=>
 (bQ dA (av 0 x7)).ae (fun Dd=>
 ah dm (
 (aO 0 (ab dA) (ab (bB dA (av 0 x7) kl))).ae (fun _=>
 ah dm (
 some (AI ((i8,bo .i64 i9 1),(bS,cZ,cB),(cM,cO,dk),dm,bB dA (av 0 x7) kl)))))))))
 ((bF cO fP).ae (fun Br=>
 (cN i9 (ab dA)).ae (fun zC=>
 (bQ dA (av 0 zC)).ae (fun zq=>
 ah dm (
 (aO 0 (ab dA) (ab (bB dA (av 0 zC) Br))).ae (fun _=>
 ah dm (
 some (AI ((i8,bo .i64 i9 1),(bS,cZ,cB),(cM,cO,dk),dm,bB dA (av 0 zC) Br)))))))))))
 (au (fR (0:Int) fw)
 ((bF cZ fw).ae (fun ub=>
 (cN i9 (ab dA)).ae (fun BB=>
 (bQ dA (av 0 BB)).ae (fun kZ=>
 ah dm (
 (aO 0 (ab dA) (ab (bB dA (av 0 BB) ub))).ae (fun _=>
 ah dm (
 some (AI ((i8,bo .i64 i9 1),(bS,cZ,cB),(cM,cO,dk),dm,bB dA (av 0 BB) ub)))))))))
 ((bF cO fP).ae (fun ud=>
 (cN i9 (ab dA)).ae (fun Xh=>
 (bQ dA (av 0 Xh)).ae (fun nE=>
 ah dm (
 (aO 0 (ab dA) (ab (bB dA (av 0 Xh) ud))).ae (fun _=>
 ah dm (
 some (AI ((i8,bo .i64 i9 1),(bS,cZ,cB),(cM,cO,dk),dm,bB dA (av 0 Xh) ud)))))))))))))))
 ((ah dm (
 ah dA (
 some (AI (dm,dA))))).ae (fun nf=>
 some (BY nf))))
 ((aD (ab l6),(0:Int)),(l0,l1,l2),(l3,l4,l5),l6,cR k7 (0:Int))))))
 (fun(kN,jh)=>
 (ed kN (ab kN)).ae (fun o8=>
 (ed jh (ab jh)).ae (fun mP=>
 some (o8,mP,true)))))))
def Cc:((U×(U×U))×(U×(U×U)))->(Option (U×(U×Bool))):=NR aN
theorem api (x:((U×(U×U))×(U×(U×U)))) (z:(U×(U×Bool))) (h:Cc x=some z):NR aN x=some z:=h
theorem asH {La Da A Lb Db B:U} (ha:La.length=Da.length) (hb:Lb.length=Db.length) (E2:La.length<=12) (aqI:Lb.length<=12) (r:∀v,v∈La->v∈Lb->Da.getD (bh La v) 0=Db.getD (bh Lb v) 0):
  Cc ((La,Da,A),Lb,Db,B)=some (jL La Lb,(jL La Lb).map (jd La Da Lb Db),true):=by
 simp only[Cc,NR,ah];rw[ae9 La Lb (by omega) (by omega)]
 try simp only[aB]
 have hl:(jL La Lb).length<=24:=by
  unfold jL;rw[AN];have:=Pd (fun x=> !decide (x∈La)) Lb;omega
 have o:∀q,q<(jL La Lb).length->(jL La Lb).getD q 0∈La\/(jL La Lb).getD q 0∈Lb:=fun q m=>x4 (eF m);generalize jL La Lb=S at hl o;rw[qH (by simp only[ab,eD];omega)]
 try simp only[aB,be]
 rw[show aO 0 (ab S) (ab (cR (ab S) (0:Int)))=some () from qj (by simp[ab,cR])]
 try simp only[aB]
 rw[eR (fun i=>((aD (ab S),(i:Int)),(La,Da,A),(Lb,Db,B),S,dd S.length (fun q=>if q<i then jd La Da Lb Db (S.getD q 0) else 0))) S.length ?a1 ?a2 ?a3 dE]
 case a1=>
  intro i a;dsimp only
  rw[aX (dg (by show(i:Int)<(S.length:Int);omega)),kI (by show i<S.length;omega)]
  try simp only[aB]
  rw[f9,show bQ S i=some (S.getD i 0) from gI a]
  try simp only[aB]
  generalize hv:S.getD i 0=v;rw[show rK ((La,Da,A),v)=some (jU La v) from aj (by dsimp only;omega),show rK ((Lb,Db,B),v)=some (jU Lb v) from aj (by dsimp only;omega)]
  try simp only[aB]
  have j:∀x,x=jd La Da Lb Db v->bB (dd S.length (fun q=>if q<i then jd La Da Lb Db (S.getD q 0) else 0)) (av 0 i) x=dd S.length (fun q=>if q<i+1 then jd La Da Lb Db (S.getD q 0) else 0):=fun x hx=>by
   rw[f9];exact azK (fun q=>jd La Da Lb Db (S.getD q 0)) i x (by rw[hx,hv])
  have n:∀x:Int,bQ (dd S.length (fun q=>if q<i then jd La Da Lb Db (S.getD q 0) else 0)) (av 0 i)=some (if i<i then jd La Da Lb Db (S.getD i 0) else 0):=fun _=>by rw[f9];exact EZ _ a
  have hm:=o i a;rw[hv] at hm;by_cases f:v∈La
  ·have p1:=tB.2 f;have k:jU La v=((bh La v:Nat):Int):=aj p1;have p:bF Da ((bh La v:Nat):Int)=some (Da.getD (bh La v) 0):=by rw[cE,gI]
   have g:jd La Da Lb Db v=Da.getD (bh La v) 0:=aj p1;have s:fR 0 ((bh La v:Nat):Int)=true:=lc;rw[k,s,lN];by_cases c:v∈Lb
   ·have b:=tB.2 c;have d:jU Lb v=((bh Lb v:Nat):Int):=aj b;have l:bF Db ((bh Lb v:Nat):Int)=some (Db.getD (bh Lb v) 0):=by rw[cE,gI]
    rw[d,show fR 0 ((bh Lb v:Nat):Int)=true from lc,lN,p]
    try simp only[aB]
    rw[l]
    try simp only[aB]
    rw[aW (me (r v f c)),lN,CD _ a]
    try simp only[aB]
    rw[n 0]
    try simp only[aB]
    rw[j _ g.symm,xF]
    try simp only[aB,be]
    rw[je]
   ·have b:¬bh Lb v<Lb.length:=fun h=>c (tB.1 h);have d:jU Lb v= -1:=ak b;rw[d,show fR 0 (-1:Int)=false from rfl,iU,lN,p]
    try simp only[aB]
    rw[CD _ a]
    try simp only[aB]
    rw[n 0]
    try simp only[aB]
    rw[j _ g.symm,xF]
    try simp only[aB,be]
    rw[je]
  ·have p1:¬bh La v<La.length:=fun h=>f (tB.1 h);have k:jU La v= -1:=ak p1;have c:v∈Lb:=hm.resolve_left f;have b:=tB.2 c;have d:jU Lb v=((bh Lb v:Nat):Int):=aj b;have l:bF Db ((bh Lb v:Nat):Int)=some (Db.getD (bh Lb v) 0):=by rw[cE,gI]
   have g:jd La Da Lb Db v=Db.getD (bh Lb v) 0:=ak p1;rw[k,d,show fR 0 (-1:Int)=false from rfl,iU,iU,l]
   try simp only[aB]
   rw[CD _ a]
   try simp only[aB]
   rw[n 0]
   try simp only[aB]
   rw[j _ g.symm,xF]
   try simp only[aB,be]
   rw[je]
 case a2=>
  dsimp only
  rw[aW (dQ (by show(S.length:Int)<=(S.length:Int);omega))]
  try simp only[be,aB]
  try rfl
 case a3=>
  rw[JD];rfl
 have e:dd S.length (fun q=>if q<S.length then jd La Da Lb Db (S.getD q 0) else 0)=S.map (jd La Da Lb Db):=by
  rw[<-azG];exact ko fun q m=>aj m
 rw[e];simp only[bK,If,iJ,aB]
theorem Yg {D:U} (h:∀x∈D,1<=x/\x<=8) (hl:D.length<=1000):pC (D,65536)=some (min (aC D:Int) 65537):=by have b:=tC (D:=D) fun x hx=>(h x hx).1;have e:Ax 65536 D=min (aC D:Int) 65537:=(by unfold Ax;rw[KO (by decide) _ 0 1 (fun x hx=>(h x hx).1) (by decide) (by decide),zbG,b];rfl);rw[<-e];exact aj ⟨by decide,by show D.length<=_;omega,zav.2 fun v a=>by have:=h v a;exact decide_eq_true (by omega)⟩
theorem aiv {D:U} (h:∀x∈D,1<=x/\x<=8) (hl:D.length<=1000) (a:aC D<=1073741824):vJ D=some (aC D:Int):=by rw[<-tC (D:=D) fun x hx=>(h x hx).1];exact aj ⟨.inr ⟨hl,a⟩,h⟩
theorem aiH {f:Int->Int} {p:Int->Bool}:∀{l:U},(∀v∈l,1<=f v)->aC ((l.filter p).map f)<=aC (l.map f)
 |[],_=>zac _
 |v::l,h=>by
  have a:=aiH (f:=f) (p:=p) (l:=l) fun v b=>h v (by simp[b]);have h1:=h v (by simp);cases hp:p v with
  |true=>rw[zaw hp];simp only[zaJ,aC];exact Nat.mul_le_mul_left _ a
  |false=>
   rw[zax (by rw[hp];decide)];simp only[zaJ,aC]
   calc aC ((l.filter p).map f)<=aC (l.map f):=a
    _=1*aC (l.map f):=(zam _).symm
    _<=(f v).toNat*aC (l.map f):=zab _ (by omega)
structure gX (La Da Lb Db:U):Prop where
 xa:ly La Da=true
 xb:ly Lb Db=true
 pa:aC Da<=4096
 pb:aC Db<=4096
 c:∀v,v∈La->v∈Lb->Da.getD (bh La v) 0=Db.getD (bh Lb v) 0
section
variable {La Da Lb Db:U}
theorem gX.dv (H:gX La Da Lb Db) {v:Int} (b:v∈jL La Lb):1<=jd La Da Lb Db v/\jd La Da Lb Db v<=8:=by have l1:=(gH H.xa).2.1;have l2:=(gH H.xb).2.1;unfold jd;by_cases a:v∈La;have:=ff a;rw[aj this];exact qU H.xa _ (eF (by omega));have:=ff ((x4 b).resolve_left a);rw[ak fun q=>a (tB.1 q)];exact qU H.xb _ (eF (by omega))
theorem gX.d8 (H:gX La Da Lb Db):∀x∈cq La Da Lb Db,1<=x/\x<=8:=fun x hx=>by obtain⟨v,a,rfl⟩:=IT.1 hx;exact H.dv a
theorem gX.dq (H:gX La Da Lb Db):(jL La Lb).length<=24:=by have:=P4 La Lb;have:=(gH H.xa).1;have:=(gH H.xb).1;omega
theorem vm (La Da Lb Db:U):(cq La Da Lb Db).length=(jL La Lb).length:=wt ..
theorem gX.p24 (H:gX La Da Lb Db):aC (cq La Da Lb Db)<=16777216:=by have l1:=(gH H.xa).2.1;have l2:=(gH H.xb).2.1;have e:cq La Da Lb Db=La.map (jd La Da Lb Db)++((Lb.filter fun x=> !decide (x∈La)).map (jd La Da Lb Db)):=(by unfold cq jL;rw[zai]);rw[e,azf,af6 (tQ H.xa) l1];have g:(Lb.filter fun x=> !decide (x∈La)).map (jd La Da Lb Db)=(Lb.filter fun x=> !decide (x∈La)).map fun v=>Db.getD (bh Lb v) 0:=zaB fun v a=>(by have:=(zaj.1 a).2;unfold jd;rw[ak fun q=>by simp[tB.1 q] at this]);have d:Lb.map (fun v=>Db.getD (bh Lb v) 0)=Db:=(by refine v7 (by rw[wt];exact l2) fun i b=>?_;rw[wt] at b;rw[jH b,j4 (tQ H.xb) b]);have c:=aiH (f:=fun v=>Db.getD (bh Lb v) 0) (p:=fun x=> !decide (x∈La)) (l:=Lb) fun v a=>(qU H.xb _ (eF (by have:=ff a;omega))).1;rw[d] at c;rw[g];have:=IS H.pa (zae c H.pb);omega
theorem gX.al2 (H:gX La Da Lb Db):fg La Da=(aC Da:Int):=by have a:=tC (D:=Da) fun x hx=>(qU H.xa x hx).1;rw[<-a];exact aj ⟨H.xa,by have:=H.pa;omega⟩
theorem gX.al3 (H:gX La Da Lb Db):fg Lb Db=(aC Db:Int):=by have a:=tC (D:=Db) fun x hx=>(qU H.xb x hx).1;rw[<-a];exact aj ⟨H.xb,by have:=H.pb;omega⟩
theorem gX.Rx (H:gX La Da Lb Db) (A B:U):yF ((La,Da,A),Lb,Db,B)=some (jL La Lb,cq La Da Lb Db,true):= aAu (tQ H.xa) (tQ H.xb) (gH H.xa).2.1 (gH H.xb).2.1 (gH H.xa).1 (gH H.xb).1 H.c
theorem gX.aeQ (H:gX La Da Lb Db) (A B:U):Cc ((La,Da,A),Lb,Db,B)=some (jL La Lb,cq La Da Lb Db,true):= asH (gH H.xa).2.1 (gH H.xb).2.1 (gH H.xa).1 (gH H.xb).1 H.c
end
def NW (NN:Nat):((U×(U×U))×(U×(U×U)))->(Option Int):=
 (fun(((l0,l1,l2),l3,l4,l5):((U×(U×U))×(U×(U×U))))=>
 (rL (l0,l1,l2)).ae (fun i6=>
 au (bO i6 (0:Int))
 (some ((-1:Int)))
 ((rL (l3,l4,l5)).ae (fun i7=>
 au (bO i7 (0:Int))
 (some ((-1:Int)))
 ((yF ((l0,l1,l2),l3,l4,l5)).ae (fun(l8,l9,qf)=>
 au (df qf)
 (some ((-1:Int)))
 ((bc l9 0 (ab l9)).ae (fun cZ=>
 (pC (cZ,(65536:Int))).ae (fun eC=>
 some eC)))))))))
def GX:((U×(U×U))×(U×(U×U)))->(Option Int):=NW aN
theorem apV (x:((U×(U×U))×(U×(U×U)))) (z:Int) (h:GX x=some z):NW aN x=some z:=h
def NP (NN:Nat):((U×(U×U))×(U×(U×U)))->(Option Int):=
 (fun(((l0,l1,l2),l3,l4,l5):((U×(U×U))×(U×(U×U))))=>
 (tL (l0,l1,l2)).ae (fun i6=>
 au (cu i6 ((-1:Int)))
 (some ((-1:Int)))
 ((tL (l3,l4,l5)).ae (fun i7=>
 au (cu i7 ((-1:Int)))
 (some ((-1:Int)))
 ((Cc ((l0,l1,l2),l3,l4,l5)).ae (fun(l8,l9,qf)=>
 au (df qf)
 (some ((-1:Int)))
 ((bc l9 0 (ab l9)).ae (fun cZ=>
 (vJ cZ).ae (fun eC=>
 some (iM eC (65537:Int)))))))))))
def GH:((U×(U×U))×(U×(U×U)))->(Option Int):=NP aN
theorem ao1 (x:((U×(U×U))×(U×(U×U)))) (z:Int) (h:GH x=some z):NP aN x=some z:=h
def NX (NN:Nat):((U×(U×U))×((U×(U×U))×U))->(Option Bool):=
 (fun(((l0,l1,l2),(l3,l4,l5),l6):((U×(U×U))×((U×(U×U))×U)))=>
 (yF ((l0,l1,l2),l3,l4,l5)).ae (fun(l7,l8,b9)=>
 au (b9)
 ((bc l8 0 (ab l8)).ae (fun bS=>
 (pC (bS,(65536:Int))).ae (fun dX=>
 au (fR dX (65536:Int))
 ((bc l7 0 (ab l7)).ae (fun cB=>
 (bc l8 0 (ab l8)).ae (fun cM=>
 (Aj (cB,cM,l6)).ae (fun(cO,dk,dm)=>
 (bc cO 0 (ab cO)).ae (fun dA=>
 (bc dk 0 (ab dk)).ae (fun d7=>
 (bc dm 0 (ab dm)).ae (fun eY=>
 (rL (dA,d7,eY)).ae (fun fw=>
 some (fR (0:Int) fw)))))))))
 (some false))))
 (some false)))
def G5:((U×(U×U))×((U×(U×U))×U))->(Option Bool):=NX aN
theorem aqh (x:((U×(U×U))×((U×(U×U))×U))) (z:Bool) (h:G5 x=some z):NX aN x=some z:=h
theorem gX.aAN {La Da Lb Db:U} (H:gX La Da Lb Db) (A B:U):GX ((La,Da,A),Lb,Db,B)=some (min (aC (cq La Da Lb Db):Int) 65537):=by have l1:=gH H.xa;have l2:=gH H.xb;have l3:=H.dq;simp only[GX,NW];rw[show rL (La,Da,A)=some (fg La Da) from aj ⟨by dsimp only;omega,by dsimp only;omega⟩,H.al2];(try simp only[aB]);rw[aW dQ,show rL (Lb,Db,B)=some (fg Lb Db) from aj ⟨by dsimp only;omega,by dsimp only;omega⟩,H.al3];(try simp only[aB]);rw[aW dQ,H.Rx];(try simp only[aB,eH]);rw[show df true=false from rfl,iU,Yg H.d8 (by rw[vm];omega)];rfl
theorem gX.asD {La Da Lb Db:U} (H:gX La Da Lb Db) (A B:U):GH ((La,Da,A),Lb,Db,B)=some (min (aC (cq La Da Lb Db):Int) 65537):=by have l1:=gH H.xa;have l2:=gH H.xb;have l3:=H.dq;simp only[GH,NP];rw[show tL (La,Da,A)=some (fg La Da) from aj ⟨by dsimp only;omega,by dsimp only;omega⟩,H.al2];(try simp only[aB]);rw[aW nw,show tL (Lb,Db,B)=some (fg Lb Db) from aj ⟨by dsimp only;omega,by dsimp only;omega⟩,H.al3];(try simp only[aB]);rw[aW nw,H.aeQ];(try simp only[aB,eH]);rw[show df true=false from rfl,iU,aiv H.d8 (by rw[vm];omega) (by have:=H.p24;omega)];(try simp only[aB]);rw[wH]
theorem gX.aAl {La Da Lb Db keep:U} (H:gX La Da Lb Db) (A B:U) (a:keep.length<=1000):G5 ((La,Da,A),(Lb,Db,B),keep)= some (decide (aC (cq La Da Lb Db)<=65536)&&decide (0<=fg ((jL La Lb).filter fun x=>decide (x∈keep)) (((jL La Lb).filter fun x=>decide (x∈keep)).map (jd La Da Lb Db)))):=by have l3:=H.dq;have l4:=Pd (fun x=>decide (x∈keep)) (jL La Lb);simp only[G5,NX];rw[H.Rx];(try simp only[aB,eH]);rw[lN,Yg H.d8 (by rw[vm];omega)];(try simp only[aB,eH]);by_cases h:aC (cq La Da Lb Db)<=65536;rw[aX lc,decide_eq_true h,zbx];unfold cq;rw[Y4 _ (by omega) a];(try simp only[aB,eH]);rw[show rL ((jL La Lb).filter (fun x=>decide (x∈keep)),((jL La Lb).filter fun x=>decide (x∈keep)).map (jd La Da Lb Db),([]:U))=some (fg _ _) from aj ⟨by dsimp only;omega,by dsimp only;rw[wt];omega⟩];rfl;rw[aW zM,decide_eq_false h,zbw]
def N3 (NN:Nat):((U×(U×U))×(U×((U×(U×U))×(U×Int))))->(Option Bool):=
 (fun(((l0,l1,l2),l3,(l4,l5,l6),l7,i8):((U×(U×U))×(U×((U×(U×U))×(U×Int)))))=>
 bK (cj NN (fun(((l9,bS,dX,cB,fG,gf),dk,dm,dA):((U×(U×(Int×(U×(Int×Int)))))×(U×(U×U))))=>
 au (bO gf fG)
 ((bF cB gf).ae (fun g9=>
 (mW (dk,g9)).ae (fun kV=>
 au (fR (0:Int) kV)
 ((bF l9 gf).ae (fun fw=>
 (bF bS kV).ae (fun fP=>
 (hZ (bo .i64 fw fP) dX).ae (fun kY=>
 au (fy kY (0:Int))
 (some (BY (BY false)))
 (some (AI ((l9,bS,dX,cB,fG,bo .i64 gf 1),dk,dm,dA)))))))
 (some (AI ((l9,bS,dX,cB,fG,bo .i64 gf 1),dk,dm,dA))))))
 (some (BY (AI ()))))
 ((l3,l7,i8,l0,aD (ab l0),(0:Int)),l4,l5,l6))
 (fun _=>
 some true))
def Ha:((U×(U×U))×(U×((U×(U×U))×(U×Int))))->(Option Bool):=N3 aN
theorem aqs (x:((U×(U×U))×(U×((U×(U×U))×(U×Int))))) (z:Bool) (h:Ha x=some z):N3 aN x=some z:=h
def NQ (NN:Nat):((U×(U×(U×U)))×((U×(U×(U×U)))×Int))->(Option Bool):=
 (fun(((l0,l1,l2,l3),(l4,l5,l6,l7),i8):((U×(U×(U×U)))×((U×(U×(U×U)))×Int)))=>
 bK (cj NN (fun(((i9,bS,dX,eC),(cM,cO,dk,dm),dA,d7,eY,gi):((Int×(U×(Int×Int)))×((U×(U×(U×U)))×(U×(U×(U×U))))))=>
 au (bO eC dX)
 ((bF bS eC).ae (fun fP=>
 (rK ((d7,eY,gi),fP)).ae (fun kY=>
 au (fR (0:Int) kY)
 ((bF cM eC).ae (fun gT=>
 (bF dA kY).ae (fun il=>
 (hZ (bo .i64 gT il) i9).ae (fun oe=>
 au (fy oe (0:Int))
 (some (BY (BY false)))
 (some (AI ((i9,bS,dX,bo .i64 eC 1),(cM,cO,dk,dm),dA,d7,eY,gi)))))))
 (some (AI ((i9,bS,dX,bo .i64 eC 1),(cM,cO,dk,dm),dA,d7,eY,gi))))))
 (some (BY (AI ()))))
 ((i8,l1,aD (ab l1),(0:Int)),(l0,l1,l2,l3),l4,l5,l6,l7))
 (fun _=>
 some true))
def GJ:((U×(U×(U×U)))×((U×(U×(U×U)))×Int))->(Option Bool):=NQ aN
theorem ao9 (x:((U×(U×(U×U)))×((U×(U×(U×U)))×Int))) (z:Bool) (h:GJ x=some z):NQ aN x=some z:=h
def wG (La Lb:U) (m:Int) (x y:U) (i:Nat):Prop:=La.getD i 0∈Lb->(x.getD i 0+y.getD (bh Lb (La.getD i 0)) 0)%m=0
instance (La Lb:U) (m:Int) (x y:U):DecidablePred (wG La Lb m x y):=fun i=>by unfold wG;infer_instance
theorem agb {La Lb:U} {m:Int} {x y:U} {i:Nat} (c:La.getD i 0∈Lb) {α:Type} {a b:α}:some (if wG La Lb m x y i then a else b)=au (fy ((x.getD i 0+y.getD (bh Lb (La.getD i 0)) 0)%m) 0) (some b) (some a):=by by_cases h:(x.getD i 0+y.getD (bh Lb (La.getD i 0)) 0)%m=0;rw[aj (show wG La Lb m x y i from fun _=>h),aW (me h)];rw[ak (show¬wG La Lb m x y i from fun q=>h (q c)),aX (qJ h)]
theorem agc {La Lb:U} {m:Int} {x y:U} (hn:La.Nodup):lF La Lb m x y↔∀i,i<La.length->wG La Lb m x y i:=by constructor;intro h i c a;have:=h _ (eF c) a;rw[j4 hn c] at this;exact this;intro h v b a;have:=h _ (ff b);unfold wG at this;rw[jA b] at this;exact this a
theorem agd {La Lb:U} {m:Int} {x y:U} (na:La.Nodup):bK (some (if∀i,i<La.length->wG La Lb m x y i then AI () else BY false)) (fun _=>some true)=some (decide (lF La Lb m x y)):=by by_cases h:lF La Lb m x y;rw[aj ((agc na).1 h),decide_eq_true h];rfl;rw[ak (fun q=>h ((agc na).2 q)),decide_eq_false h];rfl
section
variable {La Da:U} {Ra:List U} {Lb Db:U} {Rb:List U} {m:Int} {x y:U}
theorem aAx (A B:U) (e c:U) (HA:fJ Da m Ra) (HB:fJ Db m Rb) (na:La.Nodup) (la:La.length=Da.length) (lb:Lb.length=Db.length) (hx:fE Ra x) (hy:fE Rb y): Ha ((La,e,A),x,(Lb,c,B),y,m)=some (decide (lF La Lb m x y)):=by have l1:=HA.cB;have l2:=HB.cB;have l3:=HA.rl;have l4:=HB.rl;have x1:=hx.1;have y1:=hy.1;have hm:=HA.m1;have cU:=HA.FO;simp only[Ha,N3];rw[Jg (wG La Lb m x y) La.length (fun i=>((x,y,m,La,aD (ab La),(i:Int)),Lb,c,B)) (.inr false) (.inl ()) ?b ?a3 ?a0 dE];(case a0=>rfl);(case a3=>dsimp only;rw[aW (iQ La)]);(case b=>intro i d;dsimp only;rw[aX (dg (by rw[nl];omega)),cE,gI d];(try simp only[aB]);rw[show mW (Lb,La.getD i 0)=some (jU Lb (La.getD i 0)) from aj (by dsimp only;omega),je];(try simp only[aB]);by_cases a:La.getD i 0∈Lb;have hq:=ff a;have b:=HA.al i (by omega) _ (hx.2 i (by omega));have a2:=HB.al (bh Lb (La.getD i 0)) (by omega) _ (hy.2 _ (by omega));rw[xB a,aX lc,cE,gI];(try simp only[aB]);rw[cE,gI];(try simp only[aB]);rw[d6,qM];(try simp only[aB]);exact(agb a).symm;rw[yZ a,aj (show wG La Lb m x y i from fun q=>absurd q a)];rfl);exact agd na
theorem asn (A B:U) (d b:U) (HA:fJ Da m Ra) (HB:fJ Db m Rb) (na:La.Nodup) (la:La.length=Da.length) (lb:Lb.length=Db.length) (hx:fE Ra x) (hy:fE Rb y): GJ ((x,La,d,A),(y,Lb,b,B),m)=some (decide (lF La Lb m x y)):=by have l1:=HA.cB;have l2:=HB.cB;have l3:=HA.rl;have l4:=HB.rl;have x1:=hx.1;have y1:=hy.1;have hm:=HA.m1;have cU:=HA.FO;simp only[GJ,NQ];rw[Jg (wG La Lb m x y) La.length (fun i=>((m,La,aD (ab La),(i:Int)),(x,La,d,A),y,Lb,b,B)) (.inr false) (.inl ()) ?c ?a3 ?a0 dE];(case a0=>rfl);(case a3=>dsimp only;rw[aW (iQ La)]);(case c=>intro i e;dsimp only;rw[aX (dg (by rw[nl];omega)),cE,gI e];(try simp only[aB]);rw[show rK ((Lb,b,B),La.getD i 0)=some (jU Lb (La.getD i 0)) from aj (by dsimp only;omega),je];(try simp only[aB]);by_cases a:La.getD i 0∈Lb;have hq:=ff a;have c:=HA.al i (by omega) _ (hx.2 i (by omega));have a2:=HB.al (bh Lb (La.getD i 0)) (by omega) _ (hy.2 _ (by omega));rw[xB a,aX lc,cE,gI];(try simp only[aB]);rw[cE,gI];(try simp only[aB]);rw[d6,qM];(try simp only[aB]);exact(agb a).symm;rw[yZ a,aj (show wG La Lb m x y i from fun q=>absurd q a)];rfl);exact agd na
end
def NV (NN:Nat):((U×(U×U))×((Int×(List U))×((U×(U×U))×(Int×(List U)))))->(Option Bool):=
 (fun(((l0,l1,l2),(i3,l4),(l5,l6,l7),i8,l9):((U×(U×U))×((Int×(List U))×((U×(U×U))×(Int×(List U))))))=>
 bK (cj NN (fun(((bS,dX,eC),(cM,cO,dk),(fH,dA),(d7,eY,gi),fP,dP):((U×(Int×Int))×((U×(U×U))×((Int×(List U))×((U×(U×U))×(Int×(List U)))))))=>
 au (bO eC dX)
 (bK ((bF bS eC).ae (fun gT=>
 (rK ((d7,eY,gi),gT)).ae (fun il=>
 au (bO il (0:Int))
 (some (AI ((eC,bS,dX),(cM,cO,dk),(fH,dA),(d7,eY,gi),fP,dP)))
 ((bF cO eC).ae (fun oe=>
 (bF eY il).ae (fun nD=>
 au (fy oe nD)
 (some (BY (BY (BY false))))
 ((bF dA eC).ae (fun gB=>
 cj NN (fun(((lW,gK,kl,rq,hH,Br,qt),(gp,iL,jZ),(kZ,o6),(mO,o7,nf),pQ,jh):((Int×(U×(Int×(Int×(U×(Int×Int))))))×((U×(U×U))×((Int×(List U))×((U×(U×U))×(Int×(List U)))))))=>
 au (bO qt Br)
 ((bF hH qt).ae (fun kM=>
 (bF jh lW).ae (fun mP=>
 (bF mP qt).ae (fun Bt=>
 (hZ (bo .i64 kM Bt) kZ).ae (fun ue=>
 au (fy ue (0:Int))
 (some (BY (BY (BY (BY false)))))
 (some (AI ((lW,gK,kl,rq,hH,Br,bo .i64 qt 1),(gp,iL,jZ),(kZ,o6),(mO,o7,nf),pQ,jh))))))))
 (some (BY (AI ((rq,gK,kl),(gp,iL,jZ),(kZ,o6),(mO,o7,nf),pQ,jh)))))
 ((il,bS,dX,eC,gB,aD (ab gB),(0:Int)),(cM,cO,dk),(fH,dA),(d7,eY,gi),fP,dP)))))))))
 (fun((tg,j0,vh),(ng,qC,qD),(De,iu),(nK,nM,oC),xV,nN)=>
 some (AI ((j0,vh,bo .i64 tg 1),(ng,qC,qD),(De,iu),(nK,nM,oC),xV,nN))))
 (some (BY (AI ()))))
 ((l0,aD (ab l0),(0:Int)),(l0,l1,l2),(i3,l4),(l5,l6,l7),i8,l9))
 (fun _=>
 some true))
def GP:((U×(U×U))×((Int×(List U))×((U×(U×U))×(Int×(List U)))))->(Option Bool):=NV aN
theorem apo (x:((U×(U×U))×((Int×(List U))×((U×(U×U))×(Int×(List U)))))) (z:Bool) (h:GP x=some z):NV aN x=some z:=h
def qL (La Da:U) (Ra:List U) (Lb Db:U) (Rb:List U) (m:Int) (i:Nat):Prop:=
 La.getD i 0∈Lb->Da.getD i 0=Db.getD (bh Lb (La.getD i 0)) 0/\∀t,t<(Ra.getD i []).length->((Ra.getD i []).getD t 0+(Rb.getD (bh Lb (La.getD i 0)) []).getD t 0)%m=0
instance (La Da:U) (Ra:List U) (Lb Db:U) (Rb:List U) (m:Int):DecidablePred (qL La Da Ra Lb Db Rb m):=fun i=>by unfold qL;infer_instance
theorem aic {La Da:U} {Ra:List U} {Lb Db:U} {Rb:List U} {m:Int}:bK (some (if∀i,i<La.length->qL La Da Ra Lb Db Rb m i then AI () else BY false)) (fun _=>some true)=some (decide (∀i,i<La.length->qL La Da Ra Lb Db Rb m i)):=by by_cases h:∀i,i<La.length->qL La Da Ra Lb Db Rb m i;rw[aj h,decide_eq_true h];rfl;rw[ak h,decide_eq_false h];rfl
section
variable {La Da:U} {Ra:List U} {Lb Db:U} {Rb:List U} {m:Int}
theorem aid (HA:fJ Da m Ra) (HB:fJ Db m Rb) (la:La.length=Da.length) (lb:Lb.length=Db.length) {i t:Nat} (hi:i<La.length) (b:La.getD i 0∈Lb) (a:t<(Ra.getD i []).length) (c:t<(Rb.getD (bh Lb (La.getD i 0)) []).length): hZ (bo .i64 ((Ra.getD i []).getD t 0) ((Rb.getD (bh Lb (La.getD i 0)) []).getD t 0)) m=some (((Ra.getD i []).getD t 0+(Rb.getD (bh Lb (La.getD i 0)) []).getD t 0)%m):=by have hq:=ff b;have hm:=HA.m1;have cU:=HA.FO;have a1:=HA.al i (by omega) _ (eF a);have a2:=HB.al _ (by omega) _ (eF c);rw[d6,qM]
theorem aeZ (A B:U) (b:Int) (HA:fJ Da m Ra) (HB:fJ Db m Rb) (la:La.length=Da.length) (lb:Lb.length=Db.length): GP ((La,Da,A),(m,Ra),(Lb,Db,B),b,Rb)=some (decide (∀i,i<La.length->qL La Da Ra Lb Db Rb m i)):=by have l1:=HA.cB;have l2:=HB.cB;have l3:=HA.rl;have l4:=HB.rl;simp only[GP,NV];rw[Jg (qL La Da Ra Lb Db Rb m) La.length (fun i=>((La,aD (ab La),(i:Int)),(La,Da,A),(m,Ra),(Lb,Db,B),b,Rb)) (.inr false) (.inl ()) ?a1 ?a3 ?a0 dE];(case a0=>rfl);(case a3=>dsimp only;rw[aW (iQ La)]);(case a1=>intro i c;dsimp only;have Is:=HA.re (i:=i) (by omega);have r1:=HA.row i (by omega);rw[aX (dg (by rw[nl];omega)),cE,gI c];(try simp only[aB]);rw[show rK ((Lb,Db,B),La.getD i 0)=some (jU Lb (La.getD i 0)) from aj (by dsimp only;omega)];(try simp only[aB]);by_cases a:La.getD i 0∈Lb;rotate_left;rw[yZ a,aX dg,aj (show qL La Da Ra Lb Db Rb m i from fun q=>absurd q a),io,je];(·have hq:=ff a;have r2:=HB.row (bh Lb (La.getD i 0)) (by omega);rw[xB a,aW dQ,cE,gI];(try simp only[aB]);rw[cE,gI];(try simp only[aB]);by_cases hd:Da.getD i 0=Db.getD (bh Lb (La.getD i 0)) 0;rotate_left;rw[aX (qJ hd),ak fun o=>hd (o a).1];rfl;rw[aW (me hd),cE,getD_some [] (show i<Ra.length by omega)];(try simp only[aB]);rw[Jg (fun t=>((Ra.getD i []).getD t 0+(Rb.getD (bh Lb (La.getD i 0)) []).getD t 0)%m=0) (Ra.getD i []).length (fun t=>((((bh Lb (La.getD i 0):Nat):Int),La,aD (ab La),(i:Int),Ra.getD i [],aD (ab (Ra.getD i [])),(t:Int)),(La,Da,A),(m,Ra),(Lb,Db,B),b,Rb)) (.inr (.inr (.inr false))) (.inl (((i:Int),La,aD (ab La)),(La,Da,A),(m,Ra),(Lb,Db,B),b,Rb)) ?b1 ?b3 ?b0 dE];(case b0=>rfl);(case b3=>dsimp only;rw[aW (iQ _)]);(case b1=>intro t d;dsimp only;rw[aX (dg (by rw[nl];omega)),cE,gI d];(try simp only[aB]);rw[cE,getD_some [] (show bh Lb (La.getD i 0)<Rb.length by omega)];(try simp only[aB]);rw[cE,gI (show t<(Rb.getD (bh Lb (La.getD i 0)) []).length by omega)];(try simp only[aB]);rw[aid HA HB la lb c a d (by omega)];(try simp only[aB]);by_cases h:((Ra.getD i []).getD t 0+(Rb.getD (bh Lb (La.getD i 0)) []).getD t 0)%m=0;rw[aj h,aW (me h),je];rw[ak h,aX (qJ h)]);by_cases h:∀t,t<(Ra.getD i []).length->((Ra.getD i []).getD t 0+(Rb.getD (bh Lb (La.getD i 0)) []).getD t 0)%m=0;rw[aj h,aj (show qL La Da Ra Lb Db Rb m i from fun _=>⟨hd,h⟩),io,je];rw[ak h,ak (show¬qL La Da Ra Lb Db Rb m i from fun o=>h (o a).2)];rfl));exact aic
end
def N4 (NN:Nat):((U×(U×U))×((Int×(List U))×((U×(U×U))×(Int×(List U)))))->(Option Bool):=
 (fun(((l0,l1,l2),(i3,l4),(l5,l6,l7),i8,l9):((U×(U×U))×((Int×(List U))×((U×(U×U))×(Int×(List U))))))=>
 bK (cj NN (fun(((bS,dX,eC),(fG,cO),(dk,dm,dA),g9,eY):((U×(Int×Int))×((Int×(List U))×((U×(U×U))×(Int×(List U))))))=>
 au (bO eC dX)
 (bK ((bF bS eC).ae (fun fw=>
 (mW (dk,fw)).ae (fun fP=>
 au (bO fP (0:Int))
 (some (AI ((eC,bS,dX),(fG,cO),(dk,dm,dA),g9,eY)))
 ((bF cO eC).ae (fun dP=>
 bK (cj NN (fun(((gT,il,fi,nD,jX,ii,tf,kl),(rq,hH),(iP,lD,gp),ub,jZ):((Int×(Int×(U×(Int×(Int×(U×(Int×Int)))))))×((Int×(List U))×((U×(U×U))×(Int×(List U))))))=>
 au (bO kl tf)
 ((bF ii kl).ae (fun kZ=>
 (bF jZ il).ae (fun o6=>
 au (fR (aD (ab o6)) kl)
 (some (BY (BY (BY (BY (BY false))))))
 ((bF jZ il).ae (fun mO=>
 (bF mO kl).ae (fun nE=>
 (hZ (bo .i64 kZ nE) rq).ae (fun qu=>
 au (fy qu (0:Int))
 (some (BY (BY (BY (BY (BY false))))))
 (some (AI ((gT,il,fi,nD,jX,ii,tf,bo .i64 kl 1),(rq,hH),(iP,lD,gp),ub,jZ))))))))))
 (some (BY (AI ((gT,il,jX,fi,nD),(rq,hH),(iP,lD,gp),ub,jZ)))))
 ((eC,fP,bS,dX,eC,dP,aD (ab dP),(0:Int)),(fG,cO),(dk,dm,dA),g9,eY))
 (fun((pQ,xU,kM,mP,Bt),(ue,oB),(j0,su,ng),ww,qD)=>
 (bF oB pQ).ae (fun nI=>
 (bF qD xU).ae (fun iu=>
 au (fy (aD (ab nI)) (aD (ab iu)))
 (some (BY (BY (BY false))))
 (some (AI ((kM,mP,Bt),(ue,oB),(j0,su,ng),ww,qD)))))))))))
 (fun((Fw,nM,Df),(xV,nN),(mQ,o9,rC),zt,nO)=>
 some (AI ((nM,Df,bo .i64 Fw 1),(xV,nN),(mQ,o9,rC),zt,nO))))
 (some (BY (AI ()))))
 ((l0,aD (ab l0),(0:Int)),(i3,l4),(l5,l6,l7),i8,l9))
 (fun _=>
 some true))
def Hc:((U×(U×U))×((Int×(List U))×((U×(U×U))×(Int×(List U)))))->(Option Bool):=N4 aN
theorem aqt (x:((U×(U×U))×((Int×(List U))×((U×(U×U))×(Int×(List U)))))) (z:Bool) (h:Hc x=some z):N4 aN x=some z:=h
section
variable {La Da:U} {Ra:List U} {Lb Db:U} {Rb:List U} {m:Int}
theorem alj (A B:U) (c:Int) (HA:fJ Da m Ra) (HB:fJ Db m Rb) (la:La.length=Da.length) (lb:Lb.length=Db.length): Hc ((La,Da,A),(m,Ra),(Lb,Db,B),c,Rb)=some (decide (∀i,i<La.length->qL La Da Ra Lb Db Rb m i)):=by have l1:=HA.cB;have l2:=HB.cB;have l3:=HA.rl;have l4:=HB.rl;simp only[Hc,N4];rw[Jg (qL La Da Ra Lb Db Rb m) La.length (fun i=>((La,aD (ab La),(i:Int)),(m,Ra),(Lb,Db,B),c,Rb)) (.inr false) (.inl ()) ?a1 ?a3 ?a0 dE];(case a0=>rfl);(case a3=>dsimp only;rw[aW (iQ La)]);(case a1=>intro i f;dsimp only;have Is:=HA.re (i:=i) (by omega);have r1:=HA.row i (by omega);rw[aX (dg (by rw[nl];omega)),cE,gI f];(try simp only[aB]);rw[show mW (Lb,La.getD i 0)=some (jU Lb (La.getD i 0)) from aj (by dsimp only;omega)];(try simp only[aB]);by_cases a:La.getD i 0∈Lb;rotate_left;rw[yZ a,aX dg,aj (show qL La Da Ra Lb Db Rb m i from fun q=>absurd q a),io,je];have hq:=ff a;have r2:=HB.row (bh Lb (La.getD i 0)) (by omega);let Q:Nat->Prop:=fun t=>t<(Rb.getD (bh Lb (La.getD i 0)) []).length/\((Ra.getD i []).getD t 0+(Rb.getD (bh Lb (La.getD i 0)) []).getD t 0)%m=0;rw[xB a,aW dQ,cE,getD_some [] (show i<Ra.length by omega)];(try simp only[aB]);rw[Jg Q (Ra.getD i []).length (fun t=>(((i:Int),((bh Lb (La.getD i 0):Nat):Int),La,aD (ab La),(i:Int),Ra.getD i [],aD (ab (Ra.getD i [])),(t:Int)),(m,Ra),(Lb,Db,B),c,Rb)) (.inr (.inr (.inr (.inr false)))) (.inl (((i:Int),((bh Lb (La.getD i 0):Nat):Int),(i:Int),La,aD (ab La)),(m,Ra),(Lb,Db,B),c,Rb)) ?b1 ?b3 ?b0 dE];(case b0=>rfl);(case b3=>dsimp only;rw[aW (iQ _)]);(case b1=>intro t b;dsimp only;rw[aX (dg (by rw[nl];omega)),cE,gI b];(try simp only[aB]);rw[cE,getD_some [] (show bh Lb (La.getD i 0)<Rb.length by omega)];(try simp only[aB]);by_cases d:t<(Rb.getD (bh Lb (La.getD i 0)) []).length;rw[aW (zM (by rw[nl];omega)),cE,gI d];(try simp only[aB]);rw[aid HA HB la lb f a b d];(try simp only[aB]);by_cases h:((Ra.getD i []).getD t 0+(Rb.getD (bh Lb (La.getD i 0)) []).getD t 0)%m=0;rw[aj (show Q t from⟨d,h⟩),aW (me h),je];rw[ak (show¬Q t from fun q=>h q.2),aX (qJ h)];rw[aX (lc (by rw[nl];omega)),ak (show¬Q t from fun q=>d q.1)]);by_cases e:∀t,t<(Ra.getD i []).length->Q t;rw[aj e,io,cE,getD_some [] (show i<Ra.length by omega)];(try simp only[aB]);rw[cE,getD_some [] (show bh Lb (La.getD i 0)<Rb.length by omega)];(try simp only[aB]);by_cases hl:(Ra.getD i []).length=(Rb.getD (bh Lb (La.getD i 0)) []).length;rw[aW (me (by rw[nl,nl];omega)),aj (show qL La Da Ra Lb Db Rb m i from fun _=>⟨by omega,fun t b=>(e t b).2⟩),io,je];rw[aX (qJ (by rw[nl,nl];omega)),ak fun o=>hl (by have:=(o a).1;omega)];rfl;rw[ak e,ak fun o=>e fun t b=>⟨by have:=(o a).1;omega,(o a).2 t b⟩];rfl);exact aic
end
def aaS:aR:=[(.agg,[.int .i64,.int .i64,.int .i64]),(.one,[.list [.int .i64]]),(.one,[.list [.int .i64]])]
def Ak (NN:Nat):(Int×(Int×((Int×(Int×Int))×(U×U))))->(Option U):=
 (fun((i0,i1,(i2,i3,i4),l5,l6):(Int×(Int×((Int×(Int×Int))×(U×U)))))=>
 (jB i0 i1 (ab l5)).ae (fun(k7,k8)=>
 bK (au (cu i2 (1:Int))
 (some (AI ((true,i2,(k7,k8),l6),l5,i2,i3,i4)))
 (some (AI ((cu i2 (5:Int),i2,(k7,k8),l6),l5,i2,i3,i4))))
 (fun((b9,fO,(ou,uj),cM),cO,iG,fH,gA)=>
 au (b9)
 ((cN (0:Int) uj).ae (fun FF=>
 (bQ cO (av ou FF)).ae (fun kV=>
 (bF cM (0:Int)).ae (fun fw=>
 (cN (0:Int) uj).ae (fun x5=>
 (bQ cO (av ou x5)).ae (fun kY=>
 (kq (ab (bB cO (av ou x5) (wF kV fw))) (ab l5)).ae (fun _=>
 some (bB cO (av ou x5) (wF kV fw)))))))))
 (au (cu fO (3:Int))
 ((cN (0:Int) uj).ae (fun k23=>
 (bQ cO (av ou k23)).ae (fun il=>
 (bF cM (0:Int)).ae (fun oe=>
 (cN (0:Int) uj).ae (fun Xd=>
 (bQ cO (av ou Xd)).ae (fun jX=>
 (kq (ab (bB cO (av ou Xd) (iM (bo .i64 il oe) fH))) (ab l5)).ae (fun _=>
 some (bB cO (av ou Xd) (iM (bo .i64 il oe) fH)))))))))
 (au (cu fO (4:Int))
 ((cN (0:Int) uj).ae (fun Mm=>
 (bQ cO (av ou Mm)).ae (fun tf=>
 (bF cM (0:Int)).ae (fun kl=>
 (cN (0:Int) uj).ae (fun x7=>
 (bQ cO (av ou x7)).ae (fun Dd=>
 (kq (ab (bB cO (av ou x7) (iM tf kl))) (ab l5)).ae (fun _=>
 some (bB cO (av ou x7) (iM tf kl)))))))))
 (au (cu fO (6:Int))
 ((cN (0:Int) uj).ae (fun BA=>
 (bQ cO (av ou BA)).ae (fun qt=>
 (bF cM (0:Int)).ae (fun zq=>
 (cN (0:Int) uj).ae (fun Xg=>
 (bQ cO (av ou Xg)).ae (fun zr=>
 (kq (ab (bB cO (av ou Xg) (DQ .i64 qt zq))) (ab l5)).ae (fun _=>
 some (bB cO (av ou Xg) (DQ .i64 qt zq)))))))))
 (cj NN (fun((((P8,BC),mO,nE,qu),kN,xU,kM,oh):(((Nat×Nat)×(U×(Int×Int)))×(U×(Int×(Int×Int)))))=>
 au (bO qu nE)
 ((cN qu BC).ae (fun k47=>
 (bQ kN (av P8 k47)).ae (fun ue=>
 (bF mO qu).ae (fun tg=>
 (hZ (bo .i64 ue tg) kM).ae (fun WQ=>
 (cN qu BC).ae (fun k51=>
 (bQ kN (av P8 k51)).ae (fun vi=>
 some (AI (((P8,BC),mO,nE,bo .i64 qu 1),bB kN (av P8 k51) WQ,xU,kM,oh)))))))))
 (((kq (ab kN) (ab l5)).ae (fun _=>
 some kN)).ae (fun qC=>
 some (BY qC))))
 (((ou,uj),cM,aD uj,(0:Int)),cO,iG,fH,gA))))))))
def qb:(Int×(Int×((Int×(Int×Int))×(U×U))))->(Option U):=Ak aN
theorem ao5 (x:(Int×(Int×((Int×(Int×Int))×(U×U))))) (z:U) (h:qb x=some z):Ak aN x=some z:=h
theorem adV {xs u:U} {o i:Nat} (ho:o+u.length<=xs.length) (a:i<u.length):bQ (gC xs o u) (av o i)=some (u.getD i 0):=by show(gC xs o u)[o+i]? =_;unfold gC;rw[zaa,zaq (by rw[IN];omega),IN,zbr (by omega),zaC,zas a,getD_some 0 a]
theorem akZ {xs u:U} {o i:Nat} (ho:o+u.length<=xs.length) (a:i<u.length) (v:Int):bB (gC xs o u) (av o i) v=gC xs o (bB u i v):=by show(gC xs o u).set (o+i) v=gC xs o (u.set i v);unfold gC;rw[zaa,List.set_append_right _ _ (by rw[IN];omega),IN,zbr (by omega),zaC,List.set_append_left _ _ a,List.length_set,zaa]
theorem azp {xs:U} {o w:Nat} (ho:o+w<=xs.length):gC xs o (fU xs o w)=xs:=by
 have hl:(fU xs o w).length=w:=by unfold fU;rw[IN,zaP];omega
 unfold gC;rw[hl];unfold fU;rw[zaa,<-zbt,zaF,zaF]
theorem azm {xs u:U} {o:Nat} (ho:o+u.length<=xs.length):(gC xs o u).length=xs.length:=by unfold gC;rw[AN,AN,IN,zaP];omega
theorem amI {r:Rg} {xs y:U} {lo:Nat} (hr:eG r=true) (x:lo+ax r<=xs.length) (hx:eV r (fU xs lo (ax r))=true) (hy:eV r y=true): qb ((lo:Int),((lo+ax r:Nat):Int),r,xs,y)=some (gC xs lo (fV r (fU xs lo (ax r)) y)):=by obtain⟨k,p,n⟩:=r;have H:=B4 hr;have B:=azp (xs:=xs) (o:=lo) (w:=ax (k,p,n)) x;have D:=jv hx;have one:ax (k,p,n)=1->∃a b,fU xs lo (ax (k,p,n))=[a]/\y=[b]/\(0<=a/\a<=dO (k,p,n))/\(0<=b/\b<=dO (k,p,n))/\xs[lo]? =some a/\∀v,gC xs lo [v]=bB xs lo v:=(by intro C;obtain⟨c,z⟩:=AJ hx C;obtain⟨d,t⟩:=AJ hy C;have g:=adV (xs:=xs) (u:=fU xs lo (ax (k,p,n))) (o:=lo) (i:=0) (by omega) (by omega);rw[B,av] at g;refine⟨_,_,c,d,z,t,?_,fun v=>?_⟩;have:(fU xs lo (ax (k,p,n))).getD 0 0=bR (fU xs lo (ax (k,p,n))) 0:=(by unfold bR;rfl);rw[<-this];exact g;have s:=akZ (xs:=xs) (u:=fU xs lo (ax (k,p,n))) (o:=lo) (i:=0) (by omega) (by omega) v;rw[B] at s;have:bB (fU xs lo (ax (k,p,n))) 0 v=[v]:=(by rw[c];rfl);rw[this] at s;exact s.symm);have m:jB (lo:Int) ((lo+ax (k,p,n):Nat):Int) (ab xs)=some (lo,ax (k,p,n)):=(by rw[alc (by omega) (by show lo+ax (k,p,n)<=xs.length;omega),zaC]);have loop:∀k,(k=2\/k=7\/k=8)->jY p=true->eG (k,p,n)=true->jB (lo:Int) ((lo+ax (k,p,n):Nat):Int) (ab xs)=some (lo,ax (k,p,n))->lo+ax (k,p,n)<=xs.length->gC xs lo (fU xs lo (ax (k,p,n)))=xs-> eV (k,p,n) (fU xs lo (ax (k,p,n)))=true->eV (k,p,n) y=true->qb ((lo:Int),((lo+ax (k,p,n):Nat):Int),(k,p,n),xs,y)=some (gC xs lo (fV (k,p,n) (fU xs lo (ax (k,p,n))) y)):=(by intro k hk l hr m x B hx hy;have hm:=m8 l;have D:=jv hx;have Fh:=jv hy;have C:=mq hr;have H:=B4 hr;have G:∀a b,j3 (k,p,n) a b=(a+b)%p:=(by intro a b;simp only[j3];rw[ak (by omega),ak (by omega),ak (by omega),ak (by omega)]);have r7:dO (k,p,n)=p - 1:=(by simp only[dO];rw[ak (by omega),ak (by omega),ak (by omega)]);generalize hX:fU xs lo (ax (k,p,n))=X at*;simp only[qb,Ak,KY];rw[m];simp only[aB];rw[ak (by omega),nw (a:=k) (b:=5) (by omega),io];simp only;rw[aW rfl,ak (by omega),ak (by omega),ak (by omega)];have tl:∀f,(gV (ax (k,p,n)) f).length=ax (k,p,n):=fun f=>tt _ f;have F:∀f,(gC xs lo (gV (ax (k,p,n)) f)).length=xs.length:=fun f=>azm (by rw[tl];exact x);rw[eR (fun i=>(((lo,ax (k,p,n)),y,aD (ax (k,p,n)),(i:Int)),gC xs lo (gV (ax (k,p,n)) (tK (fun j=>j3 (k,p,n) (bR X j) (bR y j)) (bR X) i)),k,p,n)) (ax (k,p,n)) ?a1 ?a2 ?a3 dE];(case a3=>rw[al6,NB D,B];rfl);(case a2=>simp only;rw[aW (dQ (by simp only[aD];omega)),al7];rw[rJ (show ab (gC xs lo _)=ab xs from F _),aB,aB];rfl);case a1=>intro i A;have z:=rO hx A;have t:=rO hy A;simp only;have E:bQ (gC xs lo (gV (ax (k,p,n)) (tK (fun j=>j3 (k,p,n) (bR X j) (bR y j)) (bR X) i))) (av lo i)=some (bR X i):=(by rw[adV (by rw[tl];exact x) (by rw[tl];exact A)];have:=Vl (w:=ax (k,p,n)) (tK (fun j=>j3 (k,p,n) (bR X j) (bR y j)) (bR X) i) A;rw[aBb,f9] at this;have e:bQ (gV (ax (k,p,n)) (tK (fun j=>j3 (k,p,n) (bR X j) (bR y j)) (bR X) i)) i=some ((gV (ax (k,p,n)) (tK (fun j=>j3 (k,p,n) (bR X j) (bR y j)) (bR X) i)).getD i 0):=getD_some 0 (by rw[tl];exact A);rw[<-e,this]);rw[aX (dg (by simp only[aD];omega)),kI A,aB,E,aB,EY,aB,d6,qM,aB,aB,E,aB];have hn:=al8 (f:=fun j=>j3 (k,p,n) (bR X j) (bR y j)) (g:=bR X) (w:=ax (k,p,n)) (i:=i);rw[f9] at hn;rw[<-G,akZ (by rw[tl];exact x) (by rw[tl];exact A),hn,d6];rfl);rcases sE hr with⟨rfl,rfl,rfl⟩|⟨rfl,l,rfl⟩|⟨rfl,l,rfl⟩|⟨rfl,l,rfl⟩|⟨rfl,l,rfl⟩|⟨rfl,rfl,hn⟩|⟨rfl,l,hn⟩|⟨rfl,l,ki,rfl⟩;obtain⟨a,b,c,d,z,t,g,q⟩:=one rfl;rw[c,d,KF rfl,q];have h:qb ((lo:Int),((lo+1:Nat):Int),((1:Int),(0:Int),(0:Int)),xs,[b])=some (bB xs lo (wF a b)):=(by simp only[qb,Ak];rw[show jB (lo:Int) ((lo+1:Nat):Int) (ab xs)=some (lo,1) from m];simp only[aB];rw[show cu (1:Int) 1=true from rfl,lN];simp only[bK,If,lN];rw[show cN (0:Int) 1=some 0 from rfl];simp only[aB];rw[show bQ xs (av lo 0)=some a from g,show bF [b] (0:Int)=some b from rfl];simp only[aB];rw[rJ (by show(bB xs (av lo 0) _).length=_;simp[bB,ab])];rfl);rw[show ax ((1:Int),(0:Int),(0:Int))=1 from rfl] at*;rw[h,avD z t];rfl;exact loop 2 (.inl rfl) l hr m x B hx hy;obtain⟨a,b,c,d,z,t,g,q⟩:=one rfl;rw[c,d,KF rfl,q];have h:qb ((lo:Int),((lo+1:Nat):Int),((3:Int),p,(0:Int)),xs,[b])=some (bB xs lo (iM (bo .i64 a b) p)):=(by simp only[qb,Ak];rw[show jB (lo:Int) ((lo+1:Nat):Int) (ab xs)=some (lo,1) from m];simp only[aB];rw[show cu (3:Int) 1=false from rfl,iU];simp only[bK,If];rw[show cu (3:Int) 5=false from rfl,iU,show cu (3:Int) 3=true from rfl,lN];rw[show cN (0:Int) 1=some 0 from rfl];simp only[aB];rw[show bQ xs (av lo 0)=some a from g,show bF [b] (0:Int)=some b from rfl];simp only[aB];rw[rJ (by show(bB xs (av lo 0) _).length=_;simp[bB,ab])];rfl);rw[show ax ((3:Int),p,(0:Int))=1 from rfl] at*;rw[h,d6,wH];rfl;obtain⟨a,b,c,d,z,t,g,q⟩:=one rfl;rw[c,d,KF rfl,q];have h:qb ((lo:Int),((lo+1:Nat):Int),((4:Int),p,(0:Int)),xs,[b])=some (bB xs lo (iM a b)):=(by simp only[qb,Ak];rw[show jB (lo:Int) ((lo+1:Nat):Int) (ab xs)=some (lo,1) from m];simp only[aB];rw[show cu (4:Int) 1=false from rfl,iU];simp only[bK,If];rw[show cu (4:Int) 5=false from rfl,iU,show cu (4:Int) 3=false from rfl,iU,show cu (4:Int) 4=true from rfl,lN];rw[show cN (0:Int) 1=some 0 from rfl];simp only[aB];rw[show bQ xs (av lo 0)=some a from g,show bF [b] (0:Int)=some b from rfl];simp only[aB];rw[rJ (by show(bB xs (av lo 0) _).length=_;simp[bB,ab])];rfl);rw[show ax ((4:Int),p,(0:Int))=1 from rfl] at*;rw[h,wH];rfl;obtain⟨a,b,c,d,z,t,g,q⟩:=one rfl;rw[c,d,KF rfl,q];have h:qb ((lo:Int),((lo+1:Nat):Int),((5:Int),p,(0:Int)),xs,[b])=some (bB xs lo (wF a b)):=(by simp only[qb,Ak];rw[show jB (lo:Int) ((lo+1:Nat):Int) (ab xs)=some (lo,1) from m];simp only[aB];rw[show cu (5:Int) 1=false from rfl,iU];simp only[bK,If];rw[show cu (5:Int) 5=true from rfl,lN];rw[show cN (0:Int) 1=some 0 from rfl];simp only[aB];rw[show bQ xs (av lo 0)=some a from g,show bF [b] (0:Int)=some b from rfl];simp only[aB];rw[rJ (by show(bB xs (av lo 0) _).length=_;simp[bB,ab])];rfl);rw[show ax ((5:Int),p,(0:Int))=1 from rfl] at*;rw[h,aga];rfl;obtain⟨a,b,c,d,z,t,g,q⟩:=one rfl;rw[c,d,KF rfl,q];have h:qb ((lo:Int),((lo+1:Nat):Int),((6:Int),(0:Int),n),xs,[b])=some (bB xs lo (DQ .i64 a b)):=(by simp only[qb,Ak];rw[show jB (lo:Int) ((lo+1:Nat):Int) (ab xs)=some (lo,1) from m];simp only[aB];rw[show cu (6:Int) 1=false from rfl,iU];simp only[bK,If];rw[show cu (6:Int) 5=false from rfl,iU,show cu (6:Int) 3=false from rfl,iU,show cu (6:Int) 4=false from rfl,iU,show cu (6:Int) 6=true from rfl,lN];rw[show cN (0:Int) 1=some 0 from rfl];simp only[aB];rw[show bQ xs (av lo 0)=some a from g,show bF [b] (0:Int)=some b from rfl];simp only[aB];rw[rJ (by show(bB xs (av lo 0) _).length=_;simp[bB,ab])];rfl);rw[show ax ((6:Int),(0:Int),n)=1 from rfl] at*;rw[h,X7];rfl;exact loop 7 (.inr (.inl rfl)) l hr m x B hx hy;exact loop 8 (.inr (.inr rfl)) l hr m x B hx hy
def NO (NN:Nat):((Int×(Int×Int))×((U×(U×U))×((U×(U×U))×U)))->(Option ((U×(U×U))×Bool)):=
 (fun(((i0,i1,i2),(l3,l4,l5),(l6,l7,l8),l9):((Int×(Int×Int))×((U×(U×U))×((U×(U×U))×U))))=>
 (yw ((i0,i1,i2),l3,l4,l5)).ae (fun qf=>
 au (df qf)
 (some ((([]:U),([]:U),([]:U)),false))
 ((yw ((i0,i1,i2),l6,l7,l8)).ae (fun KM=>
 au (df KM)
 (some ((([]:U),([]:U),([]:U)),false))
 ((Cc ((l3,l4,l5),l6,l7,l8)).ae (fun(cB,cM,ED)=>
 au (df ED)
 (some ((([]:U),([]:U),([]:U)),false))
 ((bc cM 0 (ab cM)).ae (fun dk=>
 (vJ dk).ae (fun fH=>
 au (bO (65536:Int) fH)
 (some ((([]:U),([]:U),([]:U)),false))
 ((bc cB 0 (ab cB)).ae (fun dA=>
 (GN (dA,l9)).ae (fun d7=>
 (kB (aD (ab d7)) (aD (ab d7)) 8).ae (fun Mk=>
 bK (ah cB (
 ah cM (
 ah d7 (
 (aO 0 0 (ab (([]:U)))).ae (fun _=>
 (aO 0 0 (ab (([]:U)))).ae (fun _=>
 (aO 0 0 (ab (([]:U)))).ae (fun _=>
 ah d7 (
 (aO 0 Mk (ab (cR Mk (0:Int)))).ae (fun _=>
 (aO 0 0 (ab (([]:U)))).ae (fun _=>
 cj NN (fun(((fw,fP),(kY,gT,il),(fi,gj,gB),(ii,gK,lZ),lC,hH,iP,lD,gp,iL,jZ,qB):((Int×Int)×((Int×(Int×Int))×((U×(U×U))×((U×(U×U))×(U×(U×(U×(U×(U×(U×(U×U))))))))))))=>
 au (bO fP fw)
 (bK ((cN fP (ab lD)).ae (fun BC=>
 (bQ lD (av 0 BC)).ae (fun xT=>
 ah jZ (
 ah qB (
 ah lD (
 ah jZ (
 ah lC (
 ah hH (
 ah iP (
 ah lD (
 ah gp (
 ah iL (
 cj NN (fun(((nE,qu,pQ,xU,kM,oh),(Bt,ue,tg),(j0,su,ng),(qC,qD,nI),iu,nK,nM,oC,rB,nN,mQ,o9):((Int×(Int×(Int×(Int×(Int×Int)))))×((Int×(Int×Int))×((U×(U×U))×((U×(U×U))×(U×(U×(U×(U×(U×(U×(U×U))))))))))))=>
 au (bO oh kM)
 ((cN oh (ab mQ)).ae (fun k64=>
 (bQ mQ (av 0 k64)).ae (fun zt=>
 au (cu zt qu)
 ((cN oh (ab o9)).ae (fun Mn=>
 (bQ o9 (av 0 Mn)).ae (fun rr=>
 (cN nE (ab rB)).ae (fun Xl=>
 (bQ rB (av 0 Xl)).ae (fun IV=>
 ah mQ (
 ah o9 (
 ah oC (
 ah mQ (
 ah iu (
 ah nK (
 ah nM (
 ah oC (
 (aO 0 (ab rB) (ab (bB rB (av 0 Xl) rr))).ae (fun _=>
 ah nN (
 some (AI ((nE,qu,pQ,xU,kM,bo .i64 oh 1),(Bt,ue,tg),(j0,su,ng),(qC,qD,nI),iu,nK,nM,oC,bB rB (av 0 Xl) rr,nN,mQ,o9)))))))))))))))))
 (ah mQ (
 ah o9 (
 ah oC (
 ah mQ (
 ah iu (
 ah nK (
 ah nM (
 ah oC (
 ah rB (
 ah nN (
 some (AI ((nE,qu,pQ,xU,kM,bo .i64 oh 1),(Bt,ue,tg),(j0,su,ng),(qC,qD,nI),iu,nK,nM,oC,rB,nN,mQ,o9))))))))))))))))
 ((ah mQ (
 ah o9 (
 ah oC (
 ah iu (
 ah nK (
 ah nM (
 ah oC (
 ah rB (
 ah nN (
 some (AI ((xU,pQ),(Bt,ue,tg),(j0,su,ng),(qC,qD,nI),iu,nK,nM,oC,rB,nN,mQ,o9)))))))))))).ae (fun sv=>
 some (BY sv))))
 ((fP,xT,fw,fP,aD (ab jZ),(0:Int)),(kY,gT,il),(fi,gj,gB),(ii,gK,lZ),lC,hH,iP,lD,gp,iL,jZ,qB))))))))))))))
 (fun((IW,Dg),(Dh,Di,IX),(nP,nh,mb),(lE,qE,ni),uq,yd,tp,zK,wD,vp,tq,ur)=>
 ah tq (
 ah ur (
 ah zK (
 ah uq (
 ah yd (
 ah tp (
 ah zK (
 ah wD (
 ah vp (
 some (AI ((Dg,bo .i64 IW 1),(Dh,Di,IX),(nP,nh,mb),(lE,qE,ni),uq,yd,tp,zK,wD,vp,tq,ur)))))))))))))
 ((ah jZ (
 ah qB (
 ah lC (
 ah hH (
 ah iP (
 ah lD (
 ah gp (
 ah iL (
 some (AI ((kY,gT,il),(fi,gj,gB),(ii,gK,lZ),lC,hH,iP,lD,gp,iL,jZ,qB))))))))))).ae (fun pU=>
 some (BY pU))))
 ((aD (ab d7),(0:Int)),(i0,i1,i2),(l3,l4,l5),(l6,l7,l8),([]:U),([]:U),([]:U),d7,cR Mk (0:Int),([]:U),cB,cM)))))))))))
 (fun((xW,IZ,I0),(kA,qG,uu),(tr,pV,nQ),th,pR,mN,nG,ul,BD,qw,oZ)=>
 (bc nG 0 (ab nG)).ae (fun tj=>
 (bc ul 0 (ab ul)).ae (fun Dr=>
 (bc BD 0 (ab BD)).ae (fun wz=>
 (tL (tj,Dr,wz)).ae (fun LX=>
 au (cu LX ((-1:Int)))
 (some ((([]:U),([]:U),([]:U)),false))
 ((Cd (xW,IZ,I0)).ae (fun zE=>
 (bc nG 0 (ab nG)).ae (fun zF=>
 (bc ul 0 (ab ul)).ae (fun zG=>
 (bc zE 0 (ab zE)).ae (fun BE=>
 (GK ((xW,IZ,I0),zF,zG,BE)).ae (fun(zH,zI,ry)=>
 (bc qw 0 (ab qw)).ae (fun si=>
 (yx ((kA,qG,uu),si)).ae (fun uo=>
 (bc qw 0 (ab qw)).ae (fun Ds=>
 (yx ((tr,pV,nQ),Ds)).ae (fun rz=>
 (bc zH 0 (ab zH)).ae (fun rA=>
 (bc zI 0 (ab zI)).ae (fun vn=>
 (bc ry 0 (ab ry)).ae (fun BF=>
 (bc qw 0 (ab qw)).ae (fun x8=>
 (yx ((rA,vn,BF),x8)).ae (fun ox=>
 (kB (aD (ab qw)) (aD (ab qw)) 8).ae (fun W6=>
 (tM (xW,IZ,I0)).ae (fun aeF=>
 (kB aeF aeF 8).ae (fun W8=>
 ah oZ (
 ah uo (
 ah rz (
 ah ox (
 (aO 0 W6 (ab (cR W6 (0:Int)))).ae (fun _=>
 (aO 0 W8 (ab (cR W8 (0:Int)))).ae (fun _=>
 ah th (
 ah pR (
 ah mN (
 ah zH (
 ah zI (
 ah ry (
 cj NN (fun(((zp,rp,wv),(FG,FH,qx),(qy,oy,pT),qz,qA,oz,m9,nH,kx,ky,sn,oA,sq,nc,sr):((Int×(Int×Int))×((U×(U×U))×((U×(U×U))×(U×(U×(U×(U×(U×(U×(U×(U×(U×(U×(U×U)))))))))))))))=>
 (bc sn 0 (ab sn)).ae (fun kz=>
 (bc nc 0 (ab nc)).ae (fun tn=>
 (Ae (kz,tn)).ae (fun xS=>
 (vK ((zp,rp,wv),(FG,FH,qx),xS)).ae (fun Du=>
 (bc oA 0 (ab oA)).ae (fun I7=>
 (bc nc 0 (ab nc)).ae (fun I8=>
 (Ae (I7,I8)).ae (fun L8=>
 (vK ((zp,rp,wv),(qy,oy,pT),L8)).ae (fun FI=>
 ah sr (
 (GO ((zp,rp,wv),sr,Du,FI)).ae (fun Dw=>
 (bc sq 0 (ab sq)).ae (fun wB=>
 (bc nc 0 (ab nc)).ae (fun Dx=>
 (Ae (wB,Dx)).ae (fun PO=>
 (bc m9 0 (ab m9)).ae (fun BH=>
 (bc nH 0 (ab nH)).ae (fun auB=>
 ah kx (
 (Et ((zp,rp,wv),(BH,auB,kx),PO)).ae (fun(L9,Ma)=>
 (jB L9 Ma (ab kx)).ae (fun(P7,afa)=>
 (bQ kx P7).ae (fun aBP=>
 (bc kx P7 afa).ae (fun Qb=>
 ah kx (
 (bc Dw 0 (ab sr)).ae (fun Ms=>
 (qb (aD P7,aD (av P7 afa),(zp,rp,wv),kx,Ms)).ae (fun Mt=>
 (bc ky 0 (ab ky)).ae (fun Mu=>
 ah nc (
 (xf (Mu,nc)).ae (fun(am1,FJ)=>
 au (df am1)
 (((ed m9 (ab m9)).ae (fun I9=>
 (ed nH (ab nH)).ae (fun Qd=>
 (ed Mt (ab kx)).ae (fun Ja=>
 some ((I9,Qd,Ja),true))))).ae (fun(((Jb,Jc,Jd),am2):((U×(U×U))×Bool))=>
 some (BY ((Jb,Jc,Jd),am2))))
 (ah ky (
 ah sn (
 ah oA (
 ah sq (
 (aO 0 (ab nc) (ab FJ)).ae (fun _=>
 (aO 0 (ab sr) (ab Dw)).ae (fun _=>
 ah qz (
 ah qA (
 ah oz (
 ah m9 (
 ah nH (
 (aO 0 (ab kx) (ab Mt)).ae (fun _=>
 some (AI ((zp,rp,wv),(FG,FH,qx),(qy,oy,pT),qz,qA,oz,m9,nH,Mt,ky,sn,oA,sq,FJ,Dw))))))))))))))))))))))))))))))))))))))))))
 ((xW,IZ,I0),(kA,qG,uu),(tr,pV,nQ),th,pR,mN,zH,zI,ry,oZ,uo,rz,ox,cR W6 (0:Int),cR W8 (0:Int))))))))))))))))))))))))))))))))))))))))))))))))))
def GG:((Int×(Int×Int))×((U×(U×U))×((U×(U×U))×U)))->(Option ((U×(U×U))×Bool)):=NO aN
theorem aoZ (x:((Int×(Int×Int))×((U×(U×U))×((U×(U×U))×U)))) (z:((U×(U×U))×Bool)) (h:GG x=some z):NO aN x=some z:=h
def tU (J DS S:U) (k i q:Nat):Int:=if q<k\/(q=k/\bh J (S.getD k 0)<i) then DS.getD q 0 else 0
def I6 (La Lb keep:U):U:=(jL La Lb).filter fun x=>decide (x∈keep)
def yV (r:Rg) (La Da A Lb Db B S:U):T3:=(S,S.map (jd La Da Lb Db),eP (fun n=>gz r (nV r La Da A Lb Db B) (pn La Da Lb Db S (S.map (jd La Da Lb Db))) n (aC (cq La Da Lb Db))) (aC (S.map (jd La Da Lb Db))))
def AB (r:Rg) (La Da A Lb Db B S:U):T3×Bool:=
 if aC (cq La Da Lb Db)<=65536/\0<=fg S (S.map (jd La Da Lb Db)) then(yV r La Da A Lb Db B S,true) else(([],[],[]),false)
theorem gX.wZ {La Da Lb Db:U} (H:gX La Da Lb Db):Sub La Da (jL La Lb) (cq La Da Lb Db):=by have na:=tQ H.xa;refine⟨na,P5 na (tQ H.xb),xZ,(gH H.xa).2.1,vm ..,fun i a=>?_,fun x hx=>(H.d8 x hx).1⟩;have c:=xZ (b:=Lb) _ (eF a);unfold cq;rw[jH (ff c),jA c];unfold jd;rw[j4 na a,aj a]
theorem gX.w4 {La Da Lb Db:U} (H:gX La Da Lb Db):Sub Lb Db (jL La Lb) (cq La Da Lb Db):=by have na:=tQ H.xa;have nb:=tQ H.xb;refine⟨nb,P5 na nb,Dn,(gH H.xb).2.1,vm ..,fun i b=>?_,fun x hx=>(H.d8 x hx).1⟩;have d:=Dn (a:=La) _ (eF b);unfold cq;rw[jH (ff d),jA d];unfold jd;by_cases h:Lb.getD i 0∈La;rw[aj (ff h),H.c _ h (eF b),j4 nb b];rw[ak (fun q=>h (tB.1 q)),j4 nb b]
theorem gX.alF {La Da Lb Db:U} (H:gX La Da Lb Db) (p:Int->Bool):Sub ((jL La Lb).filter p) (((jL La Lb).filter p).map (jd La Da Lb Db)) (jL La Lb) (cq La Da Lb Db):=by have nJ:=P5 (tQ H.xa) (tQ H.xb);refine⟨nJ.filter _,nJ,fun v a=>(zaj.1 a).1,(wt ..).symm,vm ..,fun i b=>?_,fun x hx=>(H.d8 x hx).1⟩;have a:=(zaj.1 (eF b)).1;unfold cq;rw[jH (ff a),jA a,jH b]
theorem gX.gJ {La Da Lb Db:U} (H:gX La Da Lb Db):jG (cq La Da Lb Db):=⟨by have:=H.dq;rw[vm];omega,fun x hx=>by have:=H.d8 x hx;omega⟩
theorem gX.dot {La Da Lb Db:U} (H:gX La Da Lb Db) {L D:U} (h1:aC D<=4096) (e:∀x∈D,1<=x/\x<=8) (a:Sub L D (jL La Lb) (cq La Da Lb Db)) (k:Nat): Ae (fI L D (jL La Lb),aM (cq La Da Lb Db) k)=some ((gY L D (jL La Lb) (aM (cq La Da Lb Db) k):Nat):Int):=by have dq:=H.dq;have f:=H.d8;have d:=vm La Da Lb Db;have c:jG D:=⟨by have:=a.l;have:=zau a.nL (l₂:=jL La Lb) a.s;omega,fun x hx=>by have:=e x hx;omega⟩;refine aj ⟨⟨by show(dd (jL La Lb).length _).length<=24;rw[fT];omega,fun x hx=>?_⟩,⟨by unfold aM;rw[fT];omega,fun x hx=>?_⟩,by unfold fI aM;rw[fT,fT,d]⟩;obtain⟨i,b,rfl⟩:=IT.1 hx;(try dsimp only);split;rename_i h;have:=R6 c (i:=bh L ((jL La Lb).getD i 0)+1) (by have:=a.l;omega);omega;omega;obtain⟨i,b,rfl⟩:=IT.1 hx;have b:=zaf.1 b;have:=f _ (eF (l:=cq La Da Lb Db) b);have h3:((cq La Da Lb Db).getD i 0).toNat<=8:=(by omega);have h4:=za9 (k/dV (cq La Da Lb Db) (i+1)) (show((cq La Da Lb Db).getD i 0).toNat>0 by omega);unfold ef;omega
theorem gX.next {La Da Lb Db:U} (H:gX La Da Lb Db) (hp:aC (cq La Da Lb Db)<=65536) {k:Nat} (a:k<aC (cq La Da Lb Db)):xf (cq La Da Lb Db,aM (cq La Da Lb Db) k)=some (decide (k+1<aC (cq La Da Lb Db)),aM (cq La Da Lb Db) (k+1)):=by have e:jQ (cq La Da Lb Db) (aM (cq La Da Lb Db) k) (cq La Da Lb Db).length=k:=QB H.gJ a;have:=show xf (cq La Da Lb Db,aM (cq La Da Lb Db) k)=_ from aj ⟨H.gJ,by rw[e],by rw[e];exact a,by show aC (cq La Da Lb Db)<=1048576;omega⟩;rw[this,e]
theorem Sb {S a:U} (h:0<=fg S a):ly S a=true/\aC a<=4096/\(∀x∈a,1<=x/\x<=8)/\fg S a=(aC a:Int):=by unfold fg at h;split at h;rename_i b;have c:=tC (D:=a) fun x hx=>(qU b.1 x hx).1;exact⟨b.1,by omega,qU b.1,by rw[<-c];exact aj b⟩;omega
theorem aA9 {S a:U} (h:¬0<=fg S a):fg S a= -1:=by unfold fg at h⊢;split at h;rename_i b;have hI:=tC (D:=a) fun x hx=>(qU b.1 x hx).1;omega;rename_i b;exact ak b
theorem ON {r:Rg} {L D A:U} (a:gM r (L,D,A)=true) {o:Nat} (b:o<aC D):pB (r,(L,D,A),(o:Int))=some (n8 r A o):=adW a b
theorem abl {r:Rg} {f:Nat->U} {a:Nat->Nat} (hr:eG r=true) (b:∀k,eV r (f k)=true) {N k:Nat} (c:a k<N):
  gC (eP (fun n=>gz r f a n k) N) (a k*ax r) (fV r (gz r f a (a k) k) (f k))=eP (fun n=>gz r f a n (k+1)) N:=by
 rw[Yu (jv (K8 hr (HK hr b a _ k) (b k))) (fun i _=>jv (HK hr b a i k)) c];refine KP fun n _=>?_;show(if n=a k then _ else _)=if a k=n then _ else _
 by_cases e:n=a k
 ·rw[aj e,aj e.symm,e]
 ·rw[ak e,ak (Ne.symm e)]
set_option maxHeartbeats 4000000 in
theorem anL {r:Rg} {La Da A Lb Db d keep S:U} (G:gM r (La,Da,A)=true) (I:gM r (Lb,Db,d)=true) (H:gX La Da Lb Db) (M:keep.length<=1000) (hS:I6 La Lb keep=S):
  GG (r,(La,Da,A),(Lb,Db,d),keep)=some (AB r La Da A Lb Db d S):=by
 obtain⟨o,⟨Oc,ad⟩,hta,⟨ap1,Cx⟩,hA,aG,aT⟩:=mg G;obtain⟨PG,⟨Ar,bd⟩,Bo,⟨bp1,CB⟩,hB,bG,bT⟩:=mg I;have X:=mq o;have lea:=(gH H.xa).2.1;have leb:=(gH H.xb).2.1;have Qy:=H.dq;have yX:=H.d8;have W:=vm La Da Lb Db;have F:=H.wZ;have V:=H.w4;have y:=H.alF fun x=>decide (x∈keep);rw[show(jL La Lb).filter (fun x=>decide (x∈keep))=S from hS] at y
 have nJ:=F.nJ;have aBF:∀v∈S,v∈jL La Lb:=y.s;have E:=Gv F V G I;simp only[GG,NO,ah];obtain⟨f,l,j⟩:=r;generalize Fl:(f,l,j)=r at*
 have hAl:A.length<=24576:=by rw[hA];exact zae (IS Cx X.2.2) (by omega)
 have hBl:d.length<=24576:=by rw[hB];exact zae (IS CB X.2.2) (by omega)
 rw[show yw (r,La,Da,A)=some (gM r (La,Da,A)) from aj ⟨by dsimp only;omega,by dsimp only;omega,by dsimp only;omega⟩,G]
 try simp only[aB]
 rw[show df true=false from rfl,iU,show yw (r,Lb,Db,d)=some (gM r (Lb,Db,d)) from aj ⟨by dsimp only;omega,by dsimp only;omega,by dsimp only;omega⟩,I]
 try simp only[aB]
 rw[show df true=false from rfl,iU,H.aeQ]
 try simp only[aB,eH]
 rw[show df true=false from rfl,iU,aiv yX (by rw[W];omega) (by have:=H.p24;omega)]
 try simp only[aB,eH]
 unfold AB;by_cases K:aC (cq La Da Lb Db)<=65536
 rotate_left
 ·rw[aX dg,ak fun q=>K q.1]
 have hSl:S.length<=24:=by
  rw[<-hS];exact zae (Pd _ _) Qy
 rw[aW dQ,auz (jL La Lb) keep (by omega) M,show(jL La Lb).filter (fun x=>decide (x∈keep))=S from hS]
 try simp only[aB,eH,be]
 rw[qH (by simp only[ab,eD];omega)]
 try simp only[aB,be]
 rw[show aO 0 0 (ab ([]:U))=some () from rfl,show aO 0 (ab S) (ab (cR (ab S) (0:Int)))=some () from qj (by simp[ab,cR])]
 try simp only[aB,be]
 obtain⟨J,p⟩:∃J,jL La Lb=J:=⟨_,rfl⟩;obtain⟨b,t⟩:∃b,cq La Da Lb Db=b:=⟨_,rfl⟩;obtain⟨a,R⟩:∃a,S.map (jd La Da Lb Db)=a:=⟨_,rfl⟩;have VM:∀{L D:U},aC D<=4096->(∀x∈D,1<=x/\x<=8)->Sub L D J b->∀k,Ae (fI L D J,aM b k)=some ((gY L D J (aM b k):Nat):Int):=by
  rw[<-p,<-t];exact fun B h2 N k=>H.dot B h2 N k
 have Be:∀k,k<aC b->xf (b,aM b k)=some (decide (k+1<aC b),aM b (k+1)):=by
  rw[<-t];exact fun k M=>H.next K M
 have gdJ:∀v,v∈J->b.getD (bh J v) 0=jd La Da Lb Db v:=fun v u=>by
  rw[<-t,<-p];unfold cq;rw[jH (ff (by rw[p];exact u)),jA (by rw[p];exact u)]
 have aqJ:∀q,q<S.length->a.getD q 0=jd La Da Lb Db (S.getD q 0):=fun q m=>by rw[<-R,jH m]
 have leS:S.length=a.length:=by rw[<-R,wt]
 have P:=y.s;have LB:nV r La Da A Lb Db d=Gu r A d (fun k=>gY La Da J (aM b k)) (fun k=>gY Lb Db J (aM b k)):=by
  unfold nV;rw[p,t]
 have VQ:pn La Da Lb Db S a=fun k=>gY S a J (aM b k):=by
  unfold pn;rw[p,t]
 rw[R] at y⊢;rw[p] at W Qy nJ P⊢;rw[t] at W K yX⊢;rw[p,t] at F V y;rw[eR (fun k=>(((S.length:Int),(k:Int)),r,(La,Da,A),(Lb,Db,d),([]:U),([]:U),([]:U),S,dd S.length (tU J a S k 0),([]:U),J,b)) S.length ?a1 ?a2 ?a3 dE]
 case a1=>
  intro k w;dsimp only
  rw[aX dg,kI (by show k<S.length;omega)]
  try simp only[aB]
  rw[f9,show bQ S k=some (S.getD k 0) from gI w]
  try simp only[aB,be]
  have fY:=ff (P _ (eF w));rw[eR (fun i=>(((k:Int),S.getD k 0,(S.length:Int),(k:Int),(J.length:Int),(i:Int)),r,(La,Da,A),(Lb,Db,d),([]:U),([]:U),([]:U),S,dd S.length (tU J a S k i),([]:U),J,b)) J.length ?b1 ?b2 ?b3 dE]
  case b1=>
   intro i hi;dsimp only
   rw[aX dg,kI (by show i<J.length;omega)]
   try simp only[aB]
   rw[f9,show bQ J i=some (J.getD i 0) from gI hi]
   try simp only[aB]
   by_cases u:J.getD i 0=S.getD k 0
   ·have fN:bh J (S.getD k 0)=i:=by rw[<-u];exact j4 nJ hi
    rw[aX (uV u),kI (by show i<b.length;omega)]
    try simp only[aB]
    rw[f9,show bQ b i=some (b.getD i 0) from gI]
    try simp only[aB]
    rw[CD _ w]
    try simp only[aB]
    rw[f9,EZ _ w]
    try simp only[aB]
    have wu:bB (dd S.length (tU J a S k i)) k (b.getD i 0)=dd S.length (tU J a S k (i+1)):=by
     rw[F8];refine ko fun q m=>?_;unfold tU;by_cases e:q=k
     ·subst e;rw[aj rfl,aj (.inr ⟨rfl,by omega⟩),aqJ q m,<-gdJ _ (P _ (eF m)),fN]
     ·rw[ak e];exact xY ⟨fun h=>h.imp id fun h=>absurd h.1 e,fun h=>h.imp id fun h=>absurd h.1 e⟩ _ _
    rw[wu,xF]
    try simp only[aB,be]
    rw[je]
   ·rw[aW (nw u)]
    try simp only[aB,be]
    rw[je];have:dd S.length (tU J a S k i)=dd S.length (tU J a S k (i+1)):=ko fun q m=>by
     unfold tU;refine xY ⟨fun h=>h.imp id fun h=>⟨h.1,by omega⟩,fun h=>h.imp id fun h=>⟨h.1,?_⟩⟩ _ _;have bk:bh J (S.getD k 0)≠i:=fun e=>u (by rw[<-e];exact jA (P _ (eF w)));have:=h.2;omega
    rw[this]
  case b2=>
   dsimp only
   rw[aW dQ]
   try simp only[aB,be]
   try rfl
  case b3=>rfl
  simp only[bK,If]
  try simp only[aB,be]
  rw[je];have:dd S.length (tU J a S k J.length)=dd S.length (tU J a S (k+1) 0):=ko fun q m=>by
   unfold tU;exact xY ⟨fun h=>.inl (by rcases h with h|h<;>omega),fun h=>by
    rcases h with h|h
    ·by_cases e:q=k
     ·exact .inr ⟨e,fY⟩
     ·exact .inl (by omega)
    ·omega⟩ _ _
  rw[this]
 case a2=>
  dsimp only
  rw[aW dQ]
  try simp only[aB,be]
  try rfl
 case a3=>
  rw[JD];have:dd (ab S) (fun _=>(0:Int))=dd S.length (tU J a S 0 0):=ko fun q _=>by
   unfold tU;rw[ak (by omega)]
  rw[this];rfl
 have sW:dd S.length (tU J a S S.length 0)=a:=by
  refine v7 (by rw[fT];exact leS) fun q m=>?_;rw[fT] at m;rw[co,rI _ m];exact aj (.inl m)
 rw[sW];simp only[bK,If]
 try simp only[aB,eH]
 rw[show tL (S,a,([]:U))=some (fg S a) from aj ⟨by show S.length<=_;omega,by show a.length<=_;omega⟩]
 try simp only[aB,eH]
 by_cases Z:0<=fg S a
 rotate_left
 ·rw[aX (uV (aA9 Z)),ak fun q=>Z q.2]
 rw[aj ⟨K,Z⟩];obtain⟨xs,Q,dS,pN⟩:=Sb Z;have M7:=(gH xs).1;have aqK:1<=aC a:=vt fun x hx=>(dS x hx).1;rw[aW nw,show Cd r=some (eX r) from aj o]
 try simp only[aB,eH]
 have hzl:=jv (ET o);rw[show GK (r,S,a,eX r)=some (S,a,pq (eX r) (aC a)) from aj ⟨by dsimp only;omega,⟨by dsimp only;omega,dS,Q⟩,by dsimp only;omega⟩]
 try simp only[aB,eH]
 rw[show yx ((La,Da,A),J)=some (fI La Da J) from aj ⟨H.xa,by show J.length<=_;omega,Cx⟩]
 try simp only[aB,eH]
 rw[show yx ((Lb,Db,d),J)=some (fI Lb Db J) from aj ⟨H.xb,by show J.length<=_;omega,CB⟩]
 try simp only[aB,eH]
 rw[show yx ((S,a,pq (eX r) (aC a)),J)=some (fI S a J) from aj ⟨xs,by show J.length<=_;omega,Q⟩]
 try simp only[aB,eH]
 rw[qH (by simp only[ab,eD];omega)]
 try simp only[aB,eH]
 rw[show tM r=some (lr r) from rfl,X.1]
 try simp only[aB,eH]
 rw[show kB ((ax r:Nat):Int) ((ax r:Nat):Int) 8=some (ax r) from qH (by simp only[eD];omega)]
 try simp only[aB,be]
 rw[show aO 0 (ab J) (ab (cR (ab J) (0:Int)))=some () from qj (by simp[ab,cR]),show aO 0 (ax r) (ab (cR (ax r) (0:Int)))=some () from qj (by simp[ab,cR])]
 try simp only[aB,be]
 have ad3:1<=aC b:=vt fun x hx=>(yX x hx).1;have oa:∀k,gY La Da J (aM b k)<aC Da:=fun k=>F.lt k;have ob:∀k,gY Lb Db J (aM b k)<aC Db:=fun k=>V.lt k;have Y:∀k,gY S a J (aM b k)<aC a:=fun k=>y.lt k;have da:=VM Cx ad F;have db:=VM CB bd V;have dc:=VM Q dS y;unfold yV;rw[R,LB,VQ,t];rw[LB] at E;generalize We:(fun k=>gY La Da J (aM b k))=C at*
 generalize Wg:(fun k=>gY Lb Db J (aM b k))=z at*
 generalize Wh:(fun k=>gY S a J (aM b k))=c at*
 have UE:∀k,gY La Da J (aM b k)=C k:=fun k=>by rw[<-We]
 have UF:∀k,gY Lb Db J (aM b k)=z k:=fun k=>by rw[<-Wg]
 have UG:∀k,gY S a J (aM b k)=c k:=fun k=>by rw[<-Wh]
 simp only[UE] at da oa;simp only[UF] at db ob;simp only[UG] at dc Y;generalize hT:Gu r A d C z=T at*
 have eT:∀k,mR r (n8 r A (C k)) (n8 r d (z k))=T k:=fun k=>by rw[<-hT];rfl
 have CE:=fun n k=>HK o E c n k;have g:∀k,(eP (fun n=>gz r T c n k) (aC a)).length=aC a*ax r:=fun k=>vQ fun n _=>jv (CE n k);have hm:∀k,(c k+1)*ax r<=aC a*ax r:=fun k=>zab _ (Y k);have jV:aC a*ax r<=4096*6:=IS Q X.2.2;have t8:∀k,qb (aD (c k*ax r),aD (av (c k*ax r) (ax r)),r,eP (fun n=>gz r T c n k) (aC a),T k)=some (eP (fun n=>gz r T c n (k+1)) (aC a)):=by
  intro k;have B:=hm k;rw[zal,zam] at B;have N:=Nq (fun i _=>jv (CE i k)) (Y k);rw[show aD (c k*ax r)=((c k*ax r:Nat):Int) from rfl,show aD (av (c k*ax r) (ax r))=((c k*ax r+ax r:Nat):Int) from rfl,amI o (by rw[g];omega) (by rw[N];exact CE _ _) (E k),N,abl o E (Y k)]
 have mJ:∀k,Et (r,(S,a,eP (fun n=>gz r T c n k) (aC a)),((c k:Nat):Int))=some (((c k*ax r:Nat):Int),(((c k+1)*ax r:Nat):Int)):=fun k=>by
  have:=show Et (r,(S,a,eP (fun n=>gz r T c n k) (aC a)),((c k:Nat):Int))=_ from aj ⟨o,by dsimp only;omega,by dsimp only;rw[GB,g];exact hm k,by dsimp only;rw[g];omega⟩
  rw[this];simp only[GB]
 have VV:∀k,vK (r,(La,Da,A),((C k:Nat):Int))=some (n8 r A (C k)):=fun k=>ON G (oa k);have VW:∀k,vK (r,(Lb,Db,d),((z k:Nat):Int))=some (n8 r d (z k)):=fun k=>ON I (ob k);have zh:∀k (x:U),x.length=ax r->GO (r,x,n8 r A (C k),n8 r d (z k))=some (T k):=fun k x hx=>by
  rw[<-eT];exact aj ⟨o,hx,AH G (oa k),AH I (ob k)⟩
 have Vp:∀k,(T k).length=ax r:=fun k=>jv (E k);have Lv:∀k,(if k=0 then cR (ax r) (0:Int) else T (k - 1)).length=ax r:=fun k=>by
  split
  ·simp[cR]
  ·exact Vp _
 have aqQ:∀k,k<aC b->jB ((c k*ax r:Nat):Int) (((c k+1)*ax r:Nat):Int) (ab (eP (fun n=>gz r T c n k) (aC a)))=some (c k*ax r,ax r)/\
   (∃v,bQ (eP (fun n=>gz r T c n k) (aC a)) (c k*ax r)=some v)/\(∃v,bc (eP (fun n=>gz r T c n k) (aC a)) (c k*ax r) (ax r)=some v)/\
   bc (T k) 0 (ab (if k=0 then cR (ax r) (0:Int) else T (k - 1)))=some (T k):=fun k M=>by
  have B:=hm k;have h2:=B;rw[zal,zam] at B;refine⟨?_,⟨_,getD_some 0 (by rw[g];omega)⟩,⟨_,aBp (by show _<=(eP _ _).length;rw[g];omega)⟩,?_⟩
  ·rw[alc (by rw[zal,zam];omega) (by show _<=(eP _ _).length;rw[g];omega),zal,zam,zaC]
  ·rw[show ab (if k=0 then cR (ax r) (0:Int) else T (k - 1))=ab (T k) from(Lv k).trans (Vp k).symm]
   exact eH _
 subst Fl
 try dsimp only
 rw[af1 (aC b) (fun k=>((f,l,j),(La,Da,A),(Lb,Db,d),([]:U),([]:U),([]:U),S,a,eP (fun n=>gz (f,l,j) T c n k) (aC a),b,fI La Da J,fI Lb Db J,fI S a J,aM b k,if k=0 then cR (ax (f,l,j)) (0:Int) else T (k - 1))) ad3 ?c1 ?c3 (zbj dE)]
 case c1=>
  intro k w;dsimp only
  obtain⟨q1,⟨v1,q2⟩,⟨v2,q3⟩,q4⟩:=aqQ k (by omega);simp only[aB,eH,be,da k,VV k,db k,VW k,zh k _ (Lv k),dc k,mJ k,q1,q2,q3,q4,t8 k,Be k w];by_cases O:k+1<aC b
  ·rw[aj O,decide_eq_true O,show df true=false from rfl,iU]
   rw[show aO 0 (ab (aM b k)) (ab (aM b (k+1)))=some () from xF _ _ _,show aO 0 (ab (if k=0 then cR (ax (f,l,j)) (0:Int) else T (k - 1))) (ab (T k))=some () from qj ((Lv k).trans (Vp k).symm)]
   rw[show aO 0 (ab (eP (fun n=>gz (f,l,j) T c n k) (aC a))) (ab (eP (fun n=>gz (f,l,j) T c n (k+1)) (aC a)))=some () from qj ((g _).trans (g _).symm)]
   try simp only[aB]
   rw[ak (show k+1≠0 by omega),Nat.add_sub_cancel]
  ·rw[ak O,decide_eq_false O,show df false=true from rfl,lN]
   try simp only[iJ,aB]
   rw[show ed (eP (fun n=>gz (f,l,j) T c n (k+1)) (aC a)) (ab (eP (fun n=>gz (f,l,j) T c n k) (aC a)))=some (eP (fun n=>gz (f,l,j) T c n (k+1)) (aC a)) from aA2 ((g _).trans (g _).symm)]
   try simp only[aB]
   rw[show k+1=aC b by omega]
   try rfl
 case c3=>
  rw[JD];have e0:aM b 0=dd (ab J) fun _=>0:=by
   unfold aM;rw[W];refine ko fun i _=>?_;unfold ef;rw[zbD,zbE];rfl
  rw[<-e0,QP];rfl
 try rfl
theorem ank {D:U} (c:jG D) (n:Nat):∃k,k<=D.length/\(∀j,j<k->ef D (n+1) (D.length - (j+1))=0/\¬ef D n (D.length - (j+1))+1<D.getD (D.length - (j+1)) 0)/\ (k=D.length\/k<D.length/\ef D n (D.length - (k+1))+1<D.getD (D.length - (k+1)) 0/\ef D (n+1) (D.length - (k+1))=ef D n (D.length - (k+1))+1/\sB D n (n+1) (D.length - (k+1))=aM D (n+1)):=by obtain⟨k,o,p,s⟩:=Ed (fun j=>(n+1)%dV D (D.length - (j+1))=0) D.length;have d:∀j,j<=k->(n+1)%dV D (D.length - j)=0:=fun j l=>(by cases j with|zero=>rw[zbm,uF];omega|succ j=>exact p j (by omega));refine⟨k,o,fun j l=>?_,?_⟩;have b:D.length - (j+1)<D.length:=(by omega);have a:=d j (by omega);rw[show D.length - j=D.length - (j+1)+1 by omega] at a;obtain⟨e,f⟩:=OJ c b a;by_cases hx:ef D n (D.length - (j+1))+1<D.getD (D.length - (j+1)) 0;exact absurd (d (j+1) (by omega)) (e hx).2;exact⟨(f hx).1,hx⟩;by_cases b:k=D.length;exact .inl b;have i:D.length - (k+1)<D.length:=(by omega);have a:=d k (zac _);rw[show D.length - k=D.length - (k+1)+1 by omega] at a;obtain⟨e,f⟩:=OJ c i a;have t:=(s.resolve_left b);have hx:ef D n (D.length - (k+1))+1<D.getD (D.length - (k+1)) 0:=(by rcases Decidable.em (ef D n (D.length - (k+1))+1<D.getD (D.length - (k+1)) 0) with h|h;exact h;exact absurd (f h).2 t);obtain⟨r,m⟩:=e hx;refine .inr ⟨by omega,hx,r,ko fun q hq=>?_⟩;by_cases g:D.length - (k+1)<=q;rw[aj g];rw[ak g,abE c (zbj i) m (by omega)]
theorem odo {X Y:Type} {f:X->Option (X⊕Y)} {D:U} (d:jG D) (n:Nat) (mk:Int->U->X) (out:U->Y) (b:∀i L,i<D.length->L.length=D.length->L[i]? =some (ef D n i)->(ef D n i+1<D.getD i 0->f (mk (i:Int) L)=some (.inr (out (bB L i (ef D n i+1)))))/\ (¬ef D n i+1<D.getD i 0->f (mk (i:Int) L)=some (.inl (mk ((i:Int) - 1) (bB (bB L i (ef D n i+1)) i 0))))) (o:∀L,f (mk (-1) L)=some (.inr (out L))) {N:Nat} (hN:D.length<N):cj N f (mk ((D.length:Int) - 1) (aM D n))=some (out (aM D (n+1))):=by obtain⟨k,k1,p,r⟩:=ank d n;have a:∀j,j<D.length->(sB D n (n+1) (D.length - j)).length=D.length/\(sB D n (n+1) (D.length - j))[D.length - (j+1)]? =some (ef D n (D.length - (j+1))):=fun j c=>(by refine⟨MD ..,?_⟩;have:=FR (D:=D) (n:=n) (n':=n+1) (k:=D.length - (j+1)) (by omega);rw[show D.length - (j+1)+1=D.length - j by omega] at this;exact this);rw[<-agk D n (n+1)];refine eR (fun j=>mk ((D.length:Int) - 1 - (j:Int)) (sB D n (n+1) (D.length - j))) k ?_ ?_ ?_ (by omega);intro j c;obtain⟨q,h⟩:=p j c;obtain⟨l1,l2⟩:=a j (by omega);(try dsimp only);rw[show(D.length:Int) - 1 - (j:Int)=((D.length - (j+1):Nat):Int) by omega,(b _ _ (by omega) l1 l2).2 h];have:=Qv D n (n+1) (D.length - (j+1));rw[q,show D.length - (j+1)+1=D.length - j by omega] at this;rw[YW,this,show((D.length - (j+1):Nat):Int) - 1=(D.length:Int) - 1 - ((j+1:Nat):Int) by omega];(try dsimp only);rcases r with e|⟨e,m,l,g⟩;subst e;rw[show(D.length:Int) - 1 - (D.length:Int)= -1 by omega,o,zaM,agj];obtain⟨l1,l2⟩:=a k e;rw[show(D.length:Int) - 1 - (k:Int)=((D.length - (k+1):Nat):Int) by omega,(b _ _ (by omega) l1 l2).1 m];have:=Qv D n (n+1) (D.length - (k+1));rw[l,show D.length - (k+1)+1=D.length - k by omega] at this;rw[this,g];simp only[zbm];rw[show(D.length:Int) - 1 - ((0:Nat):Int)=(D.length:Int) - 1 by omega]
theorem ajb {f:Nat->Nat} {b:Nat}:∀n,(∀i,i<n->f i<=b)->sN f n<=n*b
 |0,_=>za1 _
 |n+1,h=>by have:=ajb n fun i hi=>h i (by omega);have:=h n (by omega);simp only[sN];rw[zal,zam];omega
theorem Uz {I T:U} {i:Nat} (e:i<I.length) (hT:I.length<=T.length) (d:∀x∈I,0<=x/\x<=8) (c:∀x∈T,0<=x/\x<=4096) (hl:I.length<=24): bo .i64 ((sN (fun q=>(I.getD q 0).toNat*(T.getD q 0).toNat) i:Nat):Int) (f6 .i64 (I.getD i 0) (T.getD i 0))=((sN (fun q=>(I.getD q 0).toNat*(T.getD q 0).toNat) (i+1):Nat):Int):=by have h1:=d _ (eF e);have h2:=c _ (eF (show i<T.length by omega));have a:∀q,q<I.length->(I.getD q 0).toNat*(T.getD q 0).toNat<=8*4096:=fun q b=>(by have:=d _ (eF b);have:=c _ (eF (show q<T.length by omega));exact IS (by omega) (by omega));have hs:=ajb (f:=fun q=>(I.getD q 0).toNat*(T.getD q 0).toNat) i fun q b=>a q (by omega);have hm:=a i e;have g:I.getD i 0=(((I.getD i 0).toNat:Nat):Int):=(by omega);have h:T.getD i 0=(((T.getD i 0).toNat:Nat):Int):=(by omega);rw[g,h,BL];simp only[GB,sN];rw[d6];push_cast;rfl
def N0 (NN:Nat):((Int×(Int×Int))×((U×(U×U))×((U×(U×U))×U)))->(Option (U×(U×U))):=
 (fun(((i0,i1,i2),(l3,l4,l5),(l6,l7,l8),l9):((Int×(Int×Int))×((U×(U×U))×((U×(U×U))×U))))=>
 (yF ((l3,l4,l5),l6,l7,l8)).ae (fun(bS,cZ,Ar)=>
 (bc bS 0 (ab bS)).ae (fun cM=>
 (bc cZ 0 (ab cZ)).ae (fun cO=>
 (Aj (cM,cO,l9)).ae (fun(dk,dm,dA)=>
 (bc dk 0 (ab dk)).ae (fun d7=>
 (bc dm 0 (ab dm)).ae (fun eY=>
 (Ai ((i0,i1,i2),d7,eY)).ae (fun(gi,ir,dP)=>
 (bc bS 0 (ab bS)).ae (fun iB=>
 (Co ((l3,l4,l5),iB)).ae (fun dq=>
 (bc bS 0 (ab bS)).ae (fun fi=>
 (Co ((l6,l7,l8),fi)).ae (fun gj=>
 (bc gi 0 (ab gi)).ae (fun gB=>
 (bc ir 0 (ab ir)).ae (fun ii=>
 (bc dP 0 (ab dP)).ae (fun gK=>
 (bc bS 0 (ab bS)).ae (fun lZ=>
 (Co ((gB,ii,gK),lZ)).ae (fun lC=>
 (kB (aD (ab bS)) (aD (ab bS)) 8).ae (fun zB=>
 (bc cZ 0 (ab cZ)).ae (fun iP=>
 (pC (iP,(65536:Int))).ae (fun qt=>
 bK (ah cZ (
 ah dq (
 ah gj (
 ah lC (
 (aO 0 zB (ab (cR zB (0:Int)))).ae (fun _=>
 (aO 0 0 (ab (([]:U)))).ae (fun _=>
 (aO 0 0 (ab (([]:U)))).ae (fun _=>
 (aO 0 0 (ab (([]:U)))).ae (fun _=>
 ah gi (
 ah ir (
 ah dP (
 cj NN (fun((zq,(ub,zr,kZ),(o6,mO,o7),(nf,kN,jh),o8,mP,ja,jO,oB,j0,su,ng,qC,qD,nI):(Int×((Int×(Int×Int))×((U×(U×U))×((U×(U×U))×(U×(U×(U×(U×(U×(U×(U×(U×(U×(U×U)))))))))))))))=>
 au (bO (0:Int) zq)
 (bK (bK (ah su (
 ah ng (
 ah qC (
 ah qD (
 ah nI (
 ah nI (
 ah o8 (
 ah mP (
 ah ja (
 ah jO (
 ah oB (
 ah j0 (
 cj NN (fun(((IQ,Fw,PR,Df,xV,IU),(WR,PS,i64),(oD,nO,Qp),(Qq,wC,sv),pf,yb,rD,sx,sA,nP,nh,mb,lE,qE,ni):((Int×(Int×(Int×(Int×(Int×Int)))))×((Int×(Int×Int))×((U×(U×U))×((U×(U×U))×(U×(U×(U×(U×(U×(U×(U×(U×(U×(U×U)))))))))))))))=>
 au (bO IU xV)
 ((cN IU (ab ni)).ae (fun Mp=>
 (bQ ni (av 0 Mp)).ae (fun zv=>
 (cN IU (ab mb)).ae (fun k84=>
 (bQ mb (av 0 k84)).ae (fun Fx=>
 (cN IU (ab lE)).ae (fun k86=>
 (bQ lE (av 0 k86)).ae (fun Fy=>
 (cN IU (ab qE)).ae (fun k88=>
 (bQ qE (av 0 k88)).ae (fun Bu=>
 ah nh (
 ah mb (
 ah lE (
 ah qE (
 ah ni (
 ah ni (
 ah pf (
 ah yb (
 ah rD (
 ah sx (
 ah sA (
 ah nP (
 some (AI ((IQ,bo .i64 Fw (f6 .i64 zv Fx),bo .i64 PR (f6 .i64 zv Fy),bo .i64 Df (f6 .i64 zv Bu),xV,bo .i64 IU 1),(WR,PS,i64),(oD,nO,Qp),(Qq,wC,sv),pf,yb,rD,sx,sA,nP,nh,mb,lE,qE,ni)))))))))))))))))))))))
 ((ah ni (
 ah qE (
 ah lE (
 ah mb (
 ah nh (
 ah pf (
 ah yb (
 ah rD (
 ah sx (
 ah sA (
 ah nP (
 some (AI ((Df,Fw,PR,IQ),(WR,PS,i64),(oD,nO,Qp),(Qq,wC,sv),pf,yb,rD,sx,sA,nP,ni,qE,lE,mb,nh)))))))))))))).ae (fun pU=>
 some (BY pU))))
 ((zq,(0:Int),(0:Int),(0:Int),aD (ab nI),(0:Int)),(ub,zr,kZ),(o6,mO,o7),(nf,kN,jh),o8,mP,ja,jO,oB,j0,su,ng,qC,qD,nI))))))))))))))
 (fun((xW,IZ,I0,i94),(Bv,xX,Bw),(pV,nQ,th),(pR,mN,nG),ul,BD,qw,oZ,tj,Dr,wz,wA,zE,zF,zG)=>
 (bc oZ 0 (ab oZ)).ae (fun BE=>
 (bc tj 0 (ab tj)).ae (fun zH=>
 (bc Dr 0 (ab Dr)).ae (fun zI=>
 (pB ((Bv,xX,Bw),(BE,zH,zI),xW)).ae (fun ry=>
 (pB ((Bv,xX,Bw),(pV,nQ,th),IZ)).ae (fun si=>
 (pB ((Bv,xX,Bw),(pR,mN,nG),I0)).ae (fun uo=>
 (bc si 0 (ab si)).ae (fun Ds=>
 (bc uo 0 (ab uo)).ae (fun rz=>
 (GZ ((Bv,xX,Bw),Ds,rz)).ae (fun rA=>
 (bc ry 0 (ab ry)).ae (fun vn=>
 (bc rA 0 (ab rA)).ae (fun BF=>
 (Cl ((Bv,xX,Bw),vn,BF)).ae (fun x8=>
 (bc oZ 0 (ab oZ)).ae (fun ox=>
 (bc tj 0 (ab tj)).ae (fun tm=>
 ah Dr (
 (bc x8 0 (ab x8)).ae (fun sj=>
 (xi ((Bv,xX,Bw),(ox,tm,Dr),xW,sj)).ae (fun sk=>
 ah zG (
 ah zF (
 ah zE (
 ah wA (
 ah wz (
 ah ul (
 ah BD (
 ah qw (
 ah oZ (
 ah tj (
 (aO 0 (ab Dr) (ab sk)).ae (fun _=>
 cj NN (fun(((zp,rp),(wv,L7,Fv),(qx,qy,oy),(pT,qz,qA),oz,m9,nH,kx,ky,sn,oA,sq,nc,sr,kz):((Int×Int)×((Int×(Int×Int))×((U×(U×U))×((U×(U×U))×(U×(U×(U×(U×(U×(U×(U×(U×(U×(U×U)))))))))))))))=>
 au (fR (0:Int) rp)
 ((cN rp (ab kz)).ae (fun asM=>
 (bQ kz (av 0 asM)).ae (fun xS=>
 (cN rp (ab kz)).ae (fun FD=>
 (bQ kz (av 0 FD)).ae (fun aeH=>
 (cN rp (ab kz)).ae (fun asN=>
 (bQ (bB kz (av 0 FD) (bo .i64 xS 1)) (av 0 asN)).ae (fun L8=>
 (cN rp (ab oA)).ae (fun asO=>
 (bQ oA (av 0 asO)).ae (fun WM=>
 au (bO L8 WM)
 ((ah oA (
 ah sq (
 ah nc (
 ah sr (
 (aO 0 (ab kz) (ab (bB kz (av 0 FD) (bo .i64 xS 1)))).ae (fun _=>
 ah oz (
 ah m9 (
 ah nH (
 ah kx (
 ah ky (
 ah sn (
 some (AI (zp,(wv,L7,Fv),(qx,qy,oy),(pT,qz,qA),oz,m9,nH,kx,ky,sn,oA,sq,nc,sr,bB kz (av 0 FD) (bo .i64 xS 1))))))))))))))).ae (fun wB=>
 some (BY wB)))
 ((cN rp (ab kz)).ae (fun Xb=>
 (bQ (bB kz (av 0 FD) (bo .i64 xS 1)) (av 0 Xb)).ae (fun PO=>
 ah oA (
 ah sq (
 ah nc (
 ah sr (
 (aO 0 (ab kz) (ab (bB (bB kz (av 0 FD) (bo .i64 xS 1)) (av 0 Xb) (0:Int)))).ae (fun _=>
 ah oz (
 ah m9 (
 ah nH (
 ah kx (
 ah ky (
 ah sn (
 some (AI ((zp,iw .i64 rp 1),(wv,L7,Fv),(qx,qy,oy),(pT,qz,qA),oz,m9,nH,kx,ky,sn,oA,sq,nc,sr,bB (bB kz (av 0 FD) (bo .i64 xS 1)) (av 0 Xb) (0:Int))))))))))))))))))))))))))
 ((ah oA (
 ah sq (
 ah nc (
 ah sr (
 ah kz (
 ah oz (
 ah m9 (
 ah nH (
 ah kx (
 ah ky (
 ah sn (
 some (AI (zp,(wv,L7,Fv),(qx,qy,oy),(pT,qz,qA),oz,m9,nH,kx,ky,sn,oA,sq,nc,sr,kz)))))))))))))).ae (fun BH=>
 some (BY BH))))
 ((i94,iw .i64 (aD (ab wz)) (1:Int)),(Bv,xX,Bw),(pV,nQ,th),(pR,mN,nG),ul,BD,qw,oZ,tj,sk,zG,zF,zE,wA,wz)))))))))))))))))))))))))))))))
 (fun(WN,(L9,Ma,WO),(auC,Xq,Qb),(Ms,Mt,Mu),Qc,FJ,I9,Qd,Ja,Jb,Jc,Jd,Qe,Mv,Mw)=>
 ah Jc (
 ah Jd (
 ah Qe (
 ah Mv (
 ah Mw (
 ah Qc (
 ah FJ (
 ah I9 (
 ah Qd (
 ah Ja (
 ah Jb (
 some (AI (iw .i64 WN 1,(L9,Ma,WO),(auC,Xq,Qb),(Ms,Mt,Mu),Qc,FJ,I9,Qd,Ja,Jb,Jc,Jd,Qe,Mv,Mw)))))))))))))))
 ((ah o8 (
 ah mP (
 ah ja (
 ah jO (
 ah oB (
 ah j0 (
 some (AI (o8,mP,ja,jO,oB,j0))))))))).ae (fun Qf=>
 some (BY Qf))))
 (qt,(i0,i1,i2),(l3,l4,l5),(l6,l7,l8),([]:U),([]:U),([]:U),gi,ir,dP,cZ,dq,gj,lC,cR zB (0:Int))))))))))))))
 (fun(Xr,Xs,Xt,Mx,My,Mz)=>
 (ed Mx (ab Mx)).ae (fun Qg=>
 (ed My (ab My)).ae (fun Qh=>
 (ed Mz (ab Mz)).ae (fun auD=>
 some (Qg,Qh,auD)))))))))))))))))))))))))
def G6:((Int×(Int×Int))×((U×(U×U))×((U×(U×U))×U)))->(Option (U×(U×U))):=N0 aN
theorem aqk (x:((Int×(Int×Int))×((U×(U×U))×((U×(U×U))×U)))) (z:(U×(U×U))) (h:G6 x=some z):N0 aN x=some z:=h
theorem gX.Zu {La Da Lb Db:U} (H:gX La Da Lb Db) {L D:U} (h1:aC D<=4096) (b:∀x∈D,1<=x/\x<=8) (a:Sub L D (jL La Lb) (cq La Da Lb Db)):(∀x∈fI L D (jL La Lb),0<=x/\x<=4096)/\(fI L D (jL La Lb)).length=(jL La Lb).length:=by have dq:=H.dq;have c:jG D:=⟨by have:=a.l;have:=zau a.nL (l₂:=jL La Lb) a.s;omega,fun x hx=>by have:=b x hx;omega⟩;refine⟨fun x hx=>?_,fT _ _⟩;obtain⟨i,hi,rfl⟩:=IT.1 hx;(try dsimp only);split;rename_i h;have:=R6 c (i:=bh L ((jL La Lb).getD i 0)+1) (by have:=a.l;omega);omega;omega
theorem gX.asF {La Da Lb Db:U} (H:gX La Da Lb Db) (k:Nat):(∀x∈aM (cq La Da Lb Db) k,0<=x/\x<=8)/\(aM (cq La Da Lb Db) k).length=(jL La Lb).length:=by
 refine⟨fun x hx=>?_,(fT _ _).trans (vm ..)⟩;obtain⟨i,a,rfl⟩:=IT.1 hx;have a:=zaf.1 a;have:=H.d8 _ (eF (l:=cq La Da Lb Db) a);have h3:((cq La Da Lb Db).getD i 0).toNat<=8:=by omega
 have h4:=za9 (k/dV (cq La Da Lb Db) (i+1)) (show((cq La Da Lb Db).getD i 0).toNat>0 by omega);unfold ef;omega
set_option maxHeartbeats 4000000 in
theorem aAE {r:Rg} {La Da A Lb Db d keep S:U} (G:gM r (La,Da,A)=true) (I:gM r (Lb,Db,d)=true) (H:gX La Da Lb Db) (hk:keep.length<=1000) (hS:I6 La Lb keep=S) (hP:aC (cq La Da Lb Db)<=65536) (za:0<=fg S (S.map (jd La Da Lb Db))): G6 (r,(La,Da,A),(Lb,Db,d),keep)=some (yV r La Da A Lb Db d S):=by obtain⟨h,⟨Oc,ad⟩,hta,⟨ap1,Cx⟩,hA,aG,aT⟩:=mg G;obtain⟨PG,⟨Ar,bd⟩,Bo,⟨bp1,CB⟩,hB,bG,bT⟩:=mg I;have hw:=mq h;have Qy:=H.dq;have D:=H.d8;have X:=vm La Da Lb Db;have p:=H.wZ;have B:=H.w4;have s:=H.alF fun x=>decide (x∈keep);rw[show(jL La Lb).filter (fun x=>decide (x∈keep))=S from hS] at s;have nJ:=p.nJ;have y:=Gv p B G I;have gJ:=H.gJ;obtain⟨xs,z,O,pN⟩:=Sb za;have M7:=gH xs;have P:=H.Zu Cx ad p;have W:=H.Zu CB bd B;have N:=H.Zu z O s;have u:=H.asF;obtain⟨e,g,f⟩:=r;simp only[G6,N0,ah];generalize Fl:(e,g,f)=r at*;rw[H.Rx];(try simp only[aB,eH]);unfold cq;rw[Y4 _ (by omega) hk,show(jL La Lb).filter (fun x=>decide (x∈keep))=S from hS];rw[show(jL La Lb).map (jd La Da Lb Db)=cq La Da Lb Db from rfl];(try simp only[aB,eH]);obtain⟨J,R⟩:∃J,jL La Lb=J:=⟨_,rfl⟩;obtain⟨a,K⟩:∃a,cq La Da Lb Db=a:=⟨_,rfl⟩;obtain⟨b,rV⟩:∃b,S.map (jd La Da Lb Db)=b:=⟨_,rfl⟩;have LB:nV r La Da A Lb Db d=Gu r A d (fun k=>gY La Da J (aM a k)) (fun k=>gY Lb Db J (aM a k)):=(by unfold nV;rw[R,K]);have VQ:pn La Da Lb Db S b=fun k=>gY S b J (aM a k):=(by unfold pn;rw[R,K]);rw[rV] at s za xs z O pN M7 N⊢;rw[R] at X Qy nJ p B s P W N u⊢;rw[K] at X hP D p B s gJ u⊢;have aqK:1<=aC b:=vt fun x hx=>(O x hx).1;have ad3:1<=aC a:=vt fun x hx=>(D x hx).1;rw[show Ai (r,S,b)=some (S,b,pq (eX r) (aC b)) from aj ⟨h,by dsimp only;omega,⟨by dsimp only;omega,O,z⟩⟩];(try simp only[aB,eH]);rw[Zq H.xa Cx nJ (by omega)];(try simp only[aB,eH]);rw[Zq H.xb CB nJ (by omega)];(try simp only[aB,eH]);rw[Zq xs z nJ (by omega)];(try simp only[aB,eH]);rw[qH (by simp only[ab,eD];omega)];(try simp only[aB,eH]);rw[Yg D (by omega),show min (aC a:Int) 65537=(aC a:Int) by omega];(try simp only[aB,be]);rw[show aO 0 (ab J) (ab (cR (ab J) (0:Int)))=some () from qj (by simp[ab,cR]),show aO 0 0 (ab ([]:U))=some () from rfl];(try simp only[aB,be]);have oa:∀k,gY La Da J (aM a k)<aC Da:=fun k=>p.lt k;have Z:∀k,gY Lb Db J (aM a k)<aC Db:=fun k=>B.lt k;have M:∀k,gY S b J (aM a k)<aC b:=fun k=>s.lt k;have ea:∀k,sN (fun q=>((aM a k).getD q 0).toNat*((fI La Da J).getD q 0).toNat) J.length=gY La Da J (aM a k):=fun k=>(by unfold gY;rw[P.2]);have eb:∀k,sN (fun q=>((aM a k).getD q 0).toNat*((fI Lb Db J).getD q 0).toNat) J.length=gY Lb Db J (aM a k):=fun k=>(by unfold gY;rw[W.2]);have ec:∀k,sN (fun q=>((aM a k).getD q 0).toNat*((fI S b J).getD q 0).toNat) J.length=gY S b J (aM a k):=fun k=>(by unfold gY;rw[N.2]);unfold yV;rw[rV,LB,VQ,K];rw[LB] at y;generalize We:(fun k=>gY La Da J (aM a k))=l at*;generalize Wg:(fun k=>gY Lb Db J (aM a k))=j at*;generalize Wh:(fun k=>gY S b J (aM a k))=c at*;have UE:∀k,gY La Da J (aM a k)=l k:=fun k=>(by rw[<-We]);have UF:∀k,gY Lb Db J (aM a k)=j k:=fun k=>(by rw[<-Wg]);have UG:∀k,gY S b J (aM a k)=c k:=fun k=>(by rw[<-Wh]);simp only[UE] at oa ea;simp only[UF] at Z eb;simp only[UG] at M ec;generalize hT:Gu r A d l j=T at*;have eT:∀k,mR r (n8 r A (l k)) (n8 r d (j k))=T k:=fun k=>(by rw[<-hT];rfl);have E:=fun n k=>HK h y c n k;have t:∀k,(eP (fun n=>gz r T c n k) (aC b)).length=aC b*ax r:=fun k=>vQ fun n _=>jv (E n k);have hm:∀k,(c k+1)*ax r<=aC b*ax r:=fun k=>zab _ (M k);have jV:aC b*ax r<=4096*6:=IS z hw.2.2;have t8:∀k,xi (r,(S,b,eP (fun n=>gz r T c n k) (aC b)),((c k:Nat):Int),fV r (gz r T c (c k) k) (T k))=some (eP (fun n=>gz r T c n (k+1)) (aC b)):=(by intro k;have h1:=hm k;rw[zal,zam] at h1;rw[<-abl h y (M k)];exact aj ⟨h,by dsimp only;omega,by dsimp only;rw[GB,t,jv (K8 h (E _ _) (y k))];omega,by dsimp only;rw[t];omega⟩);have mJ:∀k,pB (r,(S,b,eP (fun n=>gz r T c n k) (aC b)),((c k:Nat):Int))=some (gz r T c (c k) k):=fun k=>(by rw[<-Nq (fun i _=>jv (E i k)) (M k)];exact aj ⟨h,by dsimp only;omega,by dsimp only;rw[GB,t];exact hm k,by dsimp only;rw[t];omega⟩);have VV:∀k,pB (r,(La,Da,A),((l k:Nat):Int))=some (n8 r A (l k)):=fun k=>ON G (oa k);have VW:∀k,pB (r,(Lb,Db,d),((j k:Nat):Int))=some (n8 r d (j k)):=fun k=>ON I (Z k);have zh:∀k,GZ (r,n8 r A (l k),n8 r d (j k))=some (T k):=fun k=>(by rw[<-eT];exact aj ⟨h,AH G (oa k),AH I (Z k)⟩);have Q:∀k,Cl (r,gz r T c (c k) k,T k)=some (fV r (gz r T c (c k) k) (T k)):=fun k=>aj ⟨h,E _ _,y k⟩;subst Fl;(try dsimp only);rw[eR (fun k=>(((aC a:Int) - (k:Int)),(e,g,f),(La,Da,A),(Lb,Db,d),([]:U),([]:U),([]:U),S,b,eP (fun n=>gz (e,g,f) T c n k) (aC b),a,fI La Da J,fI Lb Db J,fI S b J,aM a k)) (r:=AI ([],[],[],S,b,eP (fun n=>gz (e,g,f) T c n (aC a)) (aC b))) (aC a) ?F ?c2 ?C dE];(case C=>rw[JD];have e0:aM a 0=dd (ab J) fun _=>0:=(by unfold aM;rw[X];refine ko fun i _=>?_;unfold ef;rw[zbD,zbE];rfl);rw[<-e0,QP];simp;rfl);(case c2=>dsimp only;rw[aW dQ];(try simp only[aB,be]);try rfl);(case F=>intro k cI;dsimp only;rw[aX dg];(try simp only[aB,be]);have V:=(u k).2;rw[eR (fun i=>(((aC a:Int) - (k:Int),((sN (fun q=>((aM a k).getD q 0).toNat*((fI La Da J).getD q 0).toNat) i:Nat):Int),((sN (fun q=>((aM a k).getD q 0).toNat*((fI Lb Db J).getD q 0).toNat) i:Nat):Int),((sN (fun q=>((aM a k).getD q 0).toNat*((fI S b J).getD q 0).toNat) i:Nat):Int),aD (ab (aM a k)),(i:Int)),(e,g,f),(La,Da,A),(Lb,Db,d),([]:U),([]:U),([]:U),S,b,eP (fun n=>gz (e,g,f) T c n k) (aC b),a,fI La Da J,fI Lb Db J,fI S b J,aM a k)) (r:=AI ((((c k:Nat):Int),((l k:Nat):Int),((j k:Nat):Int),(aC a:Int) - (k:Int)),(e,g,f),(La,Da,A),(Lb,Db,d),([]:U),([]:U),([]:U),S,b,eP (fun n=>gz (e,g,f) T c n k) (aC b),aM a k,fI S b J,fI Lb Db J,fI La Da J,a)) J.length ?d1 ?d2 ?d3 dE];(case d3=>rfl);(case d2=>dsimp only;rw[aW (dQ (by rw[nl,V];omega)),ea,eb,ec];try simp only[aB,be]);(case d1=>intro i m;dsimp only;have vb:cN (i:Int) (ab (aM a k))=some i:=kI (by show i<(aM a k).length;omega);rw[aX (dg (by rw[nl,V];omega)),vb];(try simp only[aB]);rw[f9,show bQ (aM a k) i=some ((aM a k).getD i 0) from getD_some 0 (by omega)];(try simp only[aB]);rw[kI (show i<ab (fI La Da J) by show i<(fI La Da J).length;omega)];(try simp only[aB]);rw[f9,show bQ (fI La Da J) i=some ((fI La Da J).getD i 0) from getD_some 0 (by omega)];(try simp only[aB]);rw[kI (show i<ab (fI Lb Db J) by show i<(fI Lb Db J).length;omega)];(try simp only[aB]);rw[f9,show bQ (fI Lb Db J) i=some ((fI Lb Db J).getD i 0) from getD_some 0 (by omega)];(try simp only[aB]);rw[kI (show i<ab (fI S b J) by show i<(fI S b J).length;omega)];(try simp only[aB]);rw[f9,show bQ (fI S b J) i=some ((fI S b J).getD i 0) from getD_some 0 (by omega)];(try simp only[aB,be]);rw[Uz (by omega) (by omega) (u k).1 P.1 (by omega),Uz (by omega) (by omega) (u k).1 W.1 (by omega),Uz (by omega) (by omega) (u k).1 N.1 (by omega),je]);rw[io];(try simp only[aB,be,eH]);rw[mJ k];(try simp only[aB,be,eH]);rw[VV k];(try simp only[aB,be,eH]);rw[VW k];(try simp only[aB,be,eH]);rw[zh k];(try simp only[aB,be,eH]);rw[Q k];(try simp only[aB,be,eH]);rw[t8 k];(try simp only[aB,be,eH]);rw[show aO 0 (ab (eP (fun n=>gz (e,g,f) T c n k) (aC b))) (ab (eP (fun n=>gz (e,g,f) T c n (k+1)) (aC b)))=some () from qj ((t _).trans (t _).symm)];(try simp only[aB,be,eH]);have Y:iw .i64 (aD (ab (aM a k))) 1=(a.length:Int) - 1:=(by rw[nl,V,mT];omega);rw[Y];refine Eq.trans (congrArg (fun o=>bK o _) (odo gJ k (fun i L=>((((aC a:Int) - (k:Int)),i),(e,g,f),(La,Da,A),(Lb,Db,d),([]:U),([]:U),([]:U),S,b,eP (fun n=>gz (e,g,f) T c n (k+1)) (aC b),a,fI La Da J,fI Lb Db J,fI S b J,L)) (fun L=>AI ((aC a:Int) - (k:Int),(e,g,f),(La,Da,A),(Lb,Db,d),([]:U),([]:U),([]:U),S,b,eP (fun n=>gz (e,g,f) T c n (k+1)) (aC b),a,fI La Da J,fI Lb Db J,fI S b J,L)) ?Y ?e2 dE)) ?e3;(case e3=>rw[io];(try simp only[aB,be]);rw[mT];rw[show(aC a:Int) - (k:Int) - 1=(aC a:Int) - ((k+1:Nat):Int) by omega];try rfl);(case e2=>intro L;dsimp only;rw[aW (by rfl)];try simp only[aB,be]);case Y=>intro i L m hL hg;have hd:=I1 gJ k m;rw[zw m] at hd;have Po:=D _ (eF m);have F:cN (i:Int) (ab L)=some i:=kI (by show i<L.length;omega);have g1:bQ L (av 0 i)=some (ef a k i):=(by rw[f9];exact hg);have g2:bQ (bB L (av 0 i) (bo .i64 (ef a k i) 1)) (av 0 i)=some (ef a k i+1):=(by rw[f9,d6];exact Ph hg);have C:cN (i:Int) (ab a)=some i:=kI m;have g3:bQ a (av 0 i)=some (a.getD i 0):=(by rw[f9];exact getD_some 0 m);have sl:∀v,ab (bB L (av 0 i) v)=ab L:=fun v=>(by show(bB L (av 0 i) v).length=L.length;simp[bB]);constructor;intro cF;dsimp only;rw[aX lc];simp only[F,C,g1,g2,g3,aB,be];rw[aX (dg cF)];simp only[be,aB,sl];rw[f9,d6];intro CW;dsimp only;rw[aX lc];simp only[F,C,g1,g2,g3,aB,be];rw[aW dQ];have sl2:∀v w,ab (bB (bB L (av 0 i) v) (av 0 i) w)=ab L:=fun v w=>(by show(bB (bB L (av 0 i) v) (av 0 i) w).length=L.length;simp[bB]);simp only[be,aB,sl2];rw[f9,d6,mT]);simp only[bK,If,iJ,aB]
def ov (La Lb:U):U:=(jL La Lb).filter fun v=> !(decide (v∈La)&&decide (v∈Lb))
theorem Og {S c D:U} (h:ly S c=true) (hl:D.length=S.length) (hd:∀x∈D,1<=x/\x<=8):ly S D=true:=by have a:=gH h;unfold ly;rw[zag,zag,decide_eq_true_eq,decide_eq_true_eq,decide_eq_true_eq];exact⟨a.1,hl.symm,fun j b=>⟨(a.2.2 j b).1,hd _ (eF (by omega)),(a.2.2 j b).2.2⟩⟩
theorem avH {r:Rg} {L D A:U} (hr:eG r=true) (hx:ly L D=true) (hp:aC D<=4096) (c:A.length=aC D*ax r) (a:∀x∈A,sd (dO r) x=true):gM r (L,D,A)=true:=by
 have b:=tC (D:=D) fun x h=>(qU hx x h).1;have d:=mq hr;have e:fg L D=(aC D:Int):=by rw[<-b];exact aj ⟨hx,by omega⟩
 unfold gM;rw[zag,zag,zag,decide_eq_true_eq,decide_eq_true_eq];exact⟨hr,by show 0<=fg L D;omega,by show(A.length:Int)=fg L D*lr r;rw[e,d.1,c];push_cast;rfl,zav.2 a⟩
theorem aa1 {p:Int->Prop} {g:Nat->U}:∀n,(∀i,i<n->∀x∈g i,p x)->∀x∈eP g n,p x
 |0,_,x,hx=>by cases hx
 |n+1,h,x,hx=>by rcases zaR.1 hx with q|q;exact aa1 n (fun i hi=>h i (by omega)) x q;exact h n (by omega) x q
theorem aoc {r:Rg} {x:U} (h:eV r x=true):∀v∈x,sd (dO r) v=true:=by unfold eV at h;rw[zag] at h;exact zav.1 h.2
theorem Hs {r:Rg} {L D A:U} {m:Int} {R:List U} (a:gM r (L,D,A)=true) (H:fJ D m R) {ch:U} (c:fE R ch): gM r (L,cf R ch,kc r A (jl D R ch) (aC (cf R ch)))=true/\∀j,j<aC (cf R ch)->n8 r (kc r A (jl D R ch) (aC (cf R ch))) j=n8 r A (jl D R ch j):=by obtain⟨hr,_,_,⟨mM,d⟩,hA,_,_,_,_⟩:=mg a;have B:=H.blk c;have hx:=(Gs a).1;have hl:=(gH hx).2.1;have b:∀j,eV r (n8 r A (jl D R ch j))=true:=fun j=>AH a (H.X3 c j);rw[aa2];refine⟨avH hr (Og hx (by rw[B.bl,hl]) B.b8) (zae B.pD d) (vQ fun i _=>jv (b i)) (aa1 _ fun i _=>aoc (b i)),fun j e=>?_⟩;exact Nq (fun i _=>jv (b i)) e
structure BP (r:Rg) (La Da A:U) (Ra:List U) (Lb Db B:U) (Rb:List U) (m:Int):Prop where
 ca:oO r (La,Da,A) (m,Ra)=true
 cb:oO r (Lb,Db,B) (m,Rb)=true
 o:∀i,i<La.length->qL La Da Ra Lb Db Rb m i
section
variable {r:Rg} {La Da A:U} {Ra:List U} {Lb Db B:U} {Rb:List U} {m:Int}
theorem BP.ta (H:BP r La Da A Ra Lb Db B Rb m):gM r (La,Da,A)=true:=(of_decide_eq_true H.ca).1
theorem BP.tb (H:BP r La Da A Ra Lb Db B Rb m):gM r (Lb,Db,B)=true:=(of_decide_eq_true H.cb).1
theorem BP.ka (H:BP r La Da A Ra Lb Db B Rb m):mY ((La,Da,A),(m,Ra))=true:=(of_decide_eq_true H.ca).2.1
theorem BP.kb (H:BP r La Da A Ra Lb Db B Rb m):mY ((Lb,Db,B),(m,Rb))=true:=(of_decide_eq_true H.cb).2.1
theorem BP.two (H:BP r La Da A Ra Lb Db B Rb m):gX La Da Lb Db:=by have xa:=Gs H.ta;have xb:=Gs H.tb;have ta:=mg H.ta;have tb:=mg H.tb;refine⟨xa.1,xb.1,ta.2.2.2.1.2,tb.2.2.2.1.2,fun v a b=>?_⟩;have:=H.o _ (ff a);unfold qL at this;rw[jA a] at this;exact(this b).1
theorem BP.p (H:BP r La Da A Ra Lb Db B Rb m):fK La Da Ra Lb Db Rb m:=by have xa:=(Gs H.ta).1;have xb:=(Gs H.tb).1;refine⟨EI H.ka,EI H.kb,tQ xa,tQ xb,(gH xa).2.1,(gH xb).2.1,fun v a b=>?_⟩;have:=H.o _ (ff a);unfold qL at this;rw[jA a] at this;exact this b
section
variable {x y:U}
theorem BP.Sc (H:BP r La Da A Ra Lb Db B Rb m) (hx:fE Ra x) (hy:fE Rb y) (hm:lF La Lb m x y):gX La (cf Ra x) Lb (cf Rb y):=by have P:=H.p;have a:=P.HA.blk hx;have b:=P.HB.blk hy;have T:=H.two;refine⟨Og T.xa (by rw[a.bl,P.la]) a.b8,Og T.xb (by rw[b.bl,P.lb]) b.b8,zae a.pD T.pa,zae b.pD T.pb,fun v d c=>?_⟩;have e:=(P.XI (y:=y) hx).2;have f:=(P.XJ hx hy hm).2;rw[<-e,<-f,jH (ff d),jH (ff c),jA d,jA c]
theorem BP.f8 (H:BP r La Da A Ra Lb Db B Rb m) (hx:fE Ra x) (hy:fE Rb y) (hm:lF La Lb m x y) {v:Int} (c:v∈jL La Lb):1<=fL (ft La Ra Lb Rb x y) v/\fL (ft La Ra Lb Rb x y) v<=jd La Da Lb Db v:=by have P:=H.p;have h1:=P.la;have h2:=P.lb;have h3:=P.HA.rl;have h4:=P.HB.rl;have N:=P.jn hx hy hm;have:=N.p v c;unfold fL;refine⟨by omega,?_⟩;unfold ft;by_cases a:v∈La;rw[aj a,P.Dp a];have:=Kh (Ra.getD (bh La v) []) (x.getD (bh La v) 0);have:=P.HA.row (bh La v) (by have:=ff a;omega);omega;have b:=(x4 c).resolve_left a;rw[ak a,P.I5 b];have:=Kh (Rb.getD (bh Lb v) []) (y.getD (bh Lb v) 0);have:=P.HB.row (bh Lb v) (by have:=ff b;omega);omega
theorem Ym {f g:Int->Int}:∀{l:U},(∀v∈l,f v<=g v)->aC (l.map f)<=aC (l.map g)
 |[],_=>zac _
 |v::l,h=>by have:=h v (by simp);simp only[zaJ,aC];exact IS (by omega) (Ym fun w a=>h w (by simp[a]))
theorem W4 {S:U} (H:BP r La Da A Ra Lb Db B Rb m) (hx:fE Ra x) (hy:fE Rb y) (hm:lF La Lb m x y) (c:∀v∈S,v∈jL La Lb):S.map (jd La (cf Ra x) Lb (cf Rb y))=S.map (fL (ft La Ra Lb Rb x y)):=by refine zaB fun v a=>?_;have e:=H.p.dJ hx hy hm;have b:=ff (c v a);have:=congrArg (fun l=>l.getD (bh (jL La Lb) v) 0) e;simp only[cq] at this;rw[jH b,jH b,jA (c v a)] at this;exact this
theorem BP.aA6 (H:BP r La Da A Ra Lb Db B Rb m) (hx:fE Ra x) (hy:fE Rb y) (hm:lF La Lb m x y) (j:Nat): nV r La (cf Ra x) (kc r A (jl Da Ra x) (aC (cf Ra x))) Lb (cf Rb y) (kc r B (jl Db Rb y) (aC (cf Rb y))) j=nV r La Da A Lb Db B (rP (jL La Lb) (cq La Da Lb Db) (ft La Ra Lb Rb x y) j):=by have P:=H.p;have N:=P.jn hx hy hm;have T:=H.Sc hx hy hm;have e:=N.off P.na xZ P.la j;have c:=N.off P.nb Dn P.lb j;rw[(P.XI hx).1,(P.XI hx).2] at e;rw[(P.XJ hx hy hm).1,(P.XJ hx hy hm).2] at c;have d:=P.dJ hx hy hm;have b:=T.wZ.lt j;have a:=T.w4.lt j;unfold nV Gu;dsimp only;rw[e,c];rw[d] at b a⊢;rw[(Hs H.ta P.HA hx).2 _ b,(Hs H.tb P.HB hy).2 _ a];rfl
end
def tV (r:Rg) (La Da A Lb Db B S:U) (l:List Nat):U:=
 eP (fun n=>SL r (sY r (nV r La Da A Lb Db B) (pn La Da Lb Db S (S.map (jd La Da Lb Db))) n) l) (aC (S.map (jd La Da Lb Db)))
theorem BP.anS (H:BP r La Da A Ra Lb Db B Rb m) (S:U):(S,S.map (jd La Da Lb Db),tV r La Da A Lb Db B S (lv La Da Ra Lb Db Rb m (gm m Ra) (gm m Rb)))=yV r La Da A Lb Db B S:=by unfold yV tV;rw[KP fun n _=>H.p.sum H.ca H.cb _ n]
def PL (La Da:U) (Ra:List U) (Lb Db:U) (Rb:List U) (m:Int) (X Y:List U) (i j:Nat):List Nat:=
 lv La Da Ra Lb Db Rb m (X.take i) Y++u0 La Da Ra Lb Db Rb m (Y.take j) (X.getD i [])
theorem aar (X Y:List U):PL La Da Ra Lb Db Rb m X Y 0 0=[]:=by simp[PL,lv,u0]
theorem R8 {α:Type} {l:List α} {i:Nat} {d:α} (h:i<l.length):l.take (i+1)=l.take i++[l.getD i d]:=by rw[zaY,getD_some d h];rfl
theorem Oa {X Y:List U} {i j:Nat} (a:j<Y.length):PL La Da Ra Lb Db Rb m X Y i (j+1)=PL La Da Ra Lb Db Rb m X Y i j++rT La Da Ra Lb Db Rb m (X.getD i []) (Y.getD j []):=by unfold PL u0;rw[R8 (d:=[]) a,zaz,zaa];simp
theorem aat {X Y:List U} {i:Nat} (a:i<X.length):PL La Da Ra Lb Db Rb m X Y i Y.length=PL La Da Ra Lb Db Rb m X Y (i+1) 0:=by unfold PL;rw[OF,R8 (d:=[]) a];unfold lv;rw[zaz];simp[u0]
theorem aas (X Y:List U):PL La Da Ra Lb Db Rb m X Y X.length 0=lv La Da Ra Lb Db Rb m X Y:=by unfold PL;rw[OF];simp[u0]
theorem aau {X Y:List U} {i j:Nat} (c:i<X.length):(PL La Da Ra Lb Db Rb m X Y i j).length<=(lv La Da Ra Lb Db Rb m X Y).length:=by have e:lv La Da Ra Lb Db Rb m X Y=lv La Da Ra Lb Db Rb m (X.take (i+1)) Y++lv La Da Ra Lb Db Rb m (X.drop (i+1)) Y:=(by unfold lv;rw[<-zaz,zaF]);rw[e,R8 (d:=[]) c,AN];have b:lv La Da Ra Lb Db Rb m (X.take i++[X.getD i []]) Y=lv La Da Ra Lb Db Rb m (X.take i) Y++u0 La Da Ra Lb Db Rb m Y (X.getD i []):=(by unfold lv;rw[zaz];simp);have a:u0 La Da Ra Lb Db Rb m Y (X.getD i [])=u0 La Da Ra Lb Db Rb m (Y.take j) (X.getD i [])++u0 La Da Ra Lb Db Rb m (Y.drop j) (X.getD i []):=(by unfold u0;rw[<-zaz,zaF]);unfold PL;rw[b,a];simp only[AN];omega
theorem aqD {x y:U} (hm:lF La Lb m x y):(rT La Da Ra Lb Db Rb m x y).length=aC ((jL La Lb).map (fL (ft La Ra Lb Rb x y))):=by unfold rT;rw[aj hm,wt,zar]
theorem adS {x y:U} (hm:¬lF La Lb m x y):rT La Da Ra Lb Db Rb m x y=[]:=ak hm
theorem BP.acc (H:BP r La Da A Ra Lb Db B Rb m) {x y:U} (hx:fE Ra x) (hy:fE Rb y) (hm:lF La Lb m x y) {S:U} (d:∀v∈S,v∈jL La Lb) (nS:S.Nodup) (l:List Nat):
  let f:=ft La Ra Lb Rb x y;let N:=aC (S.map (fL f));let off:=fun n=>rF (S.map (jd La Da Lb Db)) (qT (S.map f) (aM (S.map (fL f)) n));let t:=fun n=>gz r (nV r La (cf Ra x) (kc r A (jl Da Ra x) (aC (cf Ra x))) Lb (cf Rb y) (kc r B (jl Db Rb y) (aC (cf Rb y)))) (pn La (cf Ra x) Lb (cf Rb y) S (S.map (jd La (cf Ra x) Lb (cf Rb y)))) n (aC (cq La (cf Ra x) Lb (cf Rb y)));let h:=fun n=>SL r (sY r (nV r La Da A Lb Db B) (pn La Da Lb Db S (S.map (jd La Da Lb Db))) n) l
  (∀n,n<N->off n<aC (S.map (jd La Da Lb Db)))/\(∀n,eV r (t n)=true)/\(∀n,eV r (h n)=true)/\
  eP (qS r h t off N) (aC (S.map (jd La Da Lb Db)))=tV r La Da A Lb Db B S (l++rT La Da Ra Lb Db Rb m x y):=by
 intro f N off t h;have P:=H.p;have J:=P.jn hx hy hm;have hr:=(mg H.ta).1;have T:=H.Sc hx hy hm;have W:=(Hs H.ta P.HA hx).1;have ty:=(Hs H.tb P.HB hy).1;have K:=Gv P.wZ P.w4 H.ta H.tb;have s:=Gv T.wZ T.w4 W ty;have tok:∀n,eV r (t n)=true:=fun n=>HK hr s _ _ _;have M:∀n,eV r (h n)=true:=fun n=>yK hr (Ix hr K _ n) l;have G:Jn S (S.map (jd La Da Lb Db)) f:=by
  refine⟨nS,by rw[wt],⟨?_,fun q g=>?_⟩,fun v c=>J.p v (d v c),fun v c=>J.nd v (d v c),fun i a w Q=>?_⟩
  ·have:=zau nS (l₂:=jL La Lb) d;have:=P.lJ;rw[wt];omega
  ·obtain⟨v,c,rfl⟩:=IT.1 g;have:=P.dv (d v c);omega
  ·rw[jH a];have c:=d _ (eF a);have O:=ff c;have:=J.b _ O w (by rw[jA c];exact Q);rw[show(cq La Da Lb Db).getD (bh (jL La Lb) (S.getD i 0)) 0=jd La Da Lb Db (S.getD i 0) by unfold cq;rw[jH O,jA c]] at this;exact this
 have C:∀n,off n=rP S (S.map (jd La Da Lb Db)) f n:=fun n=>by
  show rF _ _=rF _ _;congr 1;refine v7 (by rw[NH];unfold qT;rw[fT,FC]) fun i a=>?_;unfold qT at a;rw[fT,FC] at a;rw[G.w _ a];unfold qT;rw[ai5 _ (by rw[FC];exact a)];rw[show(S.map f).getD i []=f (S.getD i 0) by rw[co,Pe,getD_some 0 a];rfl]
 have I:∀n,n<N->off n<aC (S.map (jd La Da Lb Db)):=fun n hn=>by rw[C];exact G.lt n
 have u:∀i j,i<N->j<N->off i=off j->i=j:=fun i j a R e=>G.inj a R (by rw[<-C,<-C,e]);refine⟨I,tok,M,?_⟩;unfold tV;refine KP fun n hn=>?_;have V:=Ix hr K (pn La Da Lb Db S (S.map (jd La Da Lb Db))) n;rw[TK hr V];have E:rT La Da Ra Lb Db Rb m x y=(zay (aC ((jL La Lb).map (fL f)))).map (rP (jL La Lb) (cq La Da Lb Db) f):=aj hm;rw[E,aay];have z:∀j,pn La Da Lb Db S (S.map (jd La Da Lb Db)) (rP (jL La Lb) (cq La Da Lb Db) f j)=off (pn La (cf Ra x) Lb (cf Rb y) S (S.map (jd La (cf Ra x) Lb (cf Rb y))) j):=fun j=>by
  have:=J.off (L:=S) (D:=S.map (jd La Da Lb Db)) nS d (by rw[wt]) j;unfold pn;rw[this,W4 H hx hy hm d,P.dJ hx hy hm]
 have o:∀j,pn La (cf Ra x) Lb (cf Rb y) S (S.map (jd La (cf Ra x) Lb (cf Rb y))) j<N:=fun j=>by
  unfold pn;have X:Sub S (S.map (jd La (cf Ra x) Lb (cf Rb y))) (jL La Lb) (cq La (cf Ra x) Lb (cf Rb y)):=by
   refine⟨nS,P.nJ,d,(wt ..).symm,vm ..,fun i a=>?_,fun q g=>(T.d8 q g).1⟩;have c:=d _ (eF a);unfold cq;rw[jH (ff c),jA c,jH a]
  have:=X.lt j;rw[W4 H hx hy hm d] at this⊢;exact this
 by_cases F:∃q,q<N/\off q=n
 ·obtain⟨q,g,rfl⟩:=F;rw[aaB u N (zac _) g];congr 1;show gz r _ _ q _=_;rw[K3 hr s,P.dJ hx hy hm];refine aaw _ fun j _=>?_;unfold sY;rw[z j,H.aA6 hx hy hm j];exact xY ⟨fun e=>by rw[e],fun e=>u _ _ (o j) g e⟩ _ _
 ·rw[TO N fun q g e=>F ⟨q,g,e⟩];have:SL r (fun k=>sY r (nV r La Da A Lb Db B) (pn La Da Lb Db S (S.map (jd La Da Lb Db))) n (rP (jL La Lb) (cq La Da Lb Db) f k)) (zay (aC ((jL La Lb).map (fL f))))=eX r:=aaz hr _ fun j _=>by
   unfold sY;rw[ak];intro e;rw[z j] at e;exact F ⟨_,o j,e⟩
  rw[this,add_zero hr (M n)]
end
def Kr (NN:Nat):((Int×(Int×Int))×((U×(U×U))×((Int×(List U))×((U×(U×U))×(Int×(List U))))))->(Option ((U×(U×U))×(Int×Bool))):=
 (fun(((i0,i1,i2),(l3,l4,l5),(i6,l7),(l8,l9,bS),dX,cB):((Int×(Int×Int))×((U×(U×U))×((Int×(List U))×((U×(U×U))×(Int×(List U)))))))=>
 (yu ((i0,i1,i2),(l3,l4,l5),i6,l7)).ae (fun As=>
 au (df As)
 (some ((([]:U),([]:U),([]:U)),(0:Int),false))
 ((yu ((i0,i1,i2),(l8,l9,bS),dX,cB)).ae (fun ED=>
 au (df ED)
 (some ((([]:U),([]:U),([]:U)),(0:Int),false))
 (au (fy i6 dX)
 (some ((([]:U),([]:U),([]:U)),(0:Int),false))
 ((GP ((l3,l4,l5),(i6,l7),(l8,l9,bS),dX,cB)).ae (fun TX=>
 au (df TX)
 (some ((([]:U),([]:U),([]:U)),(0:Int),false))
 ((Er (l3,l8)).ae (fun dm=>
 bK ((aO 0 0 (ab (([]:U)))).ae (fun _=>
 ah dm (
 (aO 0 0 (ab (([]:U)))).ae (fun _=>
 (aO 0 0 (ab (([]:U)))).ae (fun _=>
 (aO 0 0 (ab (([]:U)))).ae (fun _=>
 cj NN (fun(((gA,g9),(kV,fw,fP),(dP,iB,dq),(oe,gj),(gB,ii,gK),(kl,lC),hH,iP,lD,gp,iL):((Int×Int)×((Int×(Int×Int))×((U×(U×U))×((Int×(List U))×((U×(U×U))×((Int×(List U))×(U×(U×(U×(U×U)))))))))))=>
 au (bO g9 gA)
 ((cN g9 (ab iL)).ae (fun BB=>
 (bQ iL (av 0 BB)).ae (fun kZ=>
 (rK ((dP,iB,dq),kZ)).ae (fun ud=>
 (rK ((gB,ii,gK),kZ)).ae (fun xT=>
 au (FT (fR (0:Int) ud) (fR (0:Int) xT))
 (ah gp (
 (bc ((kZ::([]:U))) 0 1).ae (fun o7=>
 (iN (av (ab gp) (ab o7)) 8).ae (fun _=>
 (aO 0 (av (ab gp) (ab o7)) (ab (dn gp o7))).ae (fun _=>
 ah iL (
 ah hH (
 ah iP (
 ah lD (
 some (AI ((gA,bo .i64 g9 1),(kV,fw,fP),(dP,iB,dq),(oe,gj),(gB,ii,gK),(kl,lC),hH,iP,lD,dn gp o7,iL)))))))))))
 (ah gp (
 ah iL (
 ah hH (
 ah iP (
 ah lD (
 some (AI ((gA,bo .i64 g9 1),(kV,fw,fP),(dP,iB,dq),(oe,gj),(gB,ii,gK),(kl,lC),hH,iP,lD,gp,iL)))))))))))))
 ((ah gp (
 ah hH (
 ah iP (
 ah lD (
 some (AI ((kV,fw,fP),(dP,iB,dq),(oe,gj),(gB,ii,gK),(kl,lC),hH,iP,lD,gp))))))).ae (fun nf=>
 some (BY nf))))
 ((aD (ab dm),(0:Int)),(i0,i1,i2),(l3,l4,l5),(i6,l7),(l8,l9,bS),(dX,cB),([]:U),([]:U),([]:U),([]:U),dm)))))))
 (fun((pQ,xU,kM),(mP,ja,jO),(tg,j0),(su,ng,qC),(vj,nI),iu,nK,nM,oC)=>
 (bc oC 0 (ab oC)).ae (fun rB=>
 (GG ((pQ,xU,kM),(mP,ja,jO),(su,ng,qC),rB)).ae (fun((nN,mQ,o9),b64)=>
 au (df b64)
 (some ((([]:U),([]:U),([]:U)),(0:Int),false))
 ((Ca ((mP,ja,jO),tg,j0)).ae (fun oD=>
 (Ca ((su,ng,qC),vj,nI)).ae (fun nO=>
 bK (ah nO (
 ah oD (
 ah iu (
 ah nK (
 ah nM (
 ah nN (
 ah mQ (
 ah o9 (
 cj NN (fun(((rr,zu,IV),(Mb,pf),yb,rD,sx,sA,nP,nh,mb,lE):((Int×(Int×Int))×((Int×(List U))×(U×(U×(U×(U×(U×(U×((List (U×(U×(U×U))))×(List (U×(U×(U×U))))))))))))))=>
 au (bO IV zu)
 (bK ((cN IV (ab lE)).ae (fun k80=>
 (bQ lE (av 0 k80)).ae (fun(ni,uq,yd,tp)=>
 ah mb (
 ah lE (
 ah mb (
 ah yb (
 ah rD (
 ah sx (
 ah sA (
 ah nP (
 ah nh (
 cj NN (fun(((Fx,Md,Fy,IY,Bu),(Fz,qF),(nj,km,kA,qG),uu,tr,pV,nQ,th,pR,mN,nG):((Int×(Int×(Int×(Int×Int))))×((Int×(List U))×((U×(U×(U×U)))×(U×(U×(U×(U×(U×(U×((List (U×(U×(U×U))))×(List (U×(U×(U×U)))))))))))))))=>
 au (bO Bu IY)
 ((cN Bu (ab mN)).ae (fun asJ=>
 (bQ mN (av 0 asJ)).ae (fun(BD,qw,oZ,tj)=>
 (GJ ((nj,km,kA,qG),(BD,qw,oZ,tj),Fz)).ae (fun amY=>
 au (amY)
 ((GH ((km,kA,qG),qw,oZ,tj)).ae (fun WK=>
 ah mN (
 ah nG (
 ah mN (
 ah uu (
 ah tr (
 ah pV (
 ah nQ (
 ah th (
 ah pR (
 some (AI ((bo .i64 Fx WK,Md,Fy,IY,bo .i64 Bu 1),(Fz,qF),(nj,km,kA,qG),uu,tr,pV,nQ,th,pR,mN,nG)))))))))))))
 (ah mN (
 ah nG (
 ah mN (
 ah uu (
 ah tr (
 ah pV (
 ah nQ (
 ah th (
 ah pR (
 some (AI ((Fx,Md,Fy,IY,bo .i64 Bu 1),(Fz,qF),(nj,km,kA,qG),uu,tr,pV,nQ,th,pR,mN,nG))))))))))))))))
 ((ah mN (
 ah nG (
 ah uu (
 ah tr (
 ah pV (
 ah nQ (
 ah th (
 ah pR (
 some (AI ((Fy,Fx,Md),(Fz,qF),uu,tr,pV,nQ,th,pR,mN,nG))))))))))).ae (fun wA=>
 some (BY wA))))
 ((rr,zu,IV,aD (ab mb),(0:Int)),(Mb,pf),(ni,uq,yd,tp),yb,rD,sx,sA,nP,nh,mb,lE)))))))))))))
 (fun((Fu,LY,IK),(LZ,zH),zI,ry,si,uo,Ds,rz,rA,vn)=>
 ah rA (
 ah vn (
 ah zI (
 ah ry (
 ah si (
 ah uo (
 ah Ds (
 ah rz (
 some (AI ((LY,IK,bo .i64 Fu 1),(LZ,zH),zI,ry,si,uo,Ds,rz,rA,vn))))))))))))
 ((ah yb (
 ah rD (
 ah sx (
 ah sA (
 ah nP (
 ah nh (
 some (AI (rr,yb,rD,sx,sA,nP,nh))))))))).ae (fun BF=>
 some (BY BF))))
 (((0:Int),aD (ab oD),(0:Int)),(tg,j0),iu,nK,nM,nN,mQ,o9,nO,oD))))))))))
 (fun(L6,ox,tm,sj,sk,vo,x9)=>
 (ed sk (ab sk)).ae (fun BG=>
 (ed vo (ab vo)).ae (fun FG=>
 (ed x9 (ab x9)).ae (fun FH=>
 some ((BG,FG,FH),L6,true))))))))))))))))))))
def yt:((Int×(Int×Int))×((U×(U×U))×((Int×(List U))×((U×(U×U))×(Int×(List U))))))->(Option ((U×(U×U))×(Int×Bool))):=Kr aN
theorem aoW (x:((Int×(Int×Int))×((U×(U×U))×((Int×(List U))×((U×(U×U))×(Int×(List U))))))) (z:((U×(U×U))×(Int×Bool))) (h:yt x=some z):Kr aN x=some z:=h
theorem auu (La Lb:U):(ov La Lb).length<=La.length+Lb.length:=zae (Pd _ _) (P4 La Lb)
theorem afc {La Lb keep:U} (h:∀v∈jL La Lb,(v∈keep↔¬(v∈La/\v∈Lb))):I6 La Lb keep=ov La Lb:=by unfold I6 ov;refine List.filter_congr fun v c=>?_;have:=h v c;by_cases a:v∈La;by_cases b:v∈Lb;rw[decide_eq_true a,decide_eq_true b,decide_eq_false (fun q=>(this.1 q) ⟨a,b⟩)];rfl;rw[decide_eq_true a,decide_eq_false b,decide_eq_true (this.2 fun q=>b q.2)];rfl;rw[decide_eq_false a,decide_eq_true (this.2 fun q=>a q.1)];rfl
theorem auA (La Lb:U):I6 La Lb (ov La Lb)=ov La Lb:=afc fun v c=>by unfold ov;rw[zaj];constructor;rintro⟨_,h⟩ ⟨a,b⟩;rw[decide_eq_true a,decide_eq_true b] at h;exact absurd h (by decide);intro h;refine⟨c,?_⟩;by_cases a:v∈La;rw[decide_eq_false (fun b=>h ⟨a,b⟩),Bool.and_false];rfl;rw[decide_eq_false a,zbw];rfl
def EF (r:Rg) (La Da A:U) (Ra:List U) (Lb Db B:U) (Rb:List U) (m:Int):T3×Int×Bool:=
 if(AB r La Da A Lb Db B (ov La Lb)).2=true then((AB r La Da A Lb Db B (ov La Lb)).1,((lv La Da Ra Lb Db Rb m (gm m Ra) (gm m Rb)).length:Int),true) else(([],[],[]),0,false)
theorem axo (a b:Bool):FT a b=(a !=b):=by cases a<;>cases b<;>rfl
theorem ack (l:U) (v:Int):fR 0 (jU l v)=decide (v∈l):=by by_cases h:v∈l;rw[xB h,decide_eq_true h,lc];rw[yZ h,decide_eq_false h];rfl
theorem aa7 {L D A:U} {m:Int} {R:List U} (H:fJ D m R) (hl:L.length=D.length):Hw ((L,D,A),m,R):=by
 have h1:=H.cB;have h2:=H.rl;refine⟨⟨by show L.length<=_;omega,by show D.length<=_;omega⟩,by show R.length<=_;omega,fun l hm=>?_⟩;obtain⟨i,a,rfl⟩:=zah.1 hm;have a:i<R.length:=a;have e:R[i]=R.getD i []:=by rw[co,By a];rfl
 have:=H.row i (by omega);have:=H.re (i:=i) (by omega);show(R[i]).length<=_;rw[e];omega
section
variable {r:Rg} {La Da A:U} {Ra:List U} {Lb Db B:U} {Rb:List U} {m:Int}
theorem BP.cd (H:BP r La Da A Ra Lb Db B Rb m):yW (r,(La,Da,A),(m,Ra))/\yW (r,(Lb,Db,B),(m,Rb)):=by
 have P:=H.p;obtain⟨d,⟨Oc,ad⟩,hta,⟨ap1,e⟩,c,aG,aT⟩:=mg H.ta;obtain⟨PG,⟨Ar,bd⟩,Bo,⟨bp1,b⟩,f,bG,bT⟩:=mg H.tb;have a:=mq d;have hAl:A.length<=24576:=by rw[c];exact zae (IS e a.2.2) (by omega)
 have hBl:B.length<=24576:=by rw[f];exact zae (IS b a.2.2) (by omega)
 have l1:=P.la;have l2:=P.lb;exact⟨⟨⟨by show La.length<=_;omega,by show Da.length<=_;omega,by show A.length<=_;omega⟩,aa7 P.HA P.la⟩,⟨by show Lb.length<=_;omega,by show Db.length<=_;omega,by show B.length<=_;omega⟩,aa7 P.HB P.lb⟩
theorem BP.pxy (H:BP r La Da A Ra Lb Db B Rb m) {x y:U} (hx:fE Ra x) (hy:fE Rb y) (hm:lF La Lb m x y):aC (cq La (cf Ra x) Lb (cf Rb y))=(rT La Da Ra Lb Db Rb m x y).length/\aC (cq La (cf Ra x) Lb (cf Rb y))<=aC (cq La Da Lb Db):=by rw[aqD hm,H.p.dJ hx hy hm];exact⟨rfl,Ym fun v a=>(H.f8 hx hy hm a).2⟩
theorem Pg {α β:Type} {l:List α} {f:α->β} {i:Nat} {d:α} (h:i<l.length):bQ (l.map f) i=some (f (l.getD i d)):=by show(l.map f)[i]? =_;rw[Pe,getD_some d h];rfl
set_option maxHeartbeats 4000000 in
theorem asl (H:BP r La Da A Ra Lb Db B Rb m):yt (r,(La,Da,A),(m,Ra),(Lb,Db,B),m,Rb)=some (EF r La Da A Ra Lb Db B Rb m):=by have P:=H.p;have T:=H.two;have hd:=H.cd;have l1:=P.la;have l2:=P.lb;have D:=P.lJ;have Oc:=P.HA.cB;have Ar:=P.HB.cB;obtain⟨G,F,E⟩:=r;simp only[yt,Kr,ah];generalize Fl:(G,F,E)=r at*;rw[show yu (r,(La,Da,A),m,Ra)=some (oO r (La,Da,A) (m,Ra)) from aj hd.1,H.ca];simp only[aB];rw[show df true=false from rfl,iU,show yu (r,(Lb,Db,B),m,Rb)=some (oO r (Lb,Db,B) (m,Rb)) from aj hd.2,H.cb];simp only[aB];rw[show df true=false from rfl,iU,aW (me rfl),aeZ A B m P.HA P.HB l1 l2,decide_eq_true H.o];simp only[aB];rw[show df true=false from rfl,iU,ae9 La Lb (by omega) (by omega)];simp only[aB,be];rw[show aO 0 0 (ab ([]:U))=some () from rfl];simp only[aB];obtain⟨J,u⟩:∃J,jL La Lb=J:=⟨_,rfl⟩;have w:ov La Lb=J.filter fun v=> !(decide (v∈La)&&decide (v∈Lb)):=(by rw[<-u];rfl);have x:∀v∈J,v∈La\/v∈Lb:=fun v k=>x4 (by rw[u];exact k);rw[u] at D⊢;rw[eR (fun i=>((aD (ab J),(i:Int)),(r.1,r.2.1,r.2.2),(La,Da,A),(m,Ra),(Lb,Db,B),(m,Rb),([]:U),([]:U),([]:U),(J.take i).filter (fun v=> !(decide (v∈La)&&decide (v∈Lb))),J)) (r:=AI ((r.1,r.2.1,r.2.2),(La,Da,A),(m,Ra),(Lb,Db,B),(m,Rb),[],[],[],ov La Lb)) J.length ?a1 ?a2 ?a3 dE];(case a3=>rw[<-Fl];rfl);(case a2=>dsimp only;rw[aW (iQ J),OF,w];try simp only[be,aB]);(case a1=>intro i a;dsimp only;have hlen:=Lg (P:=fun v=> !(decide (v∈La)&&decide (v∈Lb))) J i;rw[aX (dg (by rw[nl];omega)),kI (show i<ab J from a)];simp only[aB];rw[f9,show bQ J i=some (J.getD i 0) from gI a];simp only[aB];rw[show rK ((La,Da,A),J.getD i 0)=some (jU La (J.getD i 0)) from aj (by dsimp only;omega),show rK ((Lb,Db,B),J.getD i 0)=some (jU Lb (J.getD i 0)) from aj (by dsimp only;omega),H5 a,je];simp only[aB,be];rw[ack,ack,axo];have k:=x _ (eF a);by_cases b:J.getD i 0∈La/\J.getD i 0∈Lb;rw[decide_eq_true b.1,decide_eq_true b.2];rw[ak (by decide),aW (by rfl)];have e:(decide (J.getD i 0∈La)!=decide (J.getD i 0∈Lb))=true:=(by rcases k with h|h;rw[decide_eq_true h,decide_eq_false fun q=>b ⟨h,q⟩];rfl;rw[decide_eq_true h,decide_eq_false fun q=>b ⟨q,h⟩];rfl);have y:(!(decide (J.getD i 0∈La)&&decide (J.getD i 0∈Lb)))=true:=(by rcases k with h|h;rw[decide_eq_true h,decide_eq_false fun q=>b ⟨h,q⟩];rfl;rw[decide_eq_true h,decide_eq_false fun q=>b ⟨q,h⟩];rfl);rw[e,y,lN,aj rfl,Ek];simp only[aB];rw[kv (by simp only[av,ab,zap,zat,eD];omega)];simp only[aB];rw[oP];rfl);rw[io];simp only[eH,aB];rw[show((r.1,r.2.1,r.2.2):Rg)=r from rfl,anL H.ta H.tb T (by have:=auu La Lb;omega) (auA La Lb)];unfold EF;obtain⟨t,n⟩:∃t,AB r La Da A Lb Db B (ov La Lb)=t:=⟨_,rfl⟩;rw[n];obtain⟨⟨l,s,d⟩,tb⟩:=t;simp only[aB];cases tb with|false=>rw[ak (by decide),show df false=true from rfl,lN]|true=>have hP:aC (cq La Da Lb Db)<=65536:=(by unfold AB at n;split at n;rename_i h;exact h.1;cases n);rw[aj rfl,show df true=false from rfl,iU];have K:=P.aam;obtain⟨X,f⟩:∃X,gm m Ra=X:=⟨_,rfl⟩;obtain⟨Y,g⟩:∃Y,gm m Rb=Y:=⟨_,rfl⟩;have hXl:X.length<=4096:=(by rw[<-f];exact KS P.HA);have hYl:Y.length<=4096:=(by rw[<-g];exact KS P.HB);have z:∀i,i<X.length->fE Ra (X.getD i []):=fun i a=>xw P.HA (by rw[f,co,By a];exact za4 a);have I:∀i,i<Y.length->fE Rb (Y.getD i []):=fun i a=>xw P.HB (by rw[g,co,By a];exact za4 a);rw[f,g] at K;rw[show Ca ((La,Da,A),m,Ra)=some ((gm m Ra).map (nR La Ra)) from aj H.ka,show Ca ((Lb,Db,B),m,Rb)=some ((gm m Rb).map (nR Lb Rb)) from aj H.kb,f,g];simp only[aB,be];(try simp only[be,aB,show aO 0 0 (ab ([]:U))=some () from rfl]);rw[eR (fun i=>((((PL La Da Ra Lb Db Rb m X Y i 0).length:Int),aD (ab (X.map (nR La Ra))),(i:Int)),(m,Ra),([]:U),([]:U),([]:U),l,s,d,Y.map (nR Lb Rb),X.map (nR La Ra))) (r:=AI (((lv La Da Ra Lb Db Rb m X Y).length:Int),[],[],[],l,s,d)) X.length ?b1 ?b2 ?b3 dE];(case b3=>rw[aar];rfl);(case b2=>dsimp only;rw[aW (dQ (by rw[nl,wt];omega)),aas];try simp only[be,aB,show aO 0 0 (ab ([]:U))=some () from rfl]);(case b1=>intro i a;have hx:=z i a;dsimp only;rw[aX (dg (by rw[nl,wt];omega)),kI (show i<ab (X.map (nR La Ra)) by show i<(X.map (nR La Ra)).length;rw[wt];exact a)];simp only[aB];rw[f9,show bQ (X.map (nR La Ra)) i=some (X.getD i [],La,cf Ra (X.getD i []),[]) from Pg a];simp only[aB,be,show aO 0 0 (ab ([]:U))=some () from rfl];rw[eR (fun j=>((((PL La Da Ra Lb Db Rb m X Y i j).length:Int),aD (ab (X.map (nR La Ra))),(i:Int),aD (ab (Y.map (nR Lb Rb))),(j:Int)),(m,Ra),(X.getD i [],La,cf Ra (X.getD i []),([]:U)),([]:U),([]:U),([]:U),l,s,d,Y.map (nR Lb Rb),X.map (nR La Ra))) (r:=AI (((i:Int),((PL La Da Ra Lb Db Rb m X Y (i+1) 0).length:Int),aD (ab (X.map (nR La Ra)))),(m,Ra),[],[],[],l,s,d,Y.map (nR Lb Rb),X.map (nR La Ra))) Y.length ?c1 ?c2 ?c3 dE];(case c3=>rfl);(case c2=>dsimp only;rw[aW (dQ (by rw[nl,wt];omega)),aat a];try simp only[be,aB,show aO 0 0 (ab ([]:U))=some () from rfl]);(case c1=>intro j c;have hy:=I j c;have C:=aau (La:=La) (Da:=Da) (Ra:=Ra) (Lb:=Lb) (Db:=Db) (Rb:=Rb) (m:=m) (X:=X) (Y:=Y) (j:=j+1) a;rw[Oa c,AN] at C;dsimp only;rw[aX (dg (by rw[nl,wt];omega)),kI (show j<ab (Y.map (nR Lb Rb)) by show j<(Y.map (nR Lb Rb)).length;rw[wt];exact c)];simp only[aB];rw[f9,show bQ (Y.map (nR Lb Rb)) j=some (Y.getD j [],Lb,cf Rb (Y.getD j []),[]) from Pg c];simp only[aB];rw[asn [] [] (cf Ra (X.getD i [])) (cf Rb (Y.getD j [])) P.HA P.HB P.na l1 l2 hx hy,Oa c,je,AN];simp only[aB];by_cases hm:lF La Lb m (X.getD i []) (Y.getD j []);rw[decide_eq_true hm,lN,(H.Sc hx hy hm).asD];simp only[be,aB,show aO 0 0 (ab ([]:U))=some () from rfl];obtain⟨e1,y⟩:=H.pxy hx hy hm;rw[d6];rw[show((PL La Da Ra Lb Db Rb m X Y i j).length:Int)+min (aC (cq La (cf Ra (X.getD i [])) Lb (cf Rb (Y.getD j []))):Int) 65537=(((PL La Da Ra Lb Db Rb m X Y i j).length+(rT La Da Ra Lb Db Rb m (X.getD i []) (Y.getD j [])).length:Nat):Int) by omega];rw[decide_eq_false hm,iU,adS hm];(try simp only[be,aB,show aO 0 0 (ab ([]:U))=some () from rfl]);rfl);rw[io];(try simp only[be,aB,show aO 0 0 (ab ([]:U))=some () from rfl]);rw[je]);rw[io];(try simp only[iJ,aB]);try rfl
end
end Go.Am
