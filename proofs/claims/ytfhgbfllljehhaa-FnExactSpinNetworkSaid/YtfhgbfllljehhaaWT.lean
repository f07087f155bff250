/- M95, M96, M97, M98, M67, M26, M27, M28, M68, M99, M100, M101, M102, M103, M104, M111, M112, M113, M114, M115, M116, M117, MTC, L_SpinNetwork, Br1, Br2, WT: parts of the proof. No condition. -/
import Derived.Test.YtfhgbfllljehhaaM94
import GoSem.ClaimChange
import Derived.ChangeReads
import Derived.ReadAgain
import Derived.ChangeSame
import Derived.WalkKit
import Derived.ProofKit
import Derived.OpenShut
set_option linter.unusedVariables false
set_option linter.unusedSimpArgs false
set_option synthInstance.maxSize 1000
set_option synthInstance.maxHeartbeats 400000
open List renaming getD_eq_getElem?_getD->co,getElem?_eq_getElem->wt,length_map->AI,length_append->AT,length_take->IS,getElem?_map->IT,mem_of_getElem?->Pd,mem_map->zaa,getElem?_append_right->zab,append_assoc->zac,getElem?_append_left->zad,length_singleton->zae,getElem?_eq_none->zaf,eq_nil_of_length_eq_zero->zag,dropLast_concat_getLast->zah,all_eq_true->zai,length_cons->zaj,mem_append->zak,append_nil->zal,length_nil->zam,mem_filter->zan,mem_flatMap->zap,map_append->zaq,map_cons->zat,mem_range->zau,mem_singleton->zaw,length_set->zay,ext_getElem?->zaA,pairwise_flatMap->zaD,drop_append_of_le_length->zaE,take_length->zaF,getElem?_range->zaI,perm_ext_iff_of_nodup->zaJ,nodup_append->zaN,range->zaO,take_add_one->zaP,length_range->zaQ,filter_cons_of_pos->zaS,sum_cons->zaT,filter_cons_of_neg->zaU,length_drop->zaZ,getElem_mem->za0,drop_eq_nil_of_le->za2,take_of_length_le->za3,take_append_drop->za5,length_replicate->za6,mem_append_left->za8,mem_of_mem_take->za9,drop_drop->zba,getElem?_ofFn->zbc,pairwise_map->zbd,getElem?_set->zbf,map_nil->zbj,nodup_range->zbk,range_succ->zbl,all_append->zbp,nodup_nil->zbs,drop_zero->zbt,take_zero->zbu,mapM_cons->zbw,map_map->zbA,take->zbG,length->zbL,Nodup->zbM
open Sum renaming inl->AN,inr->GB
open Bool renaming and_eq_true->By,eq_false_iff->zbe,and_false->zbv
open Int renaming toNat_natCast->BY,natCast_mul->zar,natCast_nonneg->zaz,add_comm->zaK,lt_of_mul_lt_mul_left->zaL,emod_eq_of_lt->zaM,zero_emod->zaR,dvd_of_emod_eq_zero->zaV,add_zero->zbh,mul_zero->zbi,natCast_add->zbq,zero_mul->zbE
open Nat renaming mul_le_mul_right->If,mul_le_mul->IN,add_mul->OF,one_mul->Pe,add_sub_cancel_left->zax,mul_comm->zaB,zero_add->zaC,le_refl->zaH,div_eq_of_lt->zaX,mod_eq_of_lt->zaY,zero_le->zbb,sub_self->zbg,mul_add_div->zbm,mul_add_mod->zbn,min_eq_left->zbo,mul_assoc->zbx,le_trans->zbz,add_comm->zbB,and_zero->zbC,zero_and->zbD,add_zero->zbF,div_one->zbH,or_comm->zbI,or_zero->zbJ,mul_one->zbK
open List.Pairwise renaming imp_of_mem->zao,imp->zbN,nil->zbO
open Classical renaming choose_spec->zas,choose->za1
open Option renaming bind->zav,bind_eq_some_iff->zaW,map_eq_some_iff->za4
open Prod.mk renaming injEq->zaG
open Array renaming getElem?_toList->za7
open List.cons renaming injEq->zbr
open Prod renaming ext->zby
namespace Go.Am
def vt (of:U):Nat->U
 |0=>[]
 |n+1=>if(n:Int)∈of then vt of n++[(n:Int)] else vt of n
def gk (m:Int) (of:U):U:=vt of m.toNat
def rE (m:Int) (R:List U):List U:=R.foldl (fun K of=>K.flatMap fun l=>(gk m of).map fun x=>l++[x]) [[]]
def EV (l:U):Int:=sm l.length fun i=>l.getD i 0
def okS (m:Int) (l:U):Bool:=decide (EV l%m=0)
def oO (m:Int) (R:List U):List U:=(rE m R).filter (okS m)
def ano (R:List U):U:=R.map fun l=>(l.length:Int)
def VN (c:mW):Prop:=(1<=c.1/\c.1<=12)/\c.2.length<=12/\(∀l∈c.2,(1<=l.length/\l.length<=8)/\∀v∈l,0<=v/\v<c.1)/\bD (ano c.2)<=4096
instance (c:mW):Decidable (VN c):=by unfold VN;infer_instance
def fI (m:Int) (R:List U):U:=R.map fun of=>((gk m of).length:Int)
def tU (m:Int) (R:List U) (ix:U):U:=kU R.length fun i=>(gk m (R.getD i [])).getD (ix.getD i 0).toNat 0
theorem Ij (of:U) (x:Int):∀n,x∈vt of n↔∃i:Nat,i<n/\x=(i:Int)/\x∈of
 |0=>by simp[vt]
 |n+1=>by have b:=Ij of x n;simp only[vt];constructor;intro h;split at h;rename_i hm;rcases zak.1 h with h|h;obtain⟨i,d,a⟩:=b.1 h;exact⟨i,by omega,a⟩;have:=zaw.1 h;exact⟨n,by omega,this,by rw[this];exact hm⟩;obtain⟨i,d,a⟩:=b.1 h;exact⟨i,by omega,a⟩;rintro⟨i,d,a,c⟩;by_cases e:i=n;subst e;rw[ak (by rw[<-a];exact c),a];simp;have:=b.2 ⟨i,by omega,a,c⟩;split;exact za8 _ this;exact this
theorem V0 (n:Int):∀l:U,l.countP (fun v=>decide (v<n))+(if n∈l then 1 else 0)<=l.countP (fun v=>decide (v<n+1))
 |[]=>by simp
 |v::l=>by
  have d:=V0 n l;have mono:l.countP (fun v=>decide (v<n))<=l.countP (fun v=>decide (v<n+1)):=by
   have:0<=(if n∈l then 1 else 0):=zbb _
   omega
  simp only[List.countP_cons,List.mem_cons,decide_eq_true_eq];by_cases c:n=v
  ·subst c;rw[aq (show¬n<n by omega),ak (show n=n\/n∈l from .inl rfl),ak (show n<n+1 by omega)]
   omega
  ·by_cases b:n∈l
   ·rw[ak b] at d;rw[ak (show n=v\/n∈l from .inr b)]
    by_cases a:v<n
    ·rw[ak a,ak (show v<n+1 by omega)];omega
    ·rw[aq a];omega
   ·rw[aq (show¬(n=v\/n∈l) from fun h=>h.elim c b)]
    by_cases a:v<n
    ·rw[ak a,ak (show v<n+1 by omega)];omega
    ·rw[aq a];omega
theorem acF (of:U):∀n,(vt of n).length<=of.countP (fun v=>decide (v<(n:Int)))
 |0=>zbb _
 |n+1=>by have ih:=acF of n;have st:=V0 (n:Int) of;simp only[vt];split;rename_i h;rw[ak h] at st;rw[AT,zae];push_cast;omega;rename_i h;rw[aq h] at st;push_cast;omega
theorem aqo (m:Int) (of:U):(gk m of).length<=of.length:=zbz (acF of m.toNat) List.countP_le_length
theorem aqn {m:Int} {of:U} {x:Int} (h:x∈gk m of):x∈of:=by obtain⟨_,_,_,h⟩:=(Ij of x _).1 h;exact h
theorem aqp {m:Int} {of:U} (b:of≠[]) (a:∀v∈of,0<=v/\v<m):0<(gk m of).length:=by rcases of with _|⟨v,l⟩;exact absurd rfl b;have:=a v (by simp);exact List.length_pos_of_mem ((Ij (v::l) v _).2 ⟨v.toNat,by omega,by omega,by simp⟩)
theorem S9:∀(A:U) (q:Int),bD (A++[q])=bD A*q.toNat
 |[],q=>by simp[bD]
 |a::A,q=>by have:=S9 A q;simp only[List.cons_append,bD,this,zbx]
theorem ahE {P:U} {q:Int} {n i:Nat} (h:i<P.length):nV (P++[q]) n i=nV P (n/q.toNat) i:=by unfold nV iJ;rw[zaE (by omega),S9,zaB,<-Nat.div_div_eq_div_mul];rw[show(P++[q]).getD i 0=P.getD i 0 by rw[co,zad h,<-co]]
theorem ahD (P:U) (q:Int) (n:Nat):nV (P++[q]) n P.length=((n%q.toNat:Nat):Int):=by unfold nV iJ;rw[show(P++[q]).drop (P.length+1)=[] from za2 (by simp),show bD []=1 from rfl,zbH];rw[show(P++[q]).getD P.length 0=q by rw[co,zab (zaH _),zbg];rfl]
theorem Yk {α:Type} (q:Nat) (f:Nat->α):∀a,gL (a*q) f=(gL a fun x=>gL q fun y=>f (x*q+y)).flatten
 |0=>by simp[gL]
 |a+1=>by have b:=Yk q f a;have e:gL (a+1) (fun x=>gL q fun y=>f (x*q+y))=gL a (fun x=>gL q fun y=>f (x*q+y))++[gL q fun y=>f (a*q+y)]:=(by unfold gL;rw[zbl,zaq];rfl);rw[e,List.flatten_append,<-b,OF,Pe];unfold gL;rw[List.range_add,zaq,zbA];simp only[List.flatten_cons,List.flatten_nil,zal];rfl
theorem ajR {α β:Type} (g:α->β) (l:List α) (d:α):gL l.length (fun i=>g (l.getD i d))=l.map g:=by apply zaA;intro i;by_cases h:i<l.length;rw[Yi _ h,IT,getD_some d h];rfl;rw[zaf (by rw[Yj];omega),zaf (by rw[AI];omega)]
theorem OE (m:Int) (R:List U) (of:U):rE m (R++[of])=(rE m R).flatMap fun l=>(gk m of).map fun x=>l++[x]:=by unfold rE;rw[List.foldl_append];rfl
theorem aqi {m:Int} {R:List U} {of:U} {x y:Nat} (h:y<(gk m of).length): tU m (R++[of]) (cK (fI m (R++[of])) (x*(gk m of).length+y))=tU m R (cK (fI m R) x)++[(gk m of).getD y 0]:=by have a:fI m (R++[of])=fI m R++[((gk m of).length:Int)]:=(by simp[fI]);have hl:(fI m R).length=R.length:=(by simp[fI]);have c:(x*(gk m of).length+y)/(gk m of).length=x:=(by rw[zbB,Nat.add_mul_div_right _ _ (by omega),zaX h,zaC]);have hr:(x*(gk m of).length+y)%(gk m of).length=y:=(by rw[zbB,Nat.add_mul_mod_self_right,zaY h]);unfold tU;rw[AT,zae];rw[show kU (R.length+1) (fun i=>(gk m ((R++[of]).getD i [])).getD ((cK (fI m (R++[of])) (x*(gk m of).length+y)).getD i 0).toNat 0)=kU R.length (fun i=>(gk m ((R++[of]).getD i [])).getD ((cK (fI m (R++[of])) (x*(gk m of).length+y)).getD i 0).toNat 0)++[(gk m ((R++[of]).getD R.length [])).getD ((cK (fI m (R++[of])) (x*(gk m of).length+y)).getD R.length 0).toNat 0] from(aqV _ _).symm];congr 1;refine aqW fun i b=>?_;rw[yo (by rw[a,AT];omega),yo (by omega),a,ahE (by omega),BY,c];rw[show(R++[of]).getD i []=R.getD i [] by rw[co,zad b,<-co]];rw[yo (by rw[a,AT,zae];omega),a];rw[show R.length=(fI m R).length from hl.symm,ahD];simp only[BY,hr];rw[show(R++[of]).getD (fI m R).length []=of by rw[hl,co,zab (zaH _),zbg];rfl]
theorem Wv (m:Int):∀(k:Nat) (R:List U),R.length=k->gL (bD (fI m R)) (fun n=>tU m R (cK (fI m R) n))=rE m R
 |0,R,h=>by rw[zag h];rfl
 |k+1,R,h=>by obtain⟨R,of,rfl⟩:∃b of,R=b++[of]:=⟨R.dropLast,R.getLast (by intro e;rw[e] at h;simp at h),(zah _).symm⟩;have a:=Wv m k R (by simpa using h);have c:fI m (R++[of])=fI m R++[((gk m of).length:Int)]:=(by simp[fI]);rw[OE,<-a,show bD (fI m (R++[of]))=bD (fI m R)*(gk m of).length by rw[c,S9,BY],Yk,List.flatMap_def];congr 1;rw[show(gL (bD (fI m R)) fun n=>tU m R (cK (fI m R) n)).map (fun l=>(gk m of).map fun x=>l++[x])=gL (bD (fI m R)) (fun n=>(gk m of).map fun x=>tU m R (cK (fI m R) n)++[x]) by unfold gL;rw[zbA];rfl];refine Yh fun x _=>?_;rw[<-ajR (fun v=>tU m R (cK (fI m R) x)++[v]) (gk m of) 0];exact Yh fun y hy=>aqi hy
structure PdF (D:U) (m:Int) (R:List U):Prop where
 l:(fI m R).length=D.length
 get:∀i,i<D.length->(fI m R).getD i 0=((gk m (R.getD i [])).length:Int)
 b:∀i,i<D.length->1<=(gk m (R.getD i [])).length/\((gk m (R.getD i [])).length:Int)<=D.getD i 0
 g:nW (fI m R)
 p1:1<=bD (fI m R)
 pD:bD (fI m R)<=bD D
section
variable {D:U} {m:Int} {R:List U}
theorem nI.pd (H:nI D m R):PdF D m R:=by have g:=H.rl;have hl:(fI m R).length=D.length:=(by simp only[fI,AI];exact g);have b:∀i,i<D.length->(fI m R).getD i 0=((gk m (R.getD i [])).length:Int):=fun i a=>(by rw[co,fI,IT,getD_some [] (show i<R.length by omega)];rfl);have c:∀i,i<D.length->1<=(gk m (R.getD i [])).length/\((gk m (R.getD i [])).length:Int)<=D.getD i 0:=fun i a=>(by have f:=H.row i a;have h2:=H.Ai a;have h3:=aqo m (R.getD i []);have h4:=aqp (m:=m) (of:=R.getD i []) (by intro e;rw[e] at f;simp only[zam] at f;omega) (H.al i a);omega);have d:∀x∈fI m R,1<=x/\x<=8:=fun x hx=>(by obtain⟨i,a,rfl⟩:=List.mem_iff_getElem.1 hx;have e:(fI m R)[i]=(fI m R).getD i 0:=(by rw[co,wt a];rfl);have a1:=c i (by omega);have a2:=H.Ai (i:=i) (by omega);rw[e,b i (by omega)];omega);have mJ:=H.fe;exact⟨hl,b,c,⟨by omega,fun x hx=>by have:=d x hx;omega⟩,Il fun x hx=>(d x hx).1,Ta hl fun i a=>by rw[b i (by omega)];have:=c i (by omega);omega⟩
theorem KW {P:U} (h:nW P) (n:Nat) {i:Nat} (a:i<P.length):0<=(cK P n).getD i 0/\(cK P n).getD i 0<P.getD i 0:=by
 obtain⟨d,d1,b,e,d4,d5⟩:=Wo h a;have c:(cK P n).getD i 0=((n/iJ P (i+1)%d:Nat):Int):=by rw[yo a];unfold nV;rw[e]
 have cm:=Nat.mod_lt (n/iJ P (i+1)) (show 0<d by omega);rw[c,b];omega
theorem nI.ix (H:nI D m R) (n:Nat) {i:Nat} (a:i<D.length):∃k:Nat,(cK (fI m R) n).getD i 0=(k:Int)/\k<(gk m (R.getD i [])).length:=by have P:=H.pd;have:=KW P.g n (i:=i) (by have:=P.l;omega);rw[P.get i a] at this;exact⟨((cK (fI m R) n).getD i 0).toNat,by omega,by omega⟩
theorem aqh {ix:U} {i:Nat} (a:i<R.length):(tU m R ix).getD i 0=(gk m (R.getD i [])).getD (ix.getD i 0).toNat 0:=by rw[co,tU,xf _ a];rfl
theorem nI.pick (H:nI D m R) (n:Nat):nR R (tU m R (cK (fI m R) n)):=by refine⟨rm _ _,fun i a=>?_⟩;have Q7:=H.rl;obtain⟨k,c,b⟩:=H.ix n (i:=i) (by omega);rw[aqh a,c,BY];exact aqn (g9 b)
end
theorem agt {m:Int} {S:List U} {l:U} (h:l∈rE m S):∃n,l=tU m S (cK (fI m S) n):=by rw[<-Wv m S.length S rfl] at h;obtain⟨n,_,e⟩:=zaa.1 h;exact⟨n,e.symm⟩
theorem Tb {B:U} (hl:B.length<=12) (a:∀x∈B,1<=x/\x<=8) (hp:bD B<=4096):vG (B,4096)=some ((bD B:Nat):Int):=by have c:=Er (D:=B) fun x hx=>(a x hx).1;have e:zU 4096 B=(bD B:Int):=(by unfold zU;rw[JJ (by decide) _ 0 1 (fun x hx=>(a x hx).1) (by decide) (by decide),Int.one_mul,c,Int.min_eq_left (by omega)]);rw[<-e];exact ak ⟨by decide,by omega,zai.2 fun v b=>by have:=a v b;exact decide_eq_true (by omega)⟩
theorem CI {m:Int} {D:U} {R:List U} (H:nI D m R) {ch:U} (h:ch∈oO m R):nR R ch:=by obtain⟨n,e⟩:=agt (zan.1 h).1;rw[e];exact H.pick n
section
def nH (x:U):Nat->U
 |0=>[]
 |n+1=>nH x n++x
def xR (D:U):Prop:=D.length<=12/\(∀v∈D,1<=v/\v<=8)/\bD D<=4096
instance (D:U):Decidable (xR D):=by unfold xR;infer_instance
def xx:Rg×U×U×U->Option T3:=fun x=>if x.2.1.length<=1048576/\xR x.2.2.1/\x.2.2.2.length<=6 then some (x.2.1,x.2.2.1,nH x.2.2.2 (bD x.2.2.1)) else none
def Cg:Rg×U×U->Option T3:=fun x=>if ci x.1=true/\x.2.1.length<=1048576/\xR x.2.2 then some (x.2.1,x.2.2,nH (fx x.1) (bD x.2.2)) else none
def okB (r:Rg) (L:U) (R:List U) (ch:U) (b:Bk):Prop:=b.1=ch/\jT r b.2=true/\b.2.1=L/\b.2.2.1=jX R ch
instance (r:Rg) (L:U) (R:List U) (ch:U) (b:Bk):Decidable (okB r L R ch b):=by unfold okB;infer_instance
def b0:Bk:=([],[],[],[])
def ZW (x:Rg×T3×mW×List Bk):Prop:=JK (x.2.1,x.2.2.1)/\x.2.2.2.length<=1048576/\∀b∈x.2.2.2,b.1.length<=1048576/\b.2.1.length<=1048576/\b.2.2.1.length<=1048576/\b.2.2.2.length<=1048576
instance (x:Rg×T3×mW×List Bk):Decidable (ZW x):=by unfold ZW;infer_instance
def Ou (NN:Nat):((Int×(Int×Int))×(U×U))->(Option (U×(U×U))):=
 (fun(((i0,i1,i2),l3,l4):((Int×(Int×Int))×(U×U)))=>
 (xD l3).ae (fun l5=>
 (xD l4).ae (fun l6=>
 (vG (l4,(4096:Int))).ae (fun i7=>
 cT ((bj 0 0 (af (([]:U)))).ae (fun _=>
 (bj 0 0 (af (([]:U)))).ae (fun _=>
 (bj 0 0 (af (([]:U)))).ae (fun _=>
 aB l5 (
 aB l6 (
 (bj 0 0 (af (([]:U)))).ae (fun _=>
 cd NN (fun((i8,(i9,eF,eK),fe,dM,dX,gT,ib,gD):(Int×((Int×(Int×Int))×(U×(U×(U×(U×(U×U))))))))=>
 au (bF (0:Int) i8)
 ((Fk (i9,eF,eK)).ae (fun gE=>
 aB gD (
 (cM gE 0 (af gE)).ae (fun fC=>
 (n3 (aE (af gD) (af fC)) 8).ae (fun _=>
 aB fe (
 aB dM (
 aB dX (
 aB gT (
 aB ib (
 (bj 0 (aE (af gD) (af fC)) (af (eR gD fC))).ae (fun _=>
 some (AN (t5 .i64 i8 1,(i9,eF,eK),fe,dM,dX,gT,ib,eR gD fC)))))))))))))
 ((aB fe (
 aB dM (
 aB dX (
 aB gT (
 aB ib (
 aB gD (
 some (AN (fe,dM,dX,gT,ib,gD))))))))).ae (fun kv=>
 some (GB kv))))
 (i7,(i0,i1,i2),([]:U),([]:U),([]:U),l5,l6,([]:U)))))))))
 (fun(sk,sn,nC,d7,fv,iF)=>
 (d9 d7 (af d7)).ae (fun ji=>
 (d9 fv (af fv)).ae (fun ic=>
 (d9 iF (af iF)).ae (fun o8=>
 some (ji,ic,o8)))))))))
def NK (NN:Nat):((Int×(Int×Int))×(U×(U×U)))->(Option (U×(U×U))):=
 (fun(((i0,i1,i2),l3,l4,l5):((Int×(Int×Int))×(U×(U×U))))=>
 (rB l3).ae (fun l6=>
 (rB l4).ae (fun l7=>
 (BU l4).ae (fun i8=>
 (mr (0:Int) (mP .i64 i8 (aU (af l5))) 8).ae (fun k9=>
 cT ((bj 0 0 (af (([]:U)))).ae (fun _=>
 (bj 0 0 (af (([]:U)))).ae (fun _=>
 (bj 0 0 (af (([]:U)))).ae (fun _=>
 aB l6 (
 aB l7 (
 (bj 0 k9 (af (dn k9 (0:Int)))).ae (fun _=>
 cd NN (fun(((eV,eK,gu),dM,dX,gT,ib,gD,gE):((U×(Int×Int))×(U×(U×(U×(U×(U×U)))))))=>
 au (bF gu eK)
 (aB gE (
 (n3 (aE (af gE) (af eV)) 8).ae (fun _=>
 aB dM (
 aB dX (
 aB gT (
 aB ib (
 aB gD (
 (bj 0 (aE (af gE) (af eV)) (af (eR gE eV))).ae (fun _=>
 some (AN ((eV,eK,cH .i64 gu 1),dM,dX,gT,ib,gD,eR gE eV)))))))))))
 ((aB dM (
 aB dX (
 aB gT (
 aB ib (
 aB gD (
 aB gE (
 some (AN (dM,dX,gT,ib,gD,gE))))))))).ae (fun fC=>
 some (GB fC))))
 ((l5,i8,(0:Int)),([]:U),([]:U),([]:U),l6,l7,dn k9 (0:Int)))))))))
 (fun(kv,sk,sn,nC,d7,fv)=>
 (d9 nC (af nC)).ae (fun iF=>
 (d9 d7 (af d7)).ae (fun ji=>
 (d9 fv (af fv)).ae (fun ic=>
 some (iF,ji,ic))))))))))
theorem Ti (x:U):∀n,(nH x n).length=n*x.length
 |0=>by simp[nH]
 |n+1=>by rw[nH,AT,Ti x n,OF,Pe]
theorem aiQ (x:Rg×U×U×U) (y:T3) (h:xx x=some y):NK aK x=some y:=by obtain⟨⟨r1,r2,r3⟩,L,D,x⟩:=x;simp only[xx] at h;split at h;rename_i a;obtain⟨hL,⟨d,hd,e⟩,hx⟩:=a;rw[<-h];have DA:fQ=140737488355328:=rfl;have c:=Er (D:=D) fun v b=>(hd v b).1;have hm:bD D*x.length<=4096*6:=IN e hx;simp only[NK,aB];rw[show rB L=some L from ak (by omega)];simp only[fM];rw[show rB D=some D from ak (by omega)];simp only[fM];rw[show BU D=some (eo D) from ak ⟨.inl d,hd⟩,c];simp only[fM];rw[nl,LD];rw[show mr 0 ((bD D*x.length:Nat):Int) 8=some 0 by unfold mr;rw[ak (by refine⟨by omega,by omega,?_⟩;simp only[fQ];omega)];rfl];simp only[fM,de];rw[show bj 0 0 (af ([]:U))=some () from rfl,show bj 0 0 (af (dn 0 (0:Int)))=some () from rfl];simp only[fM];rw[iG (fun i=>((x,((bD D:Nat):Int),(i:Int)),([]:U),([]:U),([]:U),L,D,nH x i)) (bD D) (r:=AN (([]:U),([]:U),([]:U),L,D,nH x (bD D))) ?a1 ?a2 ?a3 fF];(case a1=>intro i hi;have iD:i*x.length<=4096*6:=IN (by omega) hx;dsimp only;rw[bm eE];(try simp only[fM,de]);rw[tu (by simp only[aE,af];rw[Ti];omega)];simp only[fM];rw[show bj 0 (aE (af (nH x i)) (af x)) (af (eR (nH x i) x))=some () from n5 (by simp[aE,af,eR])];simp only[fM];rw[fb];rfl);(case a2=>dsimp only;rw[bi dY];try simp only[fM,de]);(case a3=>rfl);simp only[cT,zav,j9,fM];cases h
theorem ajG (x:Rg×U×U) (y:T3) (h:Cg x=some y):Ou aK x=some y:=by obtain⟨⟨a,c,b⟩,L,D⟩:=x;simp only[Cg] at h;split at h;rename_i d;obtain⟨hr,hL,⟨e,hd,f⟩⟩:=d;rw[<-h];have DA:fQ=140737488355328:=rfl;have hw:=jU hr;have hz:=Ff hr;simp only[Ou,aB];rw[show xD L=some L from ak (by omega)];simp only[fM];rw[show xD D=some D from ak (by omega)];simp only[fM];rw[Tb e hd f];simp only[fM,de];rw[show bj 0 0 (af ([]:U))=some () from rfl];simp only[fM];rw[iG (fun i=>((((bD D:Nat):Int) - (i:Int)),(a,c,b),([]:U),([]:U),([]:U),L,D,nH (fx (a,c,b)) i)) (bD D) (r:=AN (([]:U),([]:U),([]:U),L,D,nH (fx (a,c,b)) (bD D))) ?a1 ?a2 ?a3 fF];(case a1=>intro i hi;have iD:i*(fx (a,c,b)).length<=4096*6:=IN (by omega) (by omega);dsimp only;rw[bm eE,show Fk (a,c,b)=some (fx (a,c,b)) from ak hr];simp only[fM,de,mD];rw[tu (by simp only[aE,af];rw[Ti];omega)];simp only[fM];rw[show bj 0 (aE (af (nH (fx (a,c,b)) i)) (af (fx (a,c,b)))) (af (eR (nH (fx (a,c,b)) i) (fx (a,c,b))))=some () from n5 (by simp[aE,af,eR])];simp only[fM];rw[BF,show((bD D:Nat):Int) - (i:Int) - 1=((bD D:Nat):Int) - ((i+1:Nat):Int) by omega];rfl);(case a2=>dsimp only;rw[bi dY];try simp only[fM,de]);(case a3=>simp only[Int.natCast_zero,Int.sub_zero];rfl);simp only[cT,zav,j9,fM];cases h
theorem aeP {a b n:Nat} (h1:a<=b) (h2:b<=n):iY (a:Int) (b:Int) n=some (a,b - a):=by unfold iY;rw[ak ⟨by omega,by omega,by omega⟩];congr 2;omega
variable {m:Int} {L K R:Nat} {X:ed} {d:U}
end
theorem EX {w:Nat} {f g:Nat->Int} (h:∀j,j<w->f j=g j):fw w f=fw w g:=List.map_congr_left fun j a=>h j (zau.1 a)
theorem apd {r:Int×Int×Int} (hr:ci r=true) (a b:Int):gX r a b=gX r b a:=by obtain⟨k,p,n⟩:=r;have e1:∀n:Int,gX (6,0,n) a b=((a.toNat|||b.toNat:Nat):Int)/\gX (6,0,n) b a=((b.toNat|||a.toNat:Nat):Int):=fun n=>⟨rfl,rfl⟩;rcases pt hr with⟨rfl,rfl,rfl⟩|⟨rfl,c,rfl⟩|⟨rfl,c,rfl⟩|⟨rfl,c,rfl⟩|⟨rfl,c,rfl⟩|⟨rfl,rfl,hn⟩|⟨rfl,c,hn⟩|⟨rfl,c,j3,rfl⟩;show((a.toNat|||b.toNat:Nat):Int)=((b.toNat|||a.toNat:Nat):Int);rw[zbI];show(a+b)%p=(b+a)%p;rw[zaK];show min (a+b) p=min (b+a) p;rw[zaK];show min a b=min b a;omega;show max a b=max b a;omega;show((a.toNat|||b.toNat:Nat):Int)=((b.toNat|||a.toNat:Nat):Int);rw[zbI];show(a+b)%p=(b+a)%p;rw[zaK];show(a+b)%p=(b+a)%p;rw[zaK]
theorem apc {r:Int×Int×Int} (hr:ci r=true) {a b c:Int} (ha:0<=a) (hb:0<=b) (hc:0<=c):gX r (gX r a b) c=gX r a (gX r b c):=by obtain⟨k,p,n⟩:=r;have f:((a+b)%p+c)%p=(a+(b+c)%p)%p:=(by rw[Int.emod_add_emod,Int.add_emod_emod,Int.add_assoc]);have d:(((((a.toNat|||b.toNat:Nat):Int).toNat|||c.toNat:Nat)):Int)=((a.toNat|||(((b.toNat|||c.toNat:Nat):Int)).toNat:Nat):Int):=(by rw[BY,BY,Nat.or_assoc]);rcases pt hr with⟨rfl,rfl,rfl⟩|⟨rfl,e,rfl⟩|⟨rfl,e,rfl⟩|⟨rfl,e,rfl⟩|⟨rfl,e,rfl⟩|⟨rfl,rfl,hn⟩|⟨rfl,e,hn⟩|⟨rfl,e,j3,rfl⟩;exact d;exact f;show min (min (a+b) p+c) p=min (a+min (b+c) p) p;omega;show min (min a b) c=min a (min b c);omega;show max (max a b) c=max a (max b c);omega;exact d;exact f;exact f
def z0 (r:Int×Int×Int):Int:=if r.1=4 then r.2.1 else 0
theorem Ge {r:Int×Int×Int} (hr:ci r=true) {j:Nat} (a:j<ax r):cu (fx r) j=z0 r:=by obtain⟨k,p,n⟩:=r;unfold fx z0;by_cases h:k=4;subst h;have:ax (4,p,n)=1:=rfl;have a:j=0:=(by omega);subst a;rfl;simp only[aq h];simp[cu,dn,a]
theorem apf {r:Int×Int×Int} (hr:ci r=true) {a:Int} (c:0<=a/\a<=bY r):gX r a (z0 r)=a:=by obtain⟨k,p,n⟩:=r;rcases pt hr with⟨rfl,rfl,rfl⟩|⟨rfl,b,rfl⟩|⟨rfl,b,rfl⟩|⟨rfl,b,rfl⟩|⟨rfl,b,rfl⟩|⟨rfl,rfl,hn⟩|⟨rfl,b,hn⟩|⟨rfl,b,j3,rfl⟩;show((a.toNat|||(0:Int).toNat:Nat):Int)=a;rw[show(0:Int).toNat=0 from rfl,zbJ];omega;have e:bY (2,p,0)=p - 1:=rfl;show(a+0)%p=a;rw[zbh];exact zaM c.1 (by omega);have e:bY (3,p,0)=p:=rfl;show min (a+0) p=a;omega;have e:bY (4,p,0)=p:=rfl;show min a p=a;omega;show max a 0=a;omega;show((a.toNat|||(0:Int).toNat:Nat):Int)=a;rw[show(0:Int).toNat=0 from rfl,zbJ];omega;have e:bY (7,p,n)=p - 1:=rfl;show(a+0)%p=a;rw[zbh];exact zaM c.1 (by omega);have e:bY (8,p,0)=p - 1:=rfl;show(a+0)%p=a;rw[zbh];exact zaM c.1 (by omega)
theorem add_comm {r:Int×Int×Int} (hr:ci r=true) (x y:U):eQ r x y=eQ r y x:=EX fun j _=>apd hr _ _
theorem add_assoc {r:Int×Int×Int} {x y z:U} (hr:ci r=true) (hx:cL r x=true) (hy:cL r y=true) (b:cL r z=true):eQ r (eQ r x y) z=eQ r x (eQ r y z):=by refine EX fun j a=>?_;rw[show cu (eQ r x y) j=_ from Gd _ a,show cu (eQ r y z) j=_ from Gd _ a];exact apc hr (rO hx a).1 (rO hy a).1 (rO b a).1
theorem add_zero {r:Int×Int×Int} {x:U} (hr:ci r=true) (hx:cL r x=true):eQ r x (fx r)=x:=by
 have h:eQ r x (fx r)=fw (ax r) (cu x):=EX fun j a=>by rw[Ge hr a];exact apf hr (rO hx a)
 rw[h,I1 (gB hx)]
theorem zero_add {r:Int×Int×Int} {x:U} (hr:ci r=true) (hx:cL r x=true):eQ r (fx r) x=x:=by rw[add_comm hr,add_zero hr hx]
theorem af5 {r:Int×Int×Int} (hr:ci r=true) (a:¬(r.1=7\/r.1=8)):fx r=[z0 r]:=by have h:=I1 (x:=fx r) (w:=ax r) (gB (FZ hr));rw[Fb a] at h;rw[<-h];show[cu (fx r) 0]=[z0 r];rw[Ge hr (by rw[Fb a];omega)]
theorem acj {r:Int×Int×Int} (hr:ci r=true) (c:¬(r.1=7\/r.1=8)) {a:Int} (ha:0<=a/\a<=bY r):kz r a (z0 r)=z0 r/\kz r (z0 r) a=z0 r:=by obtain⟨k,p,n⟩:=r;simp only at c;rcases pt hr with⟨rfl,rfl,rfl⟩|⟨rfl,b,rfl⟩|⟨rfl,b,rfl⟩|⟨rfl,b,rfl⟩|⟨rfl,b,rfl⟩|⟨rfl,rfl,hn⟩|⟨rfl,b,hn⟩|⟨rfl,b,j3,rfl⟩;constructor;show((a.toNat&&&(0:Int).toNat:Nat):Int)=0;rw[show(0:Int).toNat=0 from rfl,zbC];rfl;show(((0:Int).toNat&&&a.toNat:Nat):Int)=0;rw[show(0:Int).toNat=0 from rfl,zbD];rfl;constructor;show a*0%p=0;rw[zbi,zaR];show 0*a%p=0;rw[zbE,zaR];constructor;show min (a*0) p=0;rw[zbi];omega;show min (0*a) p=0;rw[zbE];omega;constructor;show min (a+p) p=p;omega;show min (p+a) p=p;omega;constructor;show min a 0=0;omega;show min 0 a=0;omega;constructor;show((a.toNat&&&(0:Int).toNat:Nat):Int)=0;rw[show(0:Int).toNat=0 from rfl,zbC];rfl;show(((0:Int).toNat&&&a.toNat:Nat):Int)=0;rw[show(0:Int).toNat=0 from rfl,zbD];rfl;exact absurd (.inl rfl) c;exact absurd (.inr rfl) c
theorem Z1 {a:Bool} {w:Nat} {x y:Nat->Int} (t:Nat) {i j:Nat} (h:x i=0\/y j=0):kW a x y t i j=0:=by unfold kW;have e:x i*y j=0:=(by rcases h with h|h<;>simp[h]);split;exact e;split;rw[e];rfl;rfl
theorem Nw {r:Int×Int×Int} (hk:r.1=7\/r.1=8):z0 r=0:=by unfold z0;rw[aq (by omega)]
theorem Nd {r:Int×Int×Int} (hr:ci r=true):fw (ax r) (fun _=>z0 r)=fx r:=by have h:=I1 (x:=fx r) (w:=ax r) (gB (FZ hr));rw[<-h];exact EX fun j a=>(Ge hr a).symm
theorem mul_zero {r:Int×Int×Int} {x:U} (hr:ci r=true) (hx:cL r x=true):rb r x (fx r)=fx r:=by by_cases a:r.1=7\/r.1=8;rw[Af a,<-Nd hr];refine EX fun t ht=>?_;rw[BA _ fun i hi=>BA _ fun j d=>Z1 (w:=ax r) t (.inr (by rw[Nd hr,Ge hr d,Nw a])),Nw a];exact zaR _;have c:=Fb a;have b:=v9 hx c;rw[b.1,af5 hr a,yO a,(acj hr a b.2).1]
theorem zero_mul {r:Int×Int×Int} {x:U} (hr:ci r=true) (hx:cL r x=true):rb r (fx r) x=fx r:=by by_cases a:r.1=7\/r.1=8;rw[Af a,<-Nd hr];refine EX fun t ht=>?_;rw[BA _ fun i c=>BA _ fun j hj=>Z1 (w:=ax r) t (.inl (by rw[Nd hr,Ge hr c,Nw a])),Nw a];exact zaR _;have d:=Fb a;have b:=v9 hx d;rw[b.1,af5 hr a,yO a,(acj hr a b.2).2]
theorem Qc {l:U} {i:Nat} (h:i<l.length:=by omega):l[i]? =some (l.getD i 0):=by rw[co,wt h];rfl
def aeT (s:Co):Prop:=(0<=s.1/\s.1<=4096)/\(0<=s.2.1/\s.2.1<=4096)/\(0<=s.2.2.1/\s.2.2.1<=4096)
instance (s:Co):Decidable (aeT s):=by unfold aeT;infer_instance
def VG (m:Int) (s t:Co) (x:Int×Int×U):Prop:=x.1=s.2.1*t.2.1/\x.2.1=s.2.1*t.2.1/\s.1*s.2.1<=64/\t.2.1*t.2.2.1<=64
instance (m:Int) (s t:Co) (x:Int×Int×U):Decidable (VG m s t x):=by unfold VG;infer_instance
section
variable {A1 A2 A3 A4 A5 X Y Z T ρ:Type}
end
section
variable {p:Int} {n:Nat} {a b:U} {ms:List kK} {N k:Nat}
end
section
variable {p:Int} {n:Nat} {a b:U} {ms:List kK} {N k:Nat}
end

theorem C4 {l a:U} (hl:l.length=a.length) (h:∀k,k<l.length->l.getD k 0=a.getD k 0):l=a:= List.ext_getElem hl fun k b c=>by have:=h k b;rw[co,co,wt b,wt c] at this;exact this
theorem aql {f:U} {v:Int} (h:cq f v<f.length):f[cq f v]? =some v:=by rw[wt h];have:=List.findIdx_getElem (w:=h);congr 1;exact of_decide_eq_true this
theorem bd {α β:Type} (x:α) (f:α->Option β):(some x).ae f=f x:=by
 have h:∀o:Option α,o=some x->o.ae f=f x:=by intro o h;subst h;rfl
 exact h _ rfl
theorem CS {α:Type} (x y:α):au true x y=x:=rfl
theorem uC {α:Type} (x y:α):au false x y=y:=rfl
def jL (a b:U):U:=a++b.filter fun x=> !decide (x∈a)
def jd (La Da Lb Db:U) (v:Int):Int:=if cq La v<La.length then Da.getD (cq La v) 0 else Db.getD (cq Lb v) 0
theorem S7 {l:U} {v:Int}:cq l v<l.length↔v∈l:=by constructor;intro h;exact Pd (aql h);exact iW
theorem K8 {a b:U} {v:Int} (h:v∈jL a b):v∈a\/v∈b:=by unfold jL at h;rcases zak.1 h with h|h;exact .inl h;exact .inr (zan.1 h).1
def sC (D ix:U):Nat:=pg D ix D.length
theorem SO {D:U} (a:nW D) {n:Nat} (hn:n<bD D):sC D (cK D n)=n:=by unfold sC;rw[acd a hn _ (zaH _),EZ,zbH]
def pO (J I:U) (v:Int):Int:=I.getD (cq J v) 0
theorem asl {L J:U} (hL:L.Nodup) (e:J.Nodup) (i:∀v∈L,v∈J) {g:Int->Nat} (d:∀v,v∉L->g v=0):(J.map g).sum=(L.map g).sum:=by have f:∀l:U,(l.map g).sum=((l.filter fun v=>decide (v∈L)).map g).sum:=(by intro l;induction l with|nil=>rfl|cons a l c=>by_cases b:a∈L;rw[zaS (by simpa using b),zat,zaT,zat,zaT,c];rw[zaU (by simpa using b),zat,zaT,c,d a b,zaC]);rw[f J];refine List.Perm.sum_nat (List.Perm.map g ((zaJ (e.filter _) hL).2 fun v=>?_));rw[zan];exact⟨fun h=>by simpa using h.2,fun h=>⟨i v h,by simpa using h⟩⟩
def v7 (L D J I:U):Nat:=sN (fun i=>(I.getD i 0).toNat*((M7 L D J).getD i 0).toNat) (M7 L D J).length
theorem J4 {L D J I:U} (hL:L.Nodup) (c:J.Nodup) (j:∀v∈L,v∈J) (hl:L.length=D.length) (hI:I.length=J.length):v7 L D J I=sC D (L.map (pO J I)):=by
 have b:(M7 L D J).length=J.length:=rm _ _;let g:Int->Nat:=fun v=>(pO J I v).toNat*(if cq L v<L.length then iJ D (cq L v+1) else 0)
 have f:v7 L D J I=(J.map g).sum:=by
  unfold v7;rw[b,<-Mf g J];refine Me _ fun i a=>?_;show _=(I.getD (cq J (J.getD i 0)) 0).toNat*_;rw[nF c a];congr 1;unfold M7;rw[co,xf _ a];show(if cq L (J.getD i 0)<L.length then((iJ D (cq L (J.getD i 0)+1):Nat):Int) else 0).toNat=_
  split
  ·exact BY _
  ·rfl
 have d:sC D (L.map (pO J I))=(L.map g).sum:=by
  unfold sC;have:=SQ (D:=D) (ix:=L.map (pO J I)) D.length (zaH _);rw[EZ,zbK] at this;rw[this,<-Mf g L,<-hl];refine Me _ fun i a=>?_;show _=(pO J I (L.getD i 0)).toNat*(if cq L (L.getD i 0)<L.length then iJ D (cq L (L.getD i 0)+1) else 0)
  rw[nF hL a,ak a];congr 1;rw[co,IT,Qc a];rfl
 rw[f,d];refine asl hL c j fun v e=>?_;show _*_=0;rw[aq fun h=>e (S7.1 h),Nat.mul_zero]
theorem SP {D ix:U} (h:∀k,k<D.length->(ix.getD k 0).toNat<(D.getD k 0).toNat):sC D ix<bD D:=by have:=ace h D.length (zaH _);rw[EZ,zbK] at this;unfold sC;omega
theorem alP {a b:U} (d:a.Nodup) (c:b.Nodup):(jL a b).Nodup:=by unfold jL;rw[zaN];refine⟨d,c.filter _,fun x hx y hy=>?_⟩;have:=(zan.1 hy).2;intro e;subst e;simp[hx] at this
theorem AV {a b:U}:∀v∈a,v∈jL a b:=fun v c=>za8 _ c
theorem Hu {a b:U}:∀v∈b,v∈jL a b:=fun v c=>by by_cases h:v∈a;exact AV v h;exact List.mem_append_right _ (zan.2 ⟨c,by simp[h]⟩)
structure Sub (L D J DJ:U):Prop where
 nL:L.Nodup
 nJ:J.Nodup
 s:∀v∈L,v∈J
 l:L.length=D.length
 lJ:DJ.length=J.length
 d:∀i,i<L.length->DJ.getD (cq J (L.getD i 0)) 0=D.getD i 0
 pos:∀x∈DJ,1<=x
theorem Sub.lt {L D J a:U} (h:Sub L D J a) (k:Nat):v7 L D J (cK a k)<bD D:=by
 have hl:(cK a k).length=J.length:=by unfold cK;rw[rm,h.lJ]
 rw[J4 h.nL h.nJ h.s h.l hl];refine SP fun i hi=>?_;have b:i<L.length:=by have:=h.l;omega
 have c:cq J (L.getD i 0)<a.length:=by rw[h.lJ];exact iW (h.s _ (g9 b))
 have e:(L.map (pO J (cK a k))).getD i 0=nV a k (cq J (L.getD i 0)):=by
  rw[co,IT,Qc b];exact yo c
 rw[e,<-h.d i b];unfold nV;rw[BY];refine Nat.mod_lt _ ?_;have:=h.pos _ (g9 c);omega
theorem tw {l:U} {f:Int->Int} {i:Nat} (a:i<l.length):(l.map f).getD i 0=f (l.getD i 0):=by rw[co,IT,Qc a];rfl
theorem acf {D ix:U} (h:∀k,k<D.length->(ix.getD k 0).toNat<(D.getD k 0).toNat):∀t i,i+t=D.length->∃q,pg D ix D.length=pg D ix i*iJ D i+q/\q<iJ D i
 |0,i,hi=>by have:i=D.length:=(by omega);subst this;exact⟨0,by rw[EZ];omega,by rw[EZ];omega⟩
 |t+1,i,hi=>by obtain⟨q,c,h2⟩:=acf h t (i+1) (by omega);have b:=h i (by omega);have a:=Nf (D:=D) (i:=i) (by omega);refine⟨(ix.getD i 0).toNat*iJ D (i+1)+q,?_,?_⟩;rw[c,a];simp only[pg];rw[OF,zbx,Nat.add_assoc];rw[a];have:((ix.getD i 0).toNat+1)*iJ D (i+1)<=(D.getD i 0).toNat*iJ D (i+1):=If _ b;rw[OF,Pe] at this;omega
theorem KX {D ix:U} (hl:ix.length=D.length) (h:∀k,k<D.length->0<=ix.getD k 0/\ix.getD k 0<D.getD k 0):cK D (sC D ix)=ix:=by
 have h':∀k,k<D.length->(ix.getD k 0).toNat<(D.getD k 0).toNat:=fun k a=>by have:=h k a;omega
 refine C4 (by unfold cK;rw[rm,hl]) fun k a=>?_;have a:k<D.length:=by unfold cK at a;rw[rm] at a;exact a
 obtain⟨q,c,b⟩:=acf h' (D.length - (k+1)) (k+1) (by omega);rw[yo a];unfold nV sC;rw[c,zaB,zbm (by omega),zaX b,zbF];simp only[pg];have bW:=h k a;rw[zaB,zbn,zaY (h' k a)];omega
def SL (r:Rg) (h:Nat->U):List Nat->U
 |[]=>fx r
 |k::l=>eQ r (h k) (SL r h l)
section
variable {r:Rg} {h g:Nat->U}
theorem zN (hr:ci r=true) (a:∀k,cL r (h k)=true):∀l,cL r (SL r h l)=true
 |[]=>FZ hr
 |k::l=>FY hr (a k) (zN hr a l)
theorem U9 (hr:ci r=true) (b:∀k,cL r (h k)=true) (a:List Nat):∀l,SL r h (l++a)=eQ r (SL r h l) (SL r h a)
 |[]=>(zero_add hr (zN hr b a)).symm
 |k::l=>by show eQ r (h k) (SL r h (l++a))=eQ r (eQ r (h k) (SL r h l)) (SL r h a);rw[U9 hr b a l,add_assoc hr (b k) (zN hr b l) (zN hr b a)]
theorem agj (hr:ci r=true) (c:∀k,cL r (h k)=true) {l d:List Nat} (p:l.Perm d):SL r h l=SL r h d:=by induction p with|nil=>rfl|cons k _ f=>show eQ r (h k) _=eQ r (h k) _;rw[f]|swap a b l=>show eQ r (h b) (eQ r (h a) (SL r h l))=eQ r (h a) (eQ r (h b) (SL r h l));have hl:=zN hr c l;rw[<-add_assoc hr (c b) (c a) hl,<-add_assoc hr (c a) (c b) hl,add_comm hr (h b) (h a)]|trans _ _ g e=>rw[g,e]
theorem Va (hr:ci r=true) (b:∀k,cL r (h k)=true) (p:Nat->Bool):∀(l:List Nat),(∀k∈l,p k=false->h k=fx r)->SL r h (l.filter p)=SL r h l
 |[],_=>rfl
 |k::l,H=>by have a:=Va hr b p l fun q c=>H q (by simp[c]);cases hp:p k with|true=>rw[zaS hp];show eQ r (h k) _=eQ r (h k) _;rw[a]|false=>rw[zaU (by rw[hp];exact Bool.false_ne_true),a];show SL r h l=eQ r (h k) (SL r h l);rw[H k (by simp) hp,zero_add hr (zN hr b l)]
theorem agi (hr:ci r=true) (b:∀k,cL r (h k)=true) {L:List Nat} {P:Nat} (hn:L.Nodup) (hl:∀k∈L,k<P) (d:∀k,k<P->k∉L->h k=fx r):SL r h L=SL r h (zaO P):=by rw[<-Va hr b (fun k=>decide (k∈L)) (zaO P) fun k a c=>d k (zau.1 a) (by simpa using c)];refine agj hr b ((zaJ hn (zbk.filter _)).2 fun k=>?_);rw[zan,zau];exact⟨fun a=>⟨hl k a,decide_eq_true a⟩,fun a=>of_decide_eq_true a.2⟩
end
def CU (r:Rg) (f:Nat->U) (oc:Nat->Nat) (n:Nat):Nat->U
 |0=>fx r
 |k+1=>if oc k=n then eQ r (CU r f oc n k) (f k) else CU r f oc n k
def AD (r:Rg) (f:Nat->U) (oc:Nat->Nat) (n:Nat) (k:Nat):U:=if oc k=n then f k else fx r
theorem YV {r:Rg} {f:Nat->U} (hr:ci r=true) (b:∀k,cL r (f k)=true) (a:Nat->Nat) (n k:Nat):cL r (AD r f a n k)=true:=by unfold AD;split;exact b k;exact FZ hr
theorem Pj {r:Rg} {f:Nat->U} (hr:ci r=true) (c:∀k,cL r (f k)=true) (a:Nat->Nat) (n:Nat):∀k,CU r f a n k=SL r (AD r f a n) (zaO k)
 |0=>rfl
 |k+1=>by
  have b:=YV hr c a n;rw[zbl,U9 hr b,<-Pj hr c a n k];show(if a k=n then eQ r (CU r f a n k) (f k) else CU r f a n k)=eQ r _ (eQ r (AD r f a n k) (fx r))
  rw[add_zero hr (b k)];unfold AD;split
  ·rfl
  ·rw[add_zero hr];rw[Pj hr c a n k];exact zN hr b _
def bQ (g:Nat->U):Nat->U
 |0=>[]
 |n+1=>bQ g n++g n
theorem qD {g:Nat->U} {w:Nat}:∀{n},(∀i,i<n->(g i).length=w)->(bQ g n).length=n*w
 |0,_=>by simp[bQ]
 |n+1,h=>by rw[bQ,AT,qD fun i hi=>h i (by omega),h n (by omega),OF,Pe]
theorem vS {g h:Nat->U}:∀{n},(∀i,i<n->g i=h i)->bQ g n=bQ h n
 |0,_=>rfl
 |n+1,e=>by rw[bQ,bQ,vS fun i hi=>e i (by omega),e n (by omega)]
theorem LW {g:Nat->U} {w:Nat} {x:U} (hx:x.length=w):∀{n},(∀i,i<n->(g i).length=w)->∀{i},i<n->eH (bQ g n) (i*w) x=bQ (fun j=>if j=i then x else g j) n
 |n+1,h,i,a=>by have hl:=qD (n:=n) fun i a=>h i (by omega);have hn:=h n (by omega);rw[bQ,bQ];by_cases e:i=n;subst e;rw[ak rfl,vS (n:=i) (h:=g) fun j hj=>aq (by omega)];unfold eH;rw[<-hl,List.take_left,hx,<-zba,List.drop_left,<-hn,List.drop_length,zal];have hm:(i+1)*w<=n*w:=If _ (by omega);rw[OF,Pe] at hm;rw[aq (Ne.symm e),<-LW hx (fun i a=>h i (by omega)) (show i<n by omega)];unfold eH;rw[List.take_append_of_le_length (by omega),zaE (by rw[hx];omega),zac,zac,zac]
theorem Th (x:U):∀n,nH x n=bQ (fun _=>x) n
 |0=>rfl
 |n+1=>by rw[nH,bQ,Th x n]
def FX (r:Rg) (A:U) (i:Nat):U:=iy A (i*ax r) (ax r)
theorem J9 {r:Rg} {L D A:U} (h:jT r (L,D,A)=true) {i:Nat} (a:i<bD D):cL r (FX r A i)=true:=by obtain⟨hr,_,_,⟨tE,j3⟩,hA,_,_,_,b⟩:=E4 h;have hm:(i+1)*ax r<=bD D*ax r:=If _ a;rw[OF,Pe] at hm;unfold cL;rw[By,decide_eq_true_eq];refine⟨by unfold FX iy;rw[IS,zaZ];omega,zai.2 fun x hx=>?_⟩;exact zai.1 b x (List.mem_of_mem_drop (za9 hx))
section
variable {J DJ:U} {f:Int->U}
theorem aqX {n k:Nat} (f:Nat->Int) (h:k<n):(kU n f).getD k 0=f k:=by rw[co,xf _ h];rfl
def fL (f:Int->U) (v:Int):Int:=((f v).length:Int)
def ua (J:U) (f:Int->U) (I:U):U:=J.map fun v=>(f v).getD (pO J I v).toNat 0
def tm (J DJ:U) (f:Int->U) (j:Nat):Nat:=sC DJ (ua J f (cK (J.map (fL f)) j))
structure Jn (J DJ:U) (f:Int->U):Prop where
 nJ:J.Nodup
 lJ:DJ.length=J.length
 g:nW DJ
 p:∀v∈J,1<=(f v).length/\(f v).length<=1048576
 nd:∀v∈J,(f v).Nodup
 b:∀i,i<J.length->∀t∈f (J.getD i 0),0<=t/\t<DJ.getD i 0
theorem Jn.gF (h:Jn J DJ f):nW (J.map (fL f)):=by have:=h.g.1;have:=h.lJ;refine⟨by rw[AI];omega,fun x hx=>?_⟩;obtain⟨v,a,rfl⟩:=zaa.1 hx;have:=h.p v a;unfold fL;omega
theorem Jn.dF (h:Jn J DJ f) {i:Nat} (a:i<J.length):(J.map (fL f)).getD i 0=((f (J.getD i 0)).length:Int):=by rw[tw a];rfl
theorem Jn.ix (h:Jn J DJ f) (j:Nat) {i:Nat} (a:i<J.length):0<=(cK (J.map (fL f)) j).getD i 0/\((cK (J.map (fL f)) j).getD i 0).toNat<(f (J.getD i 0)).length:=by have:=KW h.gF j (i:=i) (by rw[AI];exact a);rw[h.dF a] at this;omega
theorem K7 (J:U) (f:Int->U) (j:Nat):(cK (J.map (fL f)) j).length=J.length:=by unfold cK;rw[rm,AI]
theorem Nq (J:U) (f:Int->U) (I:U):(ua J f I).length=J.length:=AI ..
theorem Jn.w (h:Jn J DJ f) (I:U) {i:Nat} (a:i<J.length):(ua J f I).getD i 0=(f (J.getD i 0)).getD (I.getD i 0).toNat 0:=by unfold ua;rw[co,IT,getD_some 0 a];show(f (J.getD i 0)).getD (pO J I (J.getD i 0)).toNat 0=_;unfold pO;rw[nF h.nJ a]
theorem Jn.UH (h:Jn J DJ f) (j:Nat) {i:Nat} (a:i<J.length):(ua J f (cK (J.map (fL f)) j)).getD i 0∈f (J.getD i 0):=by rw[h.w _ a];exact g9 (h.ix j a).2
theorem Jn.w_b (h:Jn J DJ f) (j:Nat):∀i,i<DJ.length->0<=(ua J f (cK (J.map (fL f)) j)).getD i 0/\(ua J f (cK (J.map (fL f)) j)).getD i 0<DJ.getD i 0:=fun i hi=>by
 have a:i<J.length:=by have:=h.lJ;omega
 exact h.b i a _ (h.UH j a)
theorem Jn.idx (h:Jn J DJ f) (j:Nat):cK DJ (tm J DJ f j)=ua J f (cK (J.map (fL f)) j):=KX (by rw[Nq,h.lJ]) (h.w_b j)
theorem Jn.lt (h:Jn J DJ f) (j:Nat):tm J DJ f j<bD DJ:=SP fun k a=>by have:=h.w_b j k a;omega
theorem Jn.off (h:Jn J DJ f) {L D:U} (hL:L.Nodup) (b:∀v∈L,v∈J) (hl:L.length=D.length) (j:Nat): v7 L D J (cK DJ (tm J DJ f j))=sC D (Vs (L.map f) (cK (L.map (fL f)) (v7 L (L.map (fL f)) J (cK (J.map (fL f)) j)))):=by have d:=K7 J f j;rw[h.idx,J4 hL h.nJ b hl (Nq _ _ _),J4 hL h.nJ b (by rw[AI]) d];have hd:∀k,k<L.length->0<=(L.map (pO J (cK (J.map (fL f)) j))).getD k 0/\(L.map (pO J (cK (J.map (fL f)) j))).getD k 0<(L.map (fL f)).getD k 0:=fun k a=>(by have c:=iW (b _ (g9 a));have:=h.ix j c;rw[qd (b _ (g9 a))] at this;rw[tw a,tw a];show 0<=(cK (J.map (fL f)) j).getD (cq J (L.getD k 0)) 0/\(cK (J.map (fL f)) j).getD (cq J (L.getD k 0)) 0<((f (L.getD k 0)).length:Int);omega);rw[KX (by rw[AI,AI]) (by rw[AI];exact hd)];congr 1;unfold Vs;refine C4 (by rw[AI,rm,AI]) fun k a=>?_;rw[AI] at a;have c:=iW (b _ (g9 a));rw[tw a,aqX _ (by rw[AI];exact a),tw a];rw[show(L.map f).getD k []=f (L.getD k 0) by rw[co,IT,getD_some 0 a];rfl];unfold pO;rw[h.w _ c,qd (b _ (g9 a))]
theorem getD_inj {l:U} (hn:l.Nodup) {i j:Nat} (a:i<l.length) (b:j<l.length) (e:l.getD i 0=l.getD j 0):i=j:=by have c:=nF hn a;have h2:=nF hn b;rw[e] at c;omega
theorem Jn.inj (h:Jn J DJ f) {j k:Nat} (c:j<bD (J.map (fL f))) (g:k<bD (J.map (fL f))) (e:tm J DJ f j=tm J DJ f k):j=k:=by have m:ua J f (cK (J.map (fL f)) j)=ua J f (cK (J.map (fL f)) k):=(by rw[<-h.idx,<-h.idx,e]);have b:cK (J.map (fL f)) j=cK (J.map (fL f)) k:=C4 (by rw[K7,K7]) fun i a=>(by rw[K7] at a;have d:=h.ix j a;have l:=h.ix k a;have:=getD_inj (h.nd _ (g9 a)) d.2 l.2 (by rw[<-h.w _ a,<-h.w _ a,m]);omega);rw[<-SO h.gF c,b,SO h.gF g]
theorem Jn.sur (h:Jn J DJ f) {k:Nat} (e:k<bD DJ) (hm:∀i,i<J.length->(cK DJ k).getD i 0∈f (J.getD i 0)):∃j,j<bD (J.map (fL f))/\tm J DJ f j=k:=by let I:U:=kU J.length fun i=>(cq (f (J.getD i 0)) ((cK DJ k).getD i 0):Int);have b:I.length=(J.map (fL f)).length:=(by rw[rm,AI]);have d:∀i,i<J.length->I.getD i 0=(cq (f (J.getD i 0)) ((cK DJ k).getD i 0):Int):=fun i a=>(by rw[co,xf _ a];rfl);have c:∀i,i<(J.map (fL f)).length->0<=I.getD i 0/\I.getD i 0<(J.map (fL f)).getD i 0:=fun i a=>(by rw[AI] at a;rw[d i a,h.dF a];have:=iW (hm i a);omega);refine⟨sC (J.map (fL f)) I,SP fun i a=>by have:=c i a;omega,?_⟩;unfold tm;rw[KX b c];have:ua J f I=cK DJ k:=C4 (by rw[Nq];unfold cK;rw[rm,h.lJ]) fun i a=>(by rw[Nq] at a;rw[h.w _ a,d i a,BY,qd (hm i a)]);rw[this,SO h.g e]
end
theorem UC (of:U) (x:Int):∀n,(pG of x n).Nodup
 |0=>zbs
 |n+1=>by simp only[pG];split;rw[zaN];refine⟨UC of x n,by simp,fun a d b c e=>?_⟩;obtain⟨i,hi,h1,_⟩:=Nn of x n a d;rw[zaw] at c;omega;exact UC of x n
theorem HU {of:U} {x t:Int}:t∈vals of x↔∃i:Nat,i<of.length/\t=(i:Int)/\of.getD i 0=x:= ⟨Nn of x _ t,fun⟨i,c,b,a⟩=>by rw[b];exact UD c a⟩
theorem afN {of b:U} {x y:Int}:∀n,(∀i,i<n->(of.getD i 0=x↔b.getD i 0=y))->pG of x n=pG b y n
 |0,_=>rfl
 |n+1,h=>by simp only[pG];rw[afN n fun i hi=>h i (by omega)];by_cases a:of.getD n 0=x;rw[ak a,ak ((h n (by omega)).1 a)];rw[aq a,aq fun e=>a ((h n (by omega)).2 e)]
theorem asO {of a:U} {x y:Int} (hl:of.length=a.length) (h:∀i,i<of.length->(of.getD i 0=x↔a.getD i 0=y)):vals of x=vals a y:=by unfold vals;rw[hl];exact afN _ fun i hi=>h i (by omega)
theorem aaU {m a b c:Int} (hb:0<=b/\b<m) (hc:0<=c/\c<m) (g:(a+b)%m=0) (f:(a+c)%m=0):b=c:=by
 obtain⟨x,hx⟩:=zaV g;obtain⟨y,hy⟩:=zaV f;have e:b - c=m*(x - y):=by rw[Int.mul_sub];omega
 have hm:0<m:=by omega
 have h3:x - y<1:=zaL (a:=m) (by omega) (by omega);have h4: -1<x - y:=zaL (a:=m) (by omega) (by omega);have d:x - y=0:=by omega
 rw[d,zbi] at e;omega
theorem S8 (of:U):∀n,(vt of n).Nodup
 |0=>zbs
 |n+1=>by simp only[vt];split;rw[zaN];refine⟨S8 of n,by simp,fun a d b c e=>?_⟩;obtain⟨i,hi,h1,_⟩:=(Ij of a n).1 d;rw[zaw] at c;omega;exact S8 of n
theorem Vi (m:Int):∀(k:Nat) (R:List U),R.length=k->(rE m R).Nodup/\∀l∈rE m R,l.length=R.length
 |0,R,h=>by rw[zag h];exact⟨by simp[rE],fun l hl=>by simp[rE] at hl;rw[hl];rfl⟩
 |k+1,R,h=>by obtain⟨R,of,rfl⟩:∃n of,R=n++[of]:=⟨R.dropLast,R.getLast (by intro e;rw[e] at h;simp at h),(zah _).symm⟩;obtain⟨i,d⟩:=Vi m k R (by simpa using h);rw[OE];refine⟨?_,fun l hl=>?_⟩;rw[zbM,zaD];refine⟨fun a c=>?_,zao (fun{a b} c f o=>?_) i⟩;rw[zbd];refine zbN (fun{x y} g e=>g ?_) (S8 of m.toNat);have:=List.append_cancel_left e;simpa using this;intro x hx y hy e;obtain⟨u,_,rfl⟩:=zaa.1 hx;obtain⟨w,_,j⟩:=zaa.1 hy;rw[<-j] at e;exact o (List.append_inj_left e (by rw[d a c,d b f]));obtain⟨a,c,hl⟩:=zap.1 hl;obtain⟨u,_,rfl⟩:=zaa.1 hl;rw[AT,AT,d a c];rfl
theorem Vh (m:Int):∀(k:Nat) (R:List U),R.length=k->∀l:U,l.length=R.length->(∀i,i<R.length->l.getD i 0∈gk m (R.getD i []))->l∈rE m R
 |0,R,h,l,hl,hm=>by rw[zag h] at hl⊢;rw[zag hl];simp[rE]
 |k+1,R,h,l,hl,hm=>by obtain⟨R,of,rfl⟩:∃a of,R=a++[of]:=⟨R.dropLast,R.getLast (by intro e;rw[e] at h;simp at h),(zah _).symm⟩;rw[AT,zae] at hl;obtain⟨l,x,rfl⟩:∃b x,l=b++[x]:=⟨l.dropLast,l.getLast (by intro e;rw[e] at hl;simp at hl),(zah _).symm⟩;rw[AT,zae] at hl;rw[AT,zae] at hm;rw[OE];refine zap.2 ⟨l,Vh m k R (by simpa using h) l (by omega) fun i hi=>?_,zaa.2 ⟨x,?_,rfl⟩⟩;have:=hm i (by omega);rw[co,co,zad (by omega),zad (by omega),<-co,<-co] at this;exact this;have:=hm R.length (by omega);rw[co,co,zab (by omega),zab (by omega),zbg,show R.length - l.length=0 by omega] at this;exact this
theorem VO (m:Int) (R:List U):(oO m R).Nodup:=(Vi m R.length R rfl).1.filter _
theorem aaK {D:U} {m:Int} {R:List U} (H:nI D m R) {ch:U} (a:nR R ch) (d:EV ch%m=0):ch∈oO m R:=by refine zan.2 ⟨Vh m R.length R rfl ch a.1 fun i c=>?_,decide_eq_true d⟩;have b:=a.2 i c;have h2:=H.al i (by have:=H.rl;omega) _ b;exact(Ij _ _ _).2 ⟨(ch.getD i 0).toNat,by omega,by omega,b⟩
structure fm (La Da:U) (Ra:List U) (Lb Db:U) (Rb:List U) (m:Int):Prop where
 HA:nI Da m Ra
 HB:nI Db m Rb
 na:La.Nodup
 nb:Lb.Nodup
 la:La.length=Da.length
 lb:Lb.length=Db.length
 SX:∀v,v∈La->v∈Lb->Da.getD (cq La v) 0=Db.getD (cq Lb v) 0/\∀t,t<(Ra.getD (cq La v) []).length->((Ra.getD (cq La v) []).getD t 0+(Rb.getD (cq Lb v) []).getD t 0)%m=0
def wU (La Lb:U) (m:Int) (x y:U):Prop:=∀v∈La,v∈Lb->(x.getD (cq La v) 0+y.getD (cq Lb v) 0)%m=0
instance (La Lb:U) (m:Int) (x y:U):Decidable (wU La Lb m x y):=by unfold wU;infer_instance
def qH (La:U) (Ra:List U) (Lb:U) (Rb:List U) (x y:U) (v:Int):U:=
 if v∈La then vals (Ra.getD (cq La v) []) (x.getD (cq La v) 0) else vals (Rb.getD (cq Lb v) []) (y.getD (cq Lb v) 0)
def fq (La Da Lb Db:U):U:=(jL La Lb).map (jd La Da Lb Db)
def nU (L:U) (R:List U) (J K:U):U:=kU L.length fun i=>(R.getD i []).getD (K.getD (cq J (L.getD i 0)) 0).toNat 0
theorem z6 (L:U) (R:List U) (J K:U):(nU L R J K).length=L.length:=rm _ _
theorem vV {L:U} {R:List U} {J K:U} {i:Nat} (a:i<L.length:=by omega):(nU L R J K).getD i 0=(R.getD i []).getD (K.getD (cq J (L.getD i 0)) 0).toNat 0:=by rw[co,nU,xf _ a];rfl
section
variable {La Da:U} {Ra:List U} {Lb Db:U} {Rb:List U} {m:Int}
theorem fm.AW (H:fm La Da Ra Lb Db Rb m) {v:Int} (a:v∈La):jd La Da Lb Db v=Da.getD (cq La v) 0:=ak (iW a)
theorem fm.Hv (H:fm La Da Ra Lb Db Rb m) {v:Int} (a:v∈Lb):jd La Da Lb Db v=Db.getD (cq Lb v) 0:=by by_cases h:v∈La;rw[H.AW h,(H.SX v h a).1];exact aq fun q=>h (S7.1 q)
theorem fm.dv (H:fm La Da Ra Lb Db Rb m) {v:Int} (a:v∈jL La Lb):1<=jd La Da Lb Db v/\jd La Da Lb Db v<=8:=by have h1:=H.la;have h2:=H.lb;rcases K8 a with h|h;rw[H.AW h];exact H.HA.Ai (by have:=iW h;omega);rw[H.Hv h];exact H.HB.Ai (by have:=iW h;omega)
theorem fm.nJ (H:fm La Da Ra Lb Db Rb m):(jL La Lb).Nodup:=alP H.na H.nb
theorem ZV (a b:U):(jL a b).length<=a.length+b.length:=by unfold jL;rw[AT];have:=List.length_filter_le (fun x=> !decide (x∈a)) b;omega
theorem fm.lJ (H:fm La Da Ra Lb Db Rb m):(jL La Lb).length<=24:=by have:=ZV La Lb;have:=H.la;have:=H.lb;have:=H.HA.fe;have:=H.HB.fe;omega
theorem fm.gJ (H:fm La Da Ra Lb Db Rb m):nW (fq La Da Lb Db):=by have:=H.lJ;refine⟨by unfold fq;rw[AI];omega,fun x hx=>?_⟩;obtain⟨v,a,rfl⟩:=zaa.1 hx;have:=H.dv a;omega
theorem fm.M8 (H:fm La Da Ra Lb Db Rb m):Sub La Da (jL La Lb) (fq La Da Lb Db):= ⟨H.na,H.nJ,AV,H.la,AI ..,fun i c=>by have a:=AV (b:=Lb) _ (g9 c);unfold fq;rw[tw (iW a),qd a,H.AW (g9 c),nF H.na c],fun x hx=>by obtain⟨v,a,rfl⟩:=zaa.1 hx;exact(H.dv a).1⟩
theorem fm.M9 (H:fm La Da Ra Lb Db Rb m):Sub Lb Db (jL La Lb) (fq La Da Lb Db):= ⟨H.nb,H.nJ,Hu,H.lb,AI ..,fun i c=>by have b:=Hu (a:=La) _ (g9 c);unfold fq;rw[tw (iW b),qd b,H.Hv (g9 c),nF H.nb c],fun x hx=>by obtain⟨v,b,rfl⟩:=zaa.1 hx;exact(H.dv b).1⟩
theorem fm.kb (H:fm La Da Ra Lb Db Rb m) (k:Nat) {v:Int} (a:v∈jL La Lb):0<=(cK (fq La Da Lb Db) k).getD (cq (jL La Lb) v) 0/\(cK (fq La Da Lb Db) k).getD (cq (jL La Lb) v) 0<jd La Da Lb Db v:=by have b:=iW a;have:=KW H.gJ k (i:=cq (jL La Lb) v) (by unfold fq;rw[AI];exact b);rw[show(fq La Da Lb Db).getD (cq (jL La Lb) v) 0=jd La Da Lb Db v by unfold fq;rw[tw b,qd a]] at this;exact this
theorem fm.VV (H:fm La Da Ra Lb Db Rb m) (k:Nat):nR Ra (nU La Ra (jL La Lb) (cK (fq La Da Lb Db) k)):=by have h1:=H.la;have h2:=H.HA.rl;refine⟨by rw[z6];omega,fun i hi=>?_⟩;rw[vV];have a:La.getD i 0∈La:=g9 (by omega);have:=H.kb k (AV (b:=Lb) _ a);rw[H.AW a,nF H.na (by omega)] at this;have:=H.HA.row i (by omega);exact g9 (by omega)
theorem fm.VW (H:fm La Da Ra Lb Db Rb m) (k:Nat):nR Rb (nU Lb Rb (jL La Lb) (cK (fq La Da Lb Db) k)):=by have h1:=H.lb;have h2:=H.HB.rl;refine⟨by rw[z6];omega,fun i hi=>?_⟩;rw[vV];have b:Lb.getD i 0∈Lb:=g9 (by omega);have:=H.kb k (Hu (a:=La) _ b);rw[H.Hv b,nF H.nb (by omega)] at this;have:=H.HB.row i (by omega);exact g9 (by omega)
theorem fm.VX (H:fm La Da Ra Lb Db Rb m) (k:Nat):wU La Lb m (nU La Ra (jL La Lb) (cK (fq La Da Lb Db) k)) (nU Lb Rb (jL La Lb) (cK (fq La Da Lb Db) k)):=fun v a c=>by rw[vV (iW a),vV (iW c),qd a,qd c];have d:=H.kb k (AV (b:=Lb) _ a);rw[H.AW a] at d;have:=H.HA.row (cq La v) (by have:=iW a;have:=H.la;omega);exact(H.SX v a c).2 _ (by omega)
section
variable {x y:U}
theorem fm.f_b (H:fm La Da Ra Lb Db Rb m) (hx:nR Ra x) (hy:nR Rb y) (hm:wU La Lb m x y) {v:Int} (d:v∈Lb):qH La Ra Lb Rb x y v=vals (Rb.getD (cq Lb v) []) (y.getD (cq Lb v) 0):=by unfold qH;by_cases b:v∈La;rw[ak b];have p1:=iW b;have p2:=iW d;have l1:=H.la;have l2:=H.lb;have l3:=H.HA.rl;have l4:=H.HB.rl;have r1:=H.HA.row (cq La v) (by omega);have r2:=H.HB.row (cq Lb v) (by omega);obtain⟨o1,n⟩:=H.SX v b d;have c:=hm v b d;have g:=H.HA.al _ (by omega) _ (hx.2 (cq La v) (by omega));have k:=H.HB.al _ (by omega) _ (hy.2 (cq Lb v) (by omega));refine asO (by omega) fun i f=>?_;have a:=n i f;have h:=H.HA.al _ (by omega) _ (g9 f);have j:=H.HB.al _ (by omega) _ (g9 (l:=Rb.getD (cq Lb v) []) (i:=i) (by omega));constructor;intro e;rw[e] at a;exact aaU j k a c;intro e;rw[e] at a;rw[zaK] at a c;exact aaU h g a c;rw[aq b]
theorem fm.jn (H:fm La Da Ra Lb Db Rb m) (hx:nR Ra x) (hy:nR Rb y) (hm:wU La Lb m x y):Jn (jL La Lb) (fq La Da Lb Db) (qH La Ra Lb Rb x y):=by have l1:=H.la;have l2:=H.lb;have l3:=H.HA.rl;have l4:=H.HB.rl;have e:∀v∈jL La Lb,∃of c,qH La Ra Lb Rb x y v=vals of c/\c∈of/\(of.length:Int)=jd La Da Lb Db v:=fun v a=>(by by_cases d:v∈La;have p1:=iW d;exact⟨_,_,ak d,hx.2 _ (by omega),by rw[H.AW d];exact H.HA.row _ (by omega)⟩;have g:=(K8 a).resolve_left d;have p1:=iW g;exact⟨_,_,aq d,hy.2 _ (by omega),by rw[H.Hv g];exact H.HB.row _ (by omega)⟩);refine⟨H.nJ,AI ..,H.gJ,fun v a=>?_,fun v a=>?_,fun i j t k=>?_⟩;obtain⟨of,c,b,f,h⟩:=e v a;rw[b];have:=H.dv a;have:=afQ f;have:=afP of c;omega;obtain⟨of,c,b,f,h⟩:=e v a;rw[b];exact UC _ _ _;obtain⟨of,c,b,f,h⟩:=e _ (g9 j);rw[b] at k;obtain⟨q,q1,q2,_⟩:=HU.1 k;have:(fq La Da Lb Db).getD i 0=jd La Da Lb Db ((jL La Lb).getD i 0):=(by unfold fq;rw[tw j]);omega
theorem fm.ahm (H:fm La Da Ra Lb Db Rb m) (hx:nR Ra x) (hy:nR Rb y) (hm:wU La Lb m x y) (j:Nat): nU La Ra (jL La Lb) (cK (fq La Da Lb Db) (tm (jL La Lb) (fq La Da Lb Db) (qH La Ra Lb Rb x y) j))=x/\nU Lb Rb (jL La Lb) (cK (fq La Da Lb Db) (tm (jL La Lb) (fq La Da Lb Db) (qH La Ra Lb Rb x y) j))=y:=by have N:=H.jn hx hy hm;have l1:=H.la;have l2:=H.lb;have l3:=H.HA.rl;have l4:=H.HB.rl;have h1:=hx.1;have h2:=hy.1;rw[N.idx];constructor;refine C4 (by rw[z6];omega) fun i c=>?_;rw[z6] at c;have d:La.getD i 0∈La:=g9 c;have e:=N.UH j (iW (AV (b:=Lb) _ d));rw[qd (AV _ d)] at e;rw[show qH La Ra Lb Rb x y (La.getD i 0)=_ from ak d,nF H.na c] at e;obtain⟨q,h,f,g⟩:=HU.1 e;rw[vV c,f,BY,g];refine C4 (by rw[z6];omega) fun i c=>?_;rw[z6] at c;have d:Lb.getD i 0∈Lb:=g9 c;have e:=N.UH j (iW (Hu (a:=La) _ d));rw[qd (Hu _ d)] at e;rw[H.f_b hx hy hm d,nF H.nb c] at e;obtain⟨q,h,f,g⟩:=HU.1 e;rw[vV c,f,BY,g]
end
theorem fm.amB (H:fm La Da Ra Lb Db Rb m) (k:Nat) {i:Nat} (b:i<(jL La Lb).length): (cK (fq La Da Lb Db) k).getD i 0∈qH La Ra Lb Rb (nU La Ra (jL La Lb) (cK (fq La Da Lb Db) k)) (nU Lb Rb (jL La Lb) (cK (fq La Da Lb Db) k)) ((jL La Lb).getD i 0):=by have e:=g9 b;have d:=H.kb k e;rw[nF H.nJ b] at d;have l1:=H.la;have l2:=H.lb;unfold qH;by_cases a:(jL La Lb).getD i 0∈La;rw[ak a];have p1:=iW a;have:=H.HA.row _ (show cq La ((jL La Lb).getD i 0)<Da.length by omega);rw[H.AW a] at d;refine HU.2 ⟨((cK (fq La Da Lb Db) k).getD i 0).toNat,by omega,by omega,?_⟩;rw[vV p1,qd a,nF H.nJ b];rw[aq a];have c:=(K8 e).resolve_left a;have p1:=iW c;have:=H.HB.row _ (show cq Lb ((jL La Lb).getD i 0)<Db.length by omega);rw[H.Hv c] at d;refine HU.2 ⟨((cK (fq La Da Lb Db) k).getD i 0).toNat,by omega,by omega,?_⟩;rw[vV p1,qd c,nF H.nJ b]
def Gk (La Da:U) (Ra:List U) (Lb Db:U) (Rb:List U) (m:Int) (x y:U):List Nat:=
 if wU La Lb m x y then(zaO (bD ((jL La Lb).map (fL (qH La Ra Lb Rb x y))))).map (tm (jL La Lb) (fq La Da Lb Db) (qH La Ra Lb Rb x y)) else[]
def Qa (La Da:U) (Ra:List U) (Lb Db:U) (Rb:List U) (m:Int) (Y:List U) (x:U):List Nat:=Y.flatMap (Gk La Da Ra Lb Db Rb m x)
def xE (La Da:U) (Ra:List U) (Lb Db:U) (Rb:List U) (m:Int) (X Y:List U):List Nat:=X.flatMap (Qa La Da Ra Lb Db Rb m Y)
theorem aaJ {X Y:List U} {k:Nat}:k∈xE La Da Ra Lb Db Rb m X Y↔∃x∈X,∃y∈Y,wU La Lb m x y/\∃j,j<bD ((jL La Lb).map (fL (qH La Ra Lb Rb x y)))/\tm (jL La Lb) (fq La Da Lb Db) (qH La Ra Lb Rb x y) j=k:=by unfold xE;rw[zap];refine exists_congr fun x=>and_congr_right fun _=>?_;unfold Qa;rw[zap];refine exists_congr fun y=>and_congr_right fun _=>?_;unfold Gk;by_cases h:wU La Lb m x y;rw[ak h,zaa];simp only[zau];exact⟨fun⟨j,b,a⟩=>⟨h,j,b,a⟩,fun⟨_,j,b,a⟩=>⟨j,b,a⟩⟩;rw[aq h];exact⟨fun h=>(List.not_mem_nil h).elim,fun⟨h',_⟩=>absurd h' h⟩
theorem fm.agc (H:fm La Da Ra Lb Db Rb m) {k:Nat} (h:k∈xE La Da Ra Lb Db Rb m (oO m Ra) (oO m Rb)):k<bD (fq La Da Lb Db):=by obtain⟨x,hx,y,hy,hm,j,_,rfl⟩:=aaJ.1 h;exact(H.jn (CI H.HA hx) (CI H.HB hy) hm).lt j
theorem fm.agd (H:fm La Da Ra Lb Db Rb m):(xE La Da Ra Lb Db Rb m (oO m Ra) (oO m Rb)).Nodup:=by unfold xE;rw[zbM,zaD];have one:∀x∈oO m Ra,∀y∈oO m Rb,∀k∈Gk La Da Ra Lb Db Rb m x y,nU La Ra (jL La Lb) (cK (fq La Da Lb Db) k)=x/\nU Lb Rb (jL La Lb) (cK (fq La Da Lb Db) k)=y:=fun x hx y hy k c=>(by unfold Gk at c;split at c;rename_i hm;obtain⟨j,_,rfl⟩:=zaa.1 c;exact H.ahm (CI H.HA hx) (CI H.HB hy) hm j;cases c);refine⟨fun x hx=>?_,zao (fun{a b} f d h=>?_) (VO m Ra)⟩;unfold Qa;rw[zaD];refine⟨fun y hy=>?_,zao (fun{a b} f d h=>?_) (VO m Rb)⟩;unfold Gk;split;rename_i hm;rw[zbd];have N:=H.jn (CI H.HA hx) (CI H.HB hy) hm;exact zao (fun{a b} f d h e=>h (N.inj (zau.1 f) (zau.1 d) e)) zbk;exact zbO;intro k c l hl e;have i:=(one x hx a f k c).2;have g:=(one x hx b d l hl).2;rw[<-e] at g;exact h (i.symm.trans g);intro k c l hl e;obtain⟨y,hy,c⟩:=zap.1 c;obtain⟨z,n,hl⟩:=zap.1 hl;have i:=(one a f y hy k c).1;have g:=(one b d z n l hl).1;rw[<-e] at g;exact h (i.symm.trans g)
theorem fm.agb (H:fm La Da Ra Lb Db Rb m) {k:Nat} (b:k<bD (fq La Da Lb Db)) (hn:k∉xE La Da Ra Lb Db Rb m (oO m Ra) (oO m Rb)): ¬EV (nU La Ra (jL La Lb) (cK (fq La Da Lb Db) k))%m=0\/¬EV (nU Lb Rb (jL La Lb) (cK (fq La Da Lb Db) k))%m=0:=by rw[<-Decidable.not_and_iff_or_not];rintro⟨d,c⟩;refine hn (aaJ.2 ⟨_,aaK H.HA (H.VV k) d,_,aaK H.HB (H.VW k) c,H.VX k,?_⟩);exact(H.jn (H.VV k) (H.VW k) (H.VX k)).sur b fun i a=>H.amB k a
end
theorem aeR {f g:Nat->Int}:∀n,(∀i,i<n->f i=g i)->sm n f=sm n g
 |0,_=>rfl
 |n+1,h=>by simp only[sm];rw[aeR n fun i hi=>h i (by omega),h n (by omega)]
theorem V6 {r:Rg} {L D A:U} {m:Int} {R:List U} (h:FO r (L,D,A) (m,R)=true) {n:Nat} (hn:n<bD D) (a:zS D (m,R) n=true):FX r A n=fx r:=by obtain⟨d,h2,b⟩:=of_decide_eq_true h;obtain⟨hr,_,_,_,c,_,_,_,_⟩:=E4 d;exact(ahw hr c).1 b n hn a
theorem VY {L D J a:U} {R:List U} (S:Sub L D J a) (hR:R.length=D.length) (gJ:nW a) (k:Nat): sm D.length (FF R (cK D (v7 L D J (cK a k))))=EV (nU L R J (cK a k)):=by have g:(cK a k).length=J.length:=(by unfold cK;rw[rm,S.lJ]);have hl:=S.l;have hd:∀i,i<D.length->0<=(L.map (pO J (cK a k))).getD i 0/\(L.map (pO J (cK a k))).getD i 0<D.getD i 0:=fun i c=>(by have e:=S.s _ (g9 (l:=L) (i:=i) (by omega));have f:=iW e;have b:=KW gJ k (i:=cq J (L.getD i 0)) (by rw[S.lJ];exact f);rw[S.d i (by omega)] at b;rw[tw (by omega)];exact b);rw[J4 S.nL S.nJ S.s S.l g,KX (by rw[AI];exact S.l) hd];unfold EV;rw[z6,hl];refine aeR _ fun i c=>?_;rw[vV];unfold FF;rw[tw (by omega)];rfl
def trm (r:Rg) (A B:U) (oa ob:Nat->Nat) (k:Nat):U:=rb r (FX r A (oa k)) (FX r B (ob k))
def I5 (r:Rg) (La Da A Lb Db B:U):Nat->U:=trm r A B (fun k=>v7 La Da (jL La Lb) (cK (fq La Da Lb Db) k)) (fun k=>v7 Lb Db (jL La Lb) (cK (fq La Da Lb Db) k))
section
variable {r:Rg} {La Da A:U} {Ra:List U} {Lb Db B:U} {Rb:List U} {m:Int}
theorem asD (b:Sub La Da (jL La Lb) (fq La Da Lb Db)) (SB:Sub Lb Db (jL La Lb) (fq La Da Lb Db)) (a:jT r (La,Da,A)=true) (tb:jT r (Lb,Db,B)=true) (k:Nat):cL r (I5 r La Da A Lb Db B k)=true:= ahO (E4 a).1 (J9 a (b.lt k)) (J9 tb (SB.lt k))
theorem fm.asE (H:fm La Da Ra Lb Db Rb m) (c:FO r (La,Da,A) (m,Ra)=true) (a:FO r (Lb,Db,B) (m,Rb)=true) {k:Nat} (d:k<bD (fq La Da Lb Db)) (hn:k∉xE La Da Ra Lb Db Rb m (oO m Ra) (oO m Rb)):I5 r La Da A Lb Db B k=fx r:=by have b:=(of_decide_eq_true c).1;have tb:=(of_decide_eq_true a).1;have hr:=(E4 b).1;unfold I5 trm;rcases H.agb d hn with h|h;rw[V6 c (H.M8.lt k) (decide_eq_true (by rw[VY H.M8 H.HA.rl H.gJ k];exact h)),zero_mul hr (J9 tb (H.M9.lt k))];rw[V6 a (H.M9.lt k) (decide_eq_true (by rw[VY H.M9 H.HB.rl H.gJ k];exact h)),mul_zero hr (J9 b (H.M8.lt k))]
theorem fm.sum (H:fm La Da Ra Lb Db Rb m) (f:FO r (La,Da,A) (m,Ra)=true) (d:FO r (Lb,Db,B) (m,Rb)=true) (b:Nat->Nat) (n:Nat): SL r (AD r (I5 r La Da A Lb Db B) b n) (xE La Da Ra Lb Db Rb m (oO m Ra) (oO m Rb))=CU r (I5 r La Da A Lb Db B) b n (bD (fq La Da Lb Db)):=by have e:=(of_decide_eq_true f).1;have tb:=(of_decide_eq_true d).1;have hr:=(E4 e).1;have c:=asD H.M8 H.M9 e tb;rw[Pj hr c];refine agi hr (YV hr c b n) H.agd (fun k a=>H.agc a) fun k a hn=>?_;unfold AD;split;exact H.asE f d a hn;rfl
end

structure Cr (La Da Lb Db:U):Prop where
 xa:m6 La Da=true
 xb:m6 Lb Db=true
 pa:bD Da<=4096
 pb:bD Db<=4096
 c:∀v,v∈La->v∈Lb->Da.getD (cq La v) 0=Db.getD (cq Lb v) 0
section
variable {La Da Lb Db:U}
theorem Cr.dv (H:Cr La Da Lb Db) {v:Int} (b:v∈jL La Lb):1<=jd La Da Lb Db v/\jd La Da Lb Db v<=8:=by have l1:=(vP H.xa).2.1;have l2:=(vP H.xb).2.1;unfold jd;by_cases a:v∈La;have:=iW a;rw[ak this];exact Cy H.xa _ (g9 (by omega));have:=iW ((K8 b).resolve_left a);rw[aq fun q=>a (S7.1 q)];exact Cy H.xb _ (g9 (by omega))
theorem Cr.d8 (H:Cr La Da Lb Db):∀x∈fq La Da Lb Db,1<=x/\x<=8:=fun x hx=>by obtain⟨v,a,rfl⟩:=zaa.1 hx;exact H.dv a
theorem Cr.d7 (H:Cr La Da Lb Db):(jL La Lb).length<=24:=by have:=ZV La Lb;have:=(vP H.xa).1;have:=(vP H.xb).1;omega
end
def aaI (La Lb:U) (m:Int) (x y:U) (i:Nat):Prop:=La.getD i 0∈Lb->(x.getD i 0+y.getD (cq Lb (La.getD i 0)) 0)%m=0
instance (La Lb:U) (m:Int) (x y:U):DecidablePred (aaI La Lb m x y):=fun i=>by unfold aaI;infer_instance
section
variable {La Da:U} {Ra:List U} {Lb Db:U} {Rb:List U} {m:Int} {x y:U}
end
def ack (La Da:U) (Ra:List U) (Lb Db:U) (Rb:List U) (m:Int) (i:Nat):Prop:=
 La.getD i 0∈Lb->Da.getD i 0=Db.getD (cq Lb (La.getD i 0)) 0/\∀t,t<(Ra.getD i []).length->((Ra.getD i []).getD t 0+(Rb.getD (cq Lb (La.getD i 0)) []).getD t 0)%m=0
instance (La Da:U) (Ra:List U) (Lb Db:U) (Rb:List U) (m:Int):DecidablePred (ack La Da Ra Lb Db Rb m):=fun i=>by unfold ack;infer_instance
section
variable {La Da:U} {Ra:List U} {Lb Db:U} {Rb:List U} {m:Int}
end
section
variable {La Da:U} {Ra:List U} {Lb Db:U} {Rb:List U} {m:Int}
end
def VC:aH:=[(.agg,[.int .i64,.int .i64,.int .i64]),(.one,[.list [.int .i64]]),(.one,[.list [.int .i64]])]
def vI (NN:Nat):(Int×(Int×((Int×(Int×Int))×(U×U))))->(Option U):=
 (fun((i0,i1,(i2,i3,i4),l5,l6):(Int×(Int×((Int×(Int×Int))×(U×U)))))=>
 (iY i0 i1 (af l5)).ae (fun(k7,k8)=>
 cT (au (bR i2 (1:Int))
 (some (AN ((true,i2,(k7,k8),l6),l5,i2,i3,i4)))
 (some (AN ((bR i2 (5:Int),i2,(k7,k8),l6),l5,i2,i3,i4))))
 (fun((b9,eF,(jv,lI),dM),dX,iU,eU,jt)=>
 au (b9)
 ((dw (0:Int) lI).ae (fun yu=>
 (cP dX (aE jv yu)).ae (fun lF=>
 (cW dM (0:Int)).ae (fun gM=>
 (dw (0:Int) lI).ae (fun Hx=>
 (cP dX (aE jv Hx)).ae (fun h9=>
 (mz (af (bh dX (aE jv Hx) (sx lF gM))) (af l5)).ae (fun _=>
 some (bh dX (aE jv Hx) (sx lF gM)))))))))
 (au (bR eF (3:Int))
 ((dw (0:Int) lI).ae (fun R5=>
 (cP dX (aE jv R5)).ae (fun ox=>
 (cW dM (0:Int)).ae (fun qX=>
 (dw (0:Int) lI).ae (fun R6=>
 (cP dX (aE jv R6)).ae (fun sb=>
 (mz (af (bh dX (aE jv R6) (oE (cH .i64 ox qX) eU))) (af l5)).ae (fun _=>
 some (bh dX (aE jv R6) (oE (cH .i64 ox qX) eU)))))))))
 (au (bR eF (4:Int))
 ((dw (0:Int) lI).ae (fun k28=>
 (cP dX (aE jv k28)).ae (fun oy=>
 (cW dM (0:Int)).ae (fun lG=>
 (dw (0:Int) lI).ae (fun AZ=>
 (cP dX (aE jv AZ)).ae (fun nv=>
 (mz (af (bh dX (aE jv AZ) (oE oy lG))) (af l5)).ae (fun _=>
 some (bh dX (aE jv AZ) (oE oy lG)))))))))
 (au (bR eF (6:Int))
 ((dw (0:Int) lI).ae (fun yw=>
 (cP dX (aE jv yw)).ae (fun nw=>
 (cW dM (0:Int)).ae (fun yk=>
 (dw (0:Int) lI).ae (fun R7=>
 (cP dX (aE jv R7)).ae (fun wK=>
 (mz (af (bh dX (aE jv R7) (yW .i64 nw yk))) (af l5)).ae (fun _=>
 some (bh dX (aE jv R7) (yW .i64 nw yk)))))))))
 (cd NN (fun((((K9,A6),vj,sd,tJ),kw,RD,Ha,DO):(((Nat×Nat)×(U×(Int×Int)))×(U×(Int×(Int×Int)))))=>
 au (bF tJ sd)
 ((dw tJ A6).ae (fun k47=>
 (cP kw (aE K9 k47)).ae (fun KT=>
 (cW vj tJ).ae (fun Hc=>
 (w6 (cH .i64 KT Hc) Ha).ae (fun Hd=>
 (dw tJ A6).ae (fun ZZ=>
 (cP kw (aE K9 ZZ)).ae (fun Zy=>
 some (AN (((K9,A6),vj,sd,cH .i64 tJ 1),bh kw (aE K9 ZZ) Hd,RD,Ha,DO)))))))))
 (((mz (af kw) (af l5)).ae (fun _=>
 some kw)).ae (fun yG=>
 some (GB yG))))
 (((jv,lI),dM,aU lI,(0:Int)),dX,iU,eU,jt))))))))
def mE:(Int×(Int×((Int×(Int×Int))×(U×U))))->(Option U):=vI aK
theorem aiM (x:(Int×(Int×((Int×(Int×Int))×(U×U))))) (z:U) (h:mE x=some z):vI aK x=some z:=h
theorem Ym {xs u:U} {o i:Nat} (ho:o+u.length<=xs.length) (a:i<u.length):cP (eH xs o u) (aE o i)=some (u.getD i 0):=by show(eH xs o u)[o+i]? =_;unfold eH;rw[zac,zab (by rw[IS];omega),IS,zbo (by omega),zax,zad a,getD_some 0 a]
theorem aeD {xs u:U} {o i:Nat} (ho:o+u.length<=xs.length) (a:i<u.length) (v:Int):bh (eH xs o u) (aE o i) v=eH xs o (bh u i v):=by show(eH xs o u).set (o+i) v=eH xs o (u.set i v);unfold eH;rw[zac,List.set_append_right _ _ (by rw[IS];omega),IS,zbo (by omega),zax,List.set_append_left _ _ a,zay,zac]
theorem aqG {xs:U} {o w:Nat} (ho:o+w<=xs.length):eH xs o (iy xs o w)=xs:=by
 have hl:(iy xs o w).length=w:=by unfold iy;rw[IS,zaZ];omega
 unfold eH;rw[hl];unfold iy;rw[zac,<-zba,za5,za5]
theorem aqD {xs u:U} {o:Nat} (ho:o+u.length<=xs.length):(eH xs o u).length=xs.length:=by unfold eH;rw[AT,AT,IS,zaZ];omega
theorem ags {r:Rg} {xs y:U} {lo:Nat} (hr:ci r=true) (x:lo+ax r<=xs.length) (hx:cL r (iy xs lo (ax r))=true) (hy:cL r y=true): mE ((lo:Int),((lo+ax r:Nat):Int),r,xs,y)=some (eH xs lo (eQ r (iy xs lo (ax r)) y)):=by obtain⟨k,p,n⟩:=r;have F:=zv hr;have B:=aqG (xs:=xs) (o:=lo) (w:=ax (k,p,n)) x;have E:=gB hx;have one:ax (k,p,n)=1->∃a b,iy xs lo (ax (k,p,n))=[a]/\y=[b]/\(0<=a/\a<=bY (k,p,n))/\(0<=b/\b<=bY (k,p,n))/\xs[lo]? =some a/\∀v,eH xs lo [v]=bh xs lo v:=(by intro C;obtain⟨c,t⟩:=v9 hx C;obtain⟨d,z⟩:=v9 hy C;have g:=Ym (xs:=xs) (u:=iy xs lo (ax (k,p,n))) (o:=lo) (i:=0) (by omega) (by omega);rw[B,aE] at g;refine⟨_,_,c,d,t,z,?_,fun v=>?_⟩;have:(iy xs lo (ax (k,p,n))).getD 0 0=cu (iy xs lo (ax (k,p,n))) 0:=(by unfold cu;rfl);rw[<-this];exact g;have s:=aeD (xs:=xs) (u:=iy xs lo (ax (k,p,n))) (o:=lo) (i:=0) (by omega) (by omega) v;rw[B] at s;have:bh (iy xs lo (ax (k,p,n))) 0 v=[v]:=(by rw[c];rfl);rw[this] at s;exact s.symm);have m:iY (lo:Int) ((lo+ax (k,p,n):Nat):Int) (af xs)=some (lo,ax (k,p,n)):=(by rw[aeP (by omega) (by show lo+ax (k,p,n)<=xs.length;omega),zax]);have loop:∀k,(k=2\/k=7\/k=8)->gS p=true->ci (k,p,n)=true->iY (lo:Int) ((lo+ax (k,p,n):Nat):Int) (af xs)=some (lo,ax (k,p,n))->lo+ax (k,p,n)<=xs.length->eH xs lo (iy xs lo (ax (k,p,n)))=xs-> cL (k,p,n) (iy xs lo (ax (k,p,n)))=true->cL (k,p,n) y=true->mE ((lo:Int),((lo+ax (k,p,n):Nat):Int),(k,p,n),xs,y)=some (eH xs lo (eQ (k,p,n) (iy xs lo (ax (k,p,n))) y)):=(by intro k hk l hr m x B hx hy;have hm:=jR l;have E:=gB hx;have hly:=gB hy;have C:=jU hr;have F:=zv hr;have H:∀a b,gX (k,p,n) a b=(a+b)%p:=(by intro a b;simp only[gX];rw[aq (by omega),aq (by omega),aq (by omega),aq (by omega)]);have oZ:bY (k,p,n)=p - 1:=(by simp only[bY];rw[aq (by omega),aq (by omega),aq (by omega)]);generalize hX:iy xs lo (ax (k,p,n))=X at*;simp only[mE,vI,z7];rw[m];simp only[bd];rw[aq (by omega),xT (a:=k) (b:=5) (by omega),ft];simp only;rw[bi rfl,aq (by omega),aq (by omega),aq (by omega)];have tl:∀f,(fw (ax (k,p,n)) f).length=ax (k,p,n):=fun f=>aaq _ f;have G:∀f,(eH xs lo (fw (ax (k,p,n)) f)).length=xs.length:=fun f=>aqD (by rw[tl];exact x);rw[iG (fun i=>(((lo,ax (k,p,n)),y,aU (ax (k,p,n)),(i:Int)),eH xs lo (fw (ax (k,p,n)) (pE (fun j=>gX (k,p,n) (cu X j) (cu y j)) (cu X) i)),k,p,n)) (ax (k,p,n)) ?a1 ?a2 ?a3 fF];(case a3=>rw[afF,I1 E,B];rfl);(case a2=>simp only;rw[bi (dY (by simp only[aU];omega)),afG];rw[sL (show af (eH xs lo _)=af xs from G _),bd,bd];rfl);case a1=>intro i A;have t:=rO hx A;have z:=rO hy A;simp only;have D:cP (eH xs lo (fw (ax (k,p,n)) (pE (fun j=>gX (k,p,n) (cu X j) (cu y j)) (cu X) i))) (aE lo i)=some (cu X i):=(by rw[Ym (by rw[tl];exact x) (by rw[tl];exact A)];have:=Yo (w:=ax (k,p,n)) (pE (fun j=>gX (k,p,n) (cu X j) (cu y j)) (cu X) i) A;rw[asG,uu] at this;have e:cP (fw (ax (k,p,n)) (pE (fun j=>gX (k,p,n) (cu X j) (cu y j)) (cu X) i)) i=some ((fw (ax (k,p,n)) (pE (fun j=>gX (k,p,n) (cu X j) (cu y j)) (cu X) i)).getD i 0):=getD_some 0 (by rw[tl];exact A);rw[<-e,this]);rw[bm (eE (by simp only[aU];omega)),vT A,bd,D,bd,Qb,bd,fb,LZ,bd,bd,D,bd];have hn:=afH (f:=fun j=>gX (k,p,n) (cu X j) (cu y j)) (g:=cu X) (w:=ax (k,p,n)) (i:=i);rw[uu] at hn;rw[<-H,aeD (by rw[tl];exact x) (by rw[tl];exact A),hn,fb];rfl);rcases pt hr with⟨rfl,rfl,rfl⟩|⟨rfl,l,rfl⟩|⟨rfl,l,rfl⟩|⟨rfl,l,rfl⟩|⟨rfl,l,rfl⟩|⟨rfl,rfl,hn⟩|⟨rfl,l,hn⟩|⟨rfl,l,j3,rfl⟩;obtain⟨a,b,c,d,t,z,g,q⟩:=one rfl;rw[c,d,Fy rfl,q];have h:mE ((lo:Int),((lo+1:Nat):Int),((1:Int),(0:Int),(0:Int)),xs,[b])=some (bh xs lo (sx a b)):=(by simp only[mE,vI];rw[show iY (lo:Int) ((lo+1:Nat):Int) (af xs)=some (lo,1) from m];simp only[bd];rw[show bR (1:Int) 1=true from rfl,CS];simp only[cT,zav,CS];rw[show dw (0:Int) 1=some 0 from rfl];simp only[bd];rw[show cP xs (aE lo 0)=some a from g,show cW [b] (0:Int)=some b from rfl];simp only[bd];rw[sL (by show(bh xs (aE lo 0) _).length=_;simp[bh,af])];rfl);rw[show ax ((1:Int),(0:Int),(0:Int))=1 from rfl] at*;rw[h,anB t z];rfl;exact loop 2 (.inl rfl) l hr m x B hx hy;obtain⟨a,b,c,d,t,z,g,q⟩:=one rfl;rw[c,d,Fy rfl,q];have h:mE ((lo:Int),((lo+1:Nat):Int),((3:Int),p,(0:Int)),xs,[b])=some (bh xs lo (oE (cH .i64 a b) p)):=(by simp only[mE,vI];rw[show iY (lo:Int) ((lo+1:Nat):Int) (af xs)=some (lo,1) from m];simp only[bd];rw[show bR (3:Int) 1=false from rfl,uC];simp only[cT,zav];rw[show bR (3:Int) 5=false from rfl,uC,show bR (3:Int) 3=true from rfl,CS];rw[show dw (0:Int) 1=some 0 from rfl];simp only[bd];rw[show cP xs (aE lo 0)=some a from g,show cW [b] (0:Int)=some b from rfl];simp only[bd];rw[sL (by show(bh xs (aE lo 0) _).length=_;simp[bh,af])];rfl);rw[show ax ((3:Int),p,(0:Int))=1 from rfl] at*;rw[h,fb,HV];rfl;obtain⟨a,b,c,d,t,z,g,q⟩:=one rfl;rw[c,d,Fy rfl,q];have h:mE ((lo:Int),((lo+1:Nat):Int),((4:Int),p,(0:Int)),xs,[b])=some (bh xs lo (oE a b)):=(by simp only[mE,vI];rw[show iY (lo:Int) ((lo+1:Nat):Int) (af xs)=some (lo,1) from m];simp only[bd];rw[show bR (4:Int) 1=false from rfl,uC];simp only[cT,zav];rw[show bR (4:Int) 5=false from rfl,uC,show bR (4:Int) 3=false from rfl,uC,show bR (4:Int) 4=true from rfl,CS];rw[show dw (0:Int) 1=some 0 from rfl];simp only[bd];rw[show cP xs (aE lo 0)=some a from g,show cW [b] (0:Int)=some b from rfl];simp only[bd];rw[sL (by show(bh xs (aE lo 0) _).length=_;simp[bh,af])];rfl);rw[show ax ((4:Int),p,(0:Int))=1 from rfl] at*;rw[h,HV];rfl;obtain⟨a,b,c,d,t,z,g,q⟩:=one rfl;rw[c,d,Fy rfl,q];have h:mE ((lo:Int),((lo+1:Nat):Int),((5:Int),p,(0:Int)),xs,[b])=some (bh xs lo (sx a b)):=(by simp only[mE,vI];rw[show iY (lo:Int) ((lo+1:Nat):Int) (af xs)=some (lo,1) from m];simp only[bd];rw[show bR (5:Int) 1=false from rfl,uC];simp only[cT,zav];rw[show bR (5:Int) 5=true from rfl,CS];rw[show dw (0:Int) 1=some 0 from rfl];simp only[bd];rw[show cP xs (aE lo 0)=some a from g,show cW [b] (0:Int)=some b from rfl];simp only[bd];rw[sL (by show(bh xs (aE lo 0) _).length=_;simp[bh,af])];rfl);rw[show ax ((5:Int),p,(0:Int))=1 from rfl] at*;rw[h,aaH];rfl;obtain⟨a,b,c,d,t,z,g,q⟩:=one rfl;rw[c,d,Fy rfl,q];have h:mE ((lo:Int),((lo+1:Nat):Int),((6:Int),(0:Int),n),xs,[b])=some (bh xs lo (yW .i64 a b)):=(by simp only[mE,vI];rw[show iY (lo:Int) ((lo+1:Nat):Int) (af xs)=some (lo,1) from m];simp only[bd];rw[show bR (6:Int) 1=false from rfl,uC];simp only[cT,zav];rw[show bR (6:Int) 5=false from rfl,uC,show bR (6:Int) 3=false from rfl,uC,show bR (6:Int) 4=false from rfl,uC,show bR (6:Int) 6=true from rfl,CS];rw[show dw (0:Int) 1=some 0 from rfl];simp only[bd];rw[show cP xs (aE lo 0)=some a from g,show cW [b] (0:Int)=some b from rfl];simp only[bd];rw[sL (by show(bh xs (aE lo 0) _).length=_;simp[bh,af])];rfl);rw[show ax ((6:Int),(0:Int),n)=1 from rfl] at*;rw[h,SY];rfl;exact loop 7 (.inr (.inl rfl)) l hr m x B hx hy;exact loop 8 (.inr (.inr rfl)) l hr m x B hx hy
def Jp (NN:Nat):((Int×(Int×Int))×(U×(U×U)))->(Option (U×(U×U))):=
 (fun(((i0,i1,i2),l3,l4,l5):((Int×(Int×Int))×(U×(U×U))))=>
 (Cg ((i0,i1,i2),l3,l4)).ae (fun(l6,l7,l8)=>
 cT ((bj 0 0 (af (([]:U)))).ae (fun _=>
 (bj 0 0 (af (([]:U)))).ae (fun _=>
 (bj 0 0 (af (([]:U)))).ae (fun _=>
 aB l6 (
 aB l7 (
 aB l8 (
 cd NN (fun((i9,(eF,eK,gu),(dM,dX,gT),ib,gD,gE,fC,kv,sk):(Int×((Int×(Int×Int))×((U×(U×U))×(U×(U×(U×(U×(U×U)))))))))=>
 (vG (dX,(4096:Int))).ae (fun h9=>
 au (bF i9 h9)
 ((vE (eF,eK,gu)).ae (fun nC=>
 (cM fC 0 (af fC)).ae (fun d7=>
 (cM kv 0 (af kv)).ae (fun fv=>
 aB sk (
 (cM nC 0 (af nC)).ae (fun iF=>
 (vH ((eF,eK,gu),(d7,fv,sk),i9,iF)).ae (fun ji=>
 aB ib (
 aB gD (
 aB gE (
 aB fC (
 aB kv (
 (bj 0 (af sk) (af ji)).ae (fun _=>
 some (AN (cH .i64 i9 1,(eF,eK,gu),(dM,dX,gT),ib,gD,gE,fC,kv,ji)))))))))))))))
 ((aB ib (
 aB gD (
 aB gE (
 aB fC (
 aB kv (
 aB sk (
 some (AN (ib,gD,gE,fC,kv,sk))))))))).ae (fun ic=>
 some (GB ic)))))
 ((0:Int),(i0,i1,i2),(l3,l4,l5),([]:U),([]:U),([]:U),l6,l7,l8))))))))
 (fun(o8,nD,vi,tM,p9,sq)=>
 (d9 tM (af tM)).ae (fun Sh=>
 (d9 p9 (af p9)).ae (fun D3=>
 (d9 sq (af sq)).ae (fun oC=>
 some (Sh,D3,oC)))))))
def zK:((Int×(Int×Int))×(U×(U×U)))->(Option (U×(U×U))):=Jp aK
theorem ajJ (x:((Int×(Int×Int))×(U×(U×U)))) (z:(U×(U×U))) (h:zK x=some z):Jp aK x=some z:=h
theorem Sg {a b c:Int} {L D:U} (hr:ci (a,b,c)=true) (hL:L.length<=1048576) (d:xR D) (z:U):
  zK ((a,b,c),L,D,z)=some (L,D,bQ (fun _=>eW (a,b,c)) (bD D)):=by
 have hz:=Ff hr;have q:(eW (a,b,c)).length=ax (a,b,c):=gB (rP hr);have hw:=jU hr;have k:=d.2.2;have hm:=IN k (show ax (a,b,c)<=6 by omega);simp only[zK,Jp,aB];rw[show Cg ((a,b,c),L,D)=some (L,D,nH (fx (a,b,c)) (bD D)) from ak ⟨hr,hL,d⟩]
 simp only[bd,de];rw[show bj 0 0 (af ([]:U))=some () from rfl]
 simp only[bd];let g:Nat->Nat->U:=fun i n=>if n<i then eW (a,b,c) else fx (a,b,c)
 have l:∀i n,(g i n).length=ax (a,b,c):=by intro i n;dsimp only[g];split<;>omega
 have j:∀i,(bQ (g i) (bD D)).length=bD D*ax (a,b,c):=fun i=>qD fun n _=>l i n;rw[iG (fun i=>((i:Int),(a,b,c),(L,D,z),([]:U),([]:U),([]:U),L,D,bQ (g i) (bD D))) (bD D) (r:=AN (([]:U),([]:U),([]:U),L,D,bQ (fun _=>eW (a,b,c)) (bD D))) ?a1 ?a2 ?a3 fF]
 case a1=>
  intro i m;have u:vH ((a,b,c),(L,D,bQ (g i) (bD D)),(i:Int),eW (a,b,c))=some (bQ (g (i+1)) (bD D)):=by
   have e:=LW (x:=eW (a,b,c)) q (fun n _=>l i n) m;have p:=If (ax (a,b,c)) (show i+1<=bD D from m)
   rw[OF,Pe] at p;have f:eH (bQ (g i) (bD D)) ((i:Int).toNat*ax (a,b,c)) (eW (a,b,c))=bQ (g (i+1)) (bD D):=by
    rw[BY,e];refine vS fun n _=>?_;dsimp only[g];by_cases o:n=i
    ·rw[ak o,ak (by omega)]
    ·rw[aq o];by_cases f:n<i
     ·rw[ak f,ak (by omega)]
     ·rw[aq f,aq (by omega)]
   have s:(i:Int).toNat*ax (a,b,c)+(eW (a,b,c)).length<=(bQ (g i) (bD D)).length:=by rw[j,BY,q];exact p
   have t:(bQ (g i) (bD D)).length<=1048576:=by rw[j];omega
   exact(ak ⟨hr,zaz i,s,t⟩).trans (congrArg some f)
  dsimp only
  rw[Tb d.1 d.2.1 k];simp only[bd];rw[bm eE,show vE (a,b,c)=some (eW (a,b,c)) from ak hr]
  simp only[bd,de,mD,u];rw[show bj 0 (af (bQ (g i) (bD D))) (af (bQ (g (i+1)) (bD D)))=some () from n5 (by simp only[af,j])]
  simp only[bd];rw[fb];rfl
 case a2=>
  dsimp only
  rw[Tb d.1 d.2.1 k];simp only[bd];rw[bi dY]
  try simp only[bd,de]
  rw[vS (n:=bD D) (g:=g (bD D)) (h:=fun _=>eW (a,b,c)) fun n hn=>ak hn]
 case a3=>
  rw[Th];rfl
 simp only[cT,zav,j9,bd]
def Jf (NN:Nat):((Int×(Int×Int))×(U×U))->(Option U):=
 (fun(((i0,i1,i2),l3,l4):((Int×(Int×Int))×(U×U)))=>
 (ud ((i0,i1,i2),l3)).ae (fun b5=>
 au (dh b5)
 (some (([]:U)))
 ((ud ((i0,i1,i2),l4)).ae (fun b6=>
 au (dh b6)
 (some (([]:U)))
 ((rB l3).ae (fun l7=>
 (cP l7 0).ae (fun i8=>
 (cM l7 0 (af l7)).ae (fun l9=>
 aB l7 (
 (mE (aU 0,aU (aE 0 (af l7)),(i0,i1,i2),l7,l4)).ae (fun eV=>
 (d9 eV (af l7)).ae (fun tK=>
 some tK)))))))))))
def BO:((Int×(Int×Int))×(U×U))->(Option U):=Jf aK
theorem aiD (x:((Int×(Int×Int))×(U×U))) (z:U) (h:BO x=some z):Jf aK x=some z:=h
theorem agr {c d a:Int} {x y:U} (hr:ci (c,d,a)=true) (hx:cL (c,d,a) x=true) (hy:cL (c,d,a) y=true): BO ((c,d,a),x,y)=some (eQ (c,d,a) x y):=by have hw:=jU hr;have i:=gB hx;have ly:=gB hy;have g:=gB (FY hr hx hy);have f:iy x 0 (ax (c,d,a))=x:=(by unfold iy;rw[zbt,za3 (by omega)]);have j:eH x 0 (eQ (c,d,a) x y)=eQ (c,d,a) x y:=(by unfold eH;rw[zbu,List.nil_append,za2 (by omega),zal]);have h:cP x 0=some (x.getD 0 0):=(by unfold cP;rw[co,wt (by omega)];rfl);have e:=ags (lo:=0) hr (xs:=x) (y:=y) (by omega) (by rw[f];exact hx) hy;rw[f,j] at e;have hl:af x=ax (c,d,a):=i;simp only[BO,Jf,aB];rw[show ud ((c,d,a),x)=some true from(ak (by omega)).trans (by rw[hr,hx];rfl),show ud ((c,d,a),y)=some true from(ak (by omega)).trans (by rw[hr,hy];rfl),show rB x=some x from ak (by omega)];simp only[bd];rw[bi (b:=dh true) rfl,bi (b:=dh true) rfl];simp only[h,bd,mD,de];rw[hl,show mE (aU 0,aU (aE 0 (ax (c,d,a))),(c,d,a),x,y)=some (eQ (c,d,a) x y) from e];simp only[bd];rw[show ax (c,d,a)=af (eQ (c,d,a) x y) from g.symm,j9];rfl
theorem ZX {X ρ:Type} {o:Option (X⊕ρ)} {k:X->Option ρ} {P:ρ->Prop} (Q:X⊕ρ->Prop) (b:∃r,o=some r/\Q r) (a:∀r,Q r->∃z,cT (some r) k=some z/\P z):∃z,cT o k=some z/\P z:=by obtain⟨r,e,c⟩:=b;rw[e];exact a r c
def Ia (q:Int) (t:T3):Prop:=t.1.length=t.2.1.length/\t.1.length<=12/\(∀l∈t.1,0<=l/\l<100)/\∀d∈t.2.1,d=q
def Ei (q:Int) (a:lU):Prop:=∀j,gA a j=0\/gA a j=q
theorem ao9 {q:Int} {a:lU} (h:Ei q a) {i:Nat} (c:i<100):∃b,zd pM a i q=some b/\Ei q b:=by obtain⟨b,e,d⟩:=arF a q c;refine⟨b,e,fun j=>?_⟩;rw[d];split;exact .inr rfl;exact h j
def Jj (NN:Nat):(List (U×(U×U)))->(Option (lU×Bool)):=
 (fun(l0:(List (U×(U×U))))=>
 cT (cd NN (fun(((l1,i2,i3),a4,a5):(((List (U×(U×U)))×(Int×Int))×(lU×lU)))=>
 au (bF i3 i2)
 (cT ((cW l1 i3).ae (fun(l6,l7,l8)=>
 cd NN (fun(((l9,eF,eK,fe,mn,hZ),OA,Cu,gD,gE,fC):(((List (U×(U×U)))×(Int×(Int×(U×(Int×Int)))))×(lU×(lU×(U×(U×U))))))=>
 au (bF hZ mn)
 ((cW fe hZ).ae (fun gM=>
 (dw gM 100).ae (fun Hx=>
 (uN pM Cu (aE 0 Hx)).ae (fun h9=>
 au (ff h9 (0:Int))
 ((dw gM 100).ae (fun R5=>
 (uN pM Cu (aE 0 R5)).ae (fun ox=>
 (cW gE hZ).ae (fun qX=>
 au (ff ox qX)
 (some (GB (GB (GB (GB (Cu,false))))))
 ((cW gE hZ).ae (fun o7=>
 (dw gM 100).ae (fun Hy=>
 (zd pM Cu (aE 0 Hy) o7).ae (fun a28=>
 some (AN ((l9,eF,eK,fe,mn,cH .i64 hZ 1),OA,a28,gD,gE,fC))))))))))
 ((cW gE hZ).ae (fun oy=>
 (dw gM 100).ae (fun k30=>
 (zd pM Cu (aE 0 k30) oy).ae (fun a31=>
 some (AN ((l9,eF,eK,fe,mn,cH .i64 hZ 1),OA,a31,gD,gE,fC))))))))))
 (some (GB (AN ((eK,l9,eF),OA,Cu)))))
 ((l1,i2,i3,l6,aU (af l6),(0:Int)),a4,a5,l6,l7,l8)))
 (fun((nv,p9,nw),a35,a36)=>
 some (AN ((p9,nw,cH .i64 nv 1),a35,a36))))
 (some (GB (AN (a4,a5)))))
 ((l0,aU (af l0),(0:Int)),xu 100,xu 100))
 (fun(a37,a38)=>
 some (a38,true)))
def BT:(List (U×(U×U)))->(Option (lU×Bool)):=Jj aK
theorem aiP (x:(List (U×(U×U)))) (z:(lU×Bool)) (h:BT x=some z):Jj aK x=some z:=h
theorem ahG {q:Int} {ts:List T3} (h:∀t∈ts,Ia q t) (hl:ts.length<=1000):∃z,BT ts=some z/\z.2=true:=by
 simp only[BT,Jj];refine ZX (fun r=>∃a b,r=AN (a,b)) (aaz ts.length (fun i x=>∃a b,x=((ts,aU (af ts),(i:Int)),a,b)/\Ei q b) _ ?s1 ?s2 ?s0 fF) ?s3
 case s0=>exact⟨_,_,rfl,fun j=>.inl (ajP j)⟩
 case s2=>
  rintro x ⟨a,b,rfl,hb⟩;exact⟨AN (a,b),by dsimp only;rw[bi (dY (by rw[nl];omega))],a,b,rfl⟩
 case s3=>
  rintro r ⟨a,b,rfl⟩;exact⟨_,rfl,rfl⟩
 case s1=>
  rintro i x hi ⟨a,b,rfl,hb⟩;dsimp only
  obtain⟨t,ht⟩:∃t,ts[i]? =some t:=⟨_,wt hi⟩;obtain⟨L,D,X⟩:=t;obtain⟨h1,h2,h3,h4⟩:=h _ (Pd ht);dsimp only at h1 h2 h3 h4;rw[bm (eE (by rw[nl];omega)),eZ,ht];simp only[bd]
  suffices hs:∃z,cT (cd aK _ _) _=some z/\∃x',z=AN x'/\∃a b,x'=((ts,aU (af ts),((i+1:Nat):Int)),a,b)/\Ei q b by
   obtain⟨z,e,x',rfl,r⟩:=hs;exact⟨x',e,r⟩
  refine ZX (fun r=>∃b',r=AN (((i:Int),ts,aU (af ts)),a,b')/\Ei q b') (aaz L.length (fun n x=>∃b',x=((ts,aU (af ts),(i:Int),L,aU (af L),(n:Int)),a,b',L,D,X)/\Ei q b') _ ?t1 ?t2 ?t0 fF) ?t3
  case t0=>exact⟨b,rfl,hb⟩
  case t2=>
   rintro x ⟨b',rfl,aO⟩;exact⟨_,by dsimp only;rw[bi (dY (by rw[nl];omega))],b',rfl,aO⟩
  case t3=>
   rintro r ⟨b',rfl,aO⟩;refine⟨_,rfl,_,rfl,a,b',?_,aO⟩;dsimp only
   rw[fb];rfl
  case t1=>
   rintro n x hn ⟨b',rfl,aO⟩;dsimp only
   obtain⟨l,eJ⟩:∃l,L[n]? =some l:=⟨_,wt hn⟩;have GO:n<D.length:=by omega
   have hd:D[n]? =some q:=by rw[wt GO,h4 _ (za0 GO)]
   obtain⟨l0,l1⟩:=h3 l (Pd eJ);obtain⟨m,rfl⟩:∃m:Nat,l=(m:Int):=⟨l.toNat,by omega⟩;have hm:m<100:=by omega
   obtain⟨c,hc,hoc⟩:=ao9 aO hm;have e1:aE 0 m=m:=zaC m;have g1:uN pM b' m=some (gA b' m):=ajT b' hm;rw[bm (eE (by rw[nl];omega)),eZ,eJ,eZ,hd];simp only[bd,vT hm,e1,g1,hc];rw[fb];refine⟨((ts,aU (af ts),(i:Int),L,aU (af L),((n+1:Nat):Int)),a,c,L,D,X),?_,c,rfl,hoc⟩;rcases aO m with e|e
   ·rw[e,bi (b:=ff 0 0) rfl];rfl
   ·rw[e];have e2:ff q q=false:=tQ rfl;by_cases hq:q=0
    ·rw[bi (tQ hq)];rfl
    ·rw[bm (yT hq),bi e2];rfl
def Ji (NN:Nat):(lU×U)->(Option (U×(U×U))):=
 (fun((a0,l1):(lU×U))=>
 (rB l1).ae (fun l2=>
 (mr (aU (af l1)) (aU (af l1)) 8).ae (fun k3=>
 cT ((bj 0 0 (af (([]:U)))).ae (fun _=>
 (bj 0 0 (af (([]:U)))).ae (fun _=>
 (bj 0 0 (af (([]:U)))).ae (fun _=>
 aB l2 (
 (bj 0 k3 (af (dn k3 (0:Int)))).ae (fun _=>
 (bj 0 0 (af (([]:U)))).ae (fun _=>
 cd NN (fun(((l4,i5,i6),a7,l8,l9,eV,tK,fe,dM):((U×(Int×Int))×(lU×(U×(U×(U×(U×(U×U))))))))=>
 au (bF i6 i5)
 ((cW l4 i6).ae (fun hZ=>
 (dw hZ 100).ae (fun AY=>
 (uN pM a7 (aE 0 AY)).ae (fun eU=>
 (dw i6 (af fe)).ae (fun sj=>
 (cP fe (aE 0 sj)).ae (fun iE=>
 aB l8 (
 aB l9 (
 aB eV (
 aB tK (
 (bj 0 (af fe) (af (bh fe (aE 0 sj) eU))).ae (fun _=>
 aB dM (
 some (AN ((l4,i5,cH .i64 i6 1),a7,l8,l9,eV,tK,bh fe (aE 0 sj) eU,dM))))))))))))))
 ((aB l8 (
 aB l9 (
 aB eV (
 aB tK (
 aB fe (
 aB dM (
 some (AN (l8,l9,eV,tK,fe,dM))))))))).ae (fun fC=>
 some (GB fC))))
 ((l1,aU (af l1),(0:Int)),a0,([]:U),([]:U),([]:U),l2,dn k3 (0:Int),([]:U)))))))))
 (fun(kv,sk,sn,nC,d7,fv)=>
 (d9 nC (af nC)).ae (fun iF=>
 (d9 d7 (af d7)).ae (fun ji=>
 (d9 fv (af fv)).ae (fun ic=>
 some (iF,ji,ic))))))))
def BS:(lU×U)->(Option (U×(U×U))):=Ji aK
theorem aiN (x:(lU×U)) (z:(U×(U×U))) (h:BS x=some z):Ji aK x=some z:=h
theorem agJ (a:lU):BS (a,[])=some ([],[],[]):=by simp only[BS,Ji,aB];rw[show rB []=some [] from rfl];simp only[bd];rw[show mr (aU (af ([]:U))) (aU (af ([]:U))) 8=some 0 from rfl];simp only[bd];rw[show bj 0 0 (af ([]:U))=some () from rfl,show bj 0 (af ([]:U)) (af ([]:U))=some () from rfl,show bj 0 0 (af (dn 0 (0:Int)))=some () from rfl];simp only[bd];rw[iG (fun i=>(([],aU (af ([]:U)),(i:Int)),a,([]:U),([]:U),([]:U),([]:U),dn 0 (0:Int),([]:U))) 0 (r:=AN (([]:U),([]:U),([]:U),([]:U),([]:U),([]:U))) ?a1 ?a2 ?a3 fF];(case a1=>intro i hi;omega);(case a2=>rfl);(case a3=>rfl);rfl
def Jg (NN:Nat):(Int×(Int×(Int×((List (U×(U×U)))×U))))->(Option Bool):=
 (fun((i0,i1,i2,l3,l4):(Int×(Int×(Int×((List (U×(U×U)))×U)))))=>
 (rA (i0,i1,i2)).ae (fun b5=>
 au (dh b5)
 (some false)
 (au (bF (12:Int) (aU (af l3)))
 (some false)
 (au (bF (12:Int) (aU (af l4)))
 (some false)
 (cT (cd NN (fun(((l6,i7,i8),i9,eF,eK,fe,dM):(((List (U×(U×U)))×(Int×Int))×(Int×(Int×(Int×((List (U×(U×U)))×U))))))=>
 au (bF i8 i7)
 ((cW l6 i8).ae (fun(dX,gT,ib)=>
 (BR ((i9,eF,eK),dX,gT,ib)).ae (fun FD=>
 au (dh FD)
 (some (GB (GB false)))
 (some (AN ((l6,i7,cH .i64 i8 1),i9,eF,eK,fe,dM))))))
 (some (GB (AN (i9,eF,eK,fe,dM)))))
 ((l3,aU (af l3),(0:Int)),i0,i1,i2,l3,l4))
 (fun(iE,lF,gM,sk,sn)=>
 (BT sk).ae (fun(a23,b24)=>
 au (dh b24)
 (some false)
 (cT (cd NN (fun(((fv,o7,sb),(tI,oy,lG,vi,tM),OB):((U×(Int×Int))×((Int×(Int×(Int×((List (U×(U×U)))×U))))×lU)))=>
 au (bF sb o7)
 ((cW fv sb).ae (fun nw=>
 au (bF nw (0:Int))
 (some (GB (GB false)))
 (au (bF (99:Int) nw)
 (some (GB (GB false)))
 ((dw nw 100).ae (fun q8=>
 (uN pM OB (aE 0 q8)).ae (fun vd=>
 au (bR vd (0:Int))
 (some (GB (GB false)))
 (some (AN ((fv,o7,cH .i64 sb 1),(tI,oy,lG,vi,tM),OB)))))))))
 (some (GB (AN ((tI,oy,lG,vi,tM),OB)))))
 ((sn,aU (af sn),(0:Int)),(iE,lF,gM,sk,sn),a23))
 (fun((wK,AO,i39,vj,A7),a42)=>
 (BS (a42,A7)).ae (fun(kw,mO,oD)=>
 (cM kw 0 (af kw)).ae (fun wP=>
 (cM mO 0 (af mO)).ae (fun yE=>
 (cM oD 0 (af oD)).ae (fun vk=>
 (zE (wP,yE,vk)).ae (fun Hc=>
 some (ff Hc ((-1:Int)))))))))))))))))
def BQ:(Int×(Int×(Int×((List (U×(U×U)))×U))))->(Option Bool):=Jg aK
theorem aiH (x:(Int×(Int×(Int×((List (U×(U×U)))×U))))) (z:Bool) (h:BQ x=some z):Jg aK x=some z:=h
theorem aoZ {q c f d:Int} {ts:List T3} (hr:ci (c,f,d)=true) (h:∀t∈ts,Ia q t) (hl:ts.length<=1000) (o:∀t∈ts,jT (c,f,d) t=true) (l:∀t∈ts,t.2.2.length<=1048576): BQ (c,f,d,ts,[])=some (decide (ts.length<=12)):=by simp only[BQ,Jg];rw[show rA (c,f,d)=some true from congrArg some hr];simp only[bd];rw[bi (b:=dh true) rfl];by_cases j:ts.length<=12;(case neg=>rw[bm (eE (by rw[nl];omega)),decide_eq_false j]);rw[bi (dY (by rw[nl];omega)),bi (b:=bF 12 (aU (af ([]:U)))) rfl,decide_eq_true j];rw[iG (fun i=>((ts,aU (af ts),(i:Int)),c,f,d,ts,([]:U))) ts.length (r:=AN (c,f,d,ts,([]:U))) ?a1 ?a2 ?a3 fF];(case a1=>intro i g;obtain⟨t,e⟩:∃t,ts[i]? =some t:=⟨_,wt g⟩;have hm:=Pd e;obtain⟨h1,h2,h3,h4⟩:=h _ hm;have hx:=l _ hm;have m:BR ((c,f,d),t)=some true:=(ak ⟨by dsimp only;omega,by dsimp only;omega,hx⟩).trans (congrArg some (o _ hm));dsimp only;rw[bm (eE (by rw[nl];omega)),eZ,e];simp only[bd];rw[show((c,f,d),t.1,t.2.1,t.2.2)=((c,f,d),t) from rfl,m];simp only[bd];rw[bi (b:=dh true) rfl,fb];rfl);(case a2=>dsimp only;rw[bi (dY (by rw[nl];omega))]);(case a3=>rfl);obtain⟨z,n,k⟩:=ahG h hl;obtain⟨a,b⟩:=z;dsimp only at k;subst k;simp only[ft,n,bd];rw[bi (b:=dh true) rfl];rw[iG (fun i=>((([]:U),aU (af ([]:U)),(i:Int)),(c,f,d,ts,([]:U)),a)) 0 (r:=AN ((c,f,d,ts,([]:U)),a)) ?b1 ?b2 ?b3 fF];(case b1=>intro i g;omega);(case b2=>rfl);(case b3=>rfl);simp only[ft,agJ,bd];rfl
def Jm (NN:Nat):((List (U×(U×U)))×Int)->(Option Int):=
 (fun((l0,i1):((List (U×(U×U)))×Int))=>
 cT (cd NN (fun((i2,l3,i4,i5):(Int×((List (U×(U×U)))×(Int×Int))))=>
 au (bF i5 i4)
 ((cW l3 i5).ae (fun(l6,l7,l8)=>
 (uj (l6,i2)).ae (fun i9=>
 au (gO (0:Int) i9)
 ((cW l7 i9).ae (fun eF=>
 some (GB (GB eF))))
 (some (AN (i2,l3,i4,cH .i64 i5 1))))))
 (some (GB (AN ()))))
 (i1,l0,aU (af l0),(0:Int)))
 (fun _=>
 some (0:Int)))
def zJ:((List (U×(U×U)))×Int)->(Option Int):=Jm aK
theorem ajH (x:((List (U×(U×U)))×Int)) (z:Int) (h:zJ x=some z):Jm aK x=some z:=h
theorem anb {q:Int} {ts:List T3} (v:Int) (h:∀t∈ts,Ia q t) (hl:ts.length<=1000):∃d,zJ (ts,v)=some d/\(d=0\/d=q):=by
  simp only[zJ,Jm]
  suffices hs:∃r,cd aK _ _=some r/\(r=AN ()\/r=GB q) by
    obtain⟨r,e,hr⟩:=hs;rw[e];rcases hr with rfl|rfl
    · exact⟨0,rfl,.inl rfl⟩
    · exact⟨q,rfl,.inr rfl⟩
  have cU:∀n i,i+n=ts.length->∃r:Unit⊕Int,(∀N,n<N->cd N (fun((i2,l3,i4,i5):(Int×((List (U×(U×U)))×(Int×Int))))=>
        au (bF i5 i4)
          ((cW l3 i5).ae (fun((l6,l7,l8):(U×(U×U)))=>
            (uj (l6,i2)).ae (fun(i9:Int)=>
              au (gO (0:Int) i9)
                ((cW l7 i9).ae (fun(eF:Int)=>
                  some (GB (GB eF))))
                (some (AN (i2,l3,i4,cH .i64 i5 (1:Int)))))))
          (some (GB (AN ())))) (v,ts,aU (af ts),(i:Int))=some r)/\(r=AN ()\/r=GB q):=by
    intro n;induction n with
    |zero=>
     intro i hi;refine⟨AN (),fun N hN=>?_,.inl rfl⟩;obtain⟨N,rfl⟩:∃M,N=M+1:=⟨N - 1,by omega⟩;simp only[cd];rw[bi (dY (by rw[nl];omega))]
    |succ n ih=>
     intro i hi;have ee:i<ts.length:=by omega
     obtain⟨t,e⟩:∃t,ts[i]? =some t:=⟨_,wt ee⟩;obtain⟨L,D,X⟩:=t;obtain⟨h1,h2,h3,h4⟩:=h _ (Pd e);dsimp only at h1 h2 h3 h4;have hf:uj (L,v)=some (uG L v):=ak (by dsimp only;omega);by_cases hp:cq L v<L.length
     · refine⟨GB q,fun N hN=>?_,.inr rfl⟩;obtain⟨N,rfl⟩:∃M,N=M+1:=⟨N - 1,by omega⟩;have e1:uG L v=(cq L v:Int):=ak hp;have hD:cq L v<D.length:=by omega
       simp only[cd];rw[bm (eE (by rw[nl];omega)),eZ,e];simp only[bd,hf,e1];rw[bm yL,eZ,wt hD,h4 _ (za0 hD)];rfl
     · obtain⟨r,hr,hq⟩:=ih (i+1) (by omega);refine⟨r,fun N hN=>?_,hq⟩;obtain⟨N,rfl⟩:∃M,N=M+1:=⟨N - 1,by omega⟩;have e1:uG L v= -1:=aq hp;simp only[cd];rw[bm (eE (by rw[nl];omega)),eZ,e];simp only[bd,hf,e1];rw[bi Lp,fb];exact hr N (by omega)
  obtain⟨r,hr,hq⟩:=cU ts.length 0 (by omega);exact⟨r,hr aK fF,hq⟩
def Jo (NN:Nat):((List (U×(U×U)))×U)->(Option U):=
 (fun((l0,l1):((List (U×(U×U)))×U))=>
 cT ((bj 0 0 (af (([]:U)))).ae (fun _=>
 cd NN (fun(((l2,l3,i4,i5),l6):(((List (U×(U×U)))×(U×(Int×Int)))×U))=>
 au (bF i5 i4)
 ((cW l3 i5).ae (fun i7=>
 (zJ (l2,i7)).ae (fun i8=>
 aB l6 (
 (cM ((i8::([]:U))) 0 1).ae (fun l9=>
 (n3 (aE (af l6) (af l9)) 8).ae (fun _=>
 (bj 0 (aE (af l6) (af l9)) (af (eR l6 l9))).ae (fun _=>
 some (AN ((l2,l3,i4,cH .i64 i5 1),eR l6 l9)))))))))
 ((aB l6 (
 some (AN l6))).ae (fun eV=>
 some (GB eV))))
 ((l0,l1,aU (af l1),(0:Int)),([]:U))))
 (fun tK=>
 (d9 tK (af tK)).ae (fun fe=>
 some fe)))
def Ch:((List (U×(U×U)))×U)->(Option U):=Jo aK
theorem ajI (x:((List (U×(U×U)))×U)) (z:U) (h:Ch x=some z):Jo aK x=some z:=h
theorem anc (ts:List T3):Ch (ts,[])=some []:=by
 simp only[Ch,Jo,aB];rw[show bj 0 0 (af ([]:U))=some () from rfl]
 simp only[bd];rw[iG (fun i=>((ts,[],aU (af ([]:U)),(i:Int)),([]:U))) 0 (r:=AN ([]:U)) ?a1 ?a2 ?a3 fF]
 case a1=>intro i hi;omega
 case a2=>rfl
 case a3=>rfl
 rfl
def Jk (NN:Nat):(Int×(Int×(Int×((List (U×(U×U)))×U))))->(Option Bool):=
 (fun((i0,i1,i2,l3,l4):(Int×(Int×(Int×((List (U×(U×U)))×U)))))=>
 (ui (i0,i1,i2)).ae (fun b5=>
 au (dh b5)
 (some false)
 (au (bF (12:Int) (aU (af l3)))
 (some false)
 (cT (cd NN (fun(((l6,i7,i8),i9,eF,eK,fe,dM):(((List (U×(U×U)))×(Int×Int))×(Int×(Int×(Int×((List (U×(U×U)))×U))))))=>
 au (bF i8 i7)
 (cT ((cW l6 i8).ae (fun(dX,gT,ib)=>
 (xC ((i9,eF,eK),dX,gT,ib)).ae (fun FD=>
 au (dh FD)
 (some (GB (GB (GB false))))
 (cd NN (fun(((iE,fC,gM,kt,sn,ku,ox),(qX,o7,sb,ic,o8),nD,vi,tM):((Int×((List (U×(U×U)))×(Int×(Int×(U×(Int×Int))))))×((Int×(Int×(Int×((List (U×(U×U)))×U))))×(U×(U×U)))))=>
 au (bF ox ku)
 ((cW sn ox).ae (fun vc=>
 (iY (0:Int) iE (af ic)).ae (fun(k34,q8)=>
 (zJ (iy ic k34 q8,vc)).ae (fun vd=>
 au (bF (0:Int) vd)
 ((cW vi ox).ae (fun wK=>
 au (ff vd wK)
 (some (GB (GB (GB (GB false)))))
 (some (AN ((iE,fC,gM,kt,sn,ku,cH .i64 ox 1),(qX,o7,sb,ic,o8),nD,vi,tM)))))
 (some (AN ((iE,fC,gM,kt,sn,ku,cH .i64 ox 1),(qX,o7,sb,ic,o8),nD,vi,tM)))))))
 (some (GB (AN ((kt,fC,gM),qX,o7,sb,ic,o8)))))
 ((i8,l6,i7,i8,dX,aU (af dX),(0:Int)),(i9,eF,eK,fe,dM),dX,gT,ib)))))
 (fun((AO,sr,KR),sd,tJ,DN,mO,oD)=>
 some (AN ((sr,KR,cH .i64 AO 1),sd,tJ,DN,mO,oD))))
 (some (GB (AN (i9,eF,eK,fe,dM)))))
 ((l3,aU (af l3),(0:Int)),i0,i1,i2,l3,l4))
 (fun(DO,KS,KT,D4,yF)=>
 (Ch (D4,yF)).ae (fun wQ=>
 (cM wQ 0 (af wQ)).ae (fun wR=>
 (vD (yF,wR,([]:U))).ae (fun DP=>
 some (gO (0:Int) DP)))))))))
def Cd:(Int×(Int×(Int×((List (U×(U×U)))×U))))->(Option Bool):=Jk aK
theorem ajp (x:(Int×(Int×(Int×((List (U×(U×U)))×U))))) (z:Bool) (h:Cd x=some z):Jk aK x=some z:=h
theorem ao0 {q a f c:Int} {ts:List T3} (hr:ci (a,f,c)=true) (h:∀t∈ts,Ia q t) (hl:ts.length<=1000) (B:∀t∈ts,jT (a,f,c) t=true) (p:∀t∈ts,t.2.2.length<=1048576): Cd (a,f,c,ts,[])=some (decide (ts.length<=12)):=by simp only[Cd,Jk];rw[show ui (a,f,c)=some true from congrArg some hr];simp only[bd];rw[bi (b:=dh true) rfl];by_cases o:ts.length<=12;(case neg=>rw[bm (eE (by rw[nl];omega)),decide_eq_false o]);rw[bi (dY (by rw[nl];omega)),decide_eq_true o];rw[iG (fun i=>((ts,aU (af ts),(i:Int)),a,f,c,ts,([]:U))) ts.length (r:=AN (a,f,c,ts,([]:U))) ?a1 ?a2 ?a3 fF];(case a1=>intro i j;obtain⟨t,e⟩:∃t,ts[i]? =some t:=⟨_,wt j⟩;have hm:=Pd e;obtain⟨L,D,X⟩:=t;obtain⟨y,C,s,m⟩:=h _ hm;have hx:=p _ hm;dsimp only at y C s m hx;have u:xC ((a,f,c),L,D,X)=some true:=(ak ⟨by dsimp only;omega,by dsimp only;omega,hx⟩).trans (congrArg some (B _ hm));dsimp only;rw[bm (eE (by rw[nl];omega)),eZ,e];simp only[bd,u];rw[bi (b:=dh true) rfl];rw[iG (fun n=>(((i:Int),ts,aU (af ts),(i:Int),L,aU (af L),(n:Int)),(a,f,c,ts,([]:U)),L,D,X)) L.length (r:=AN (((i:Int),ts,aU (af ts)),a,f,c,ts,([]:U))) ?b1 ?b2 ?b3 fF];(case b1=>intro n hn;obtain⟨l,z⟩:∃l,L[n]? =some l:=⟨_,wt hn⟩;have k:n<D.length:=(by omega);have hd:D[n]? =some q:=(by rw[wt k,m _ (za0 k)]);obtain⟨d,g,v⟩:=anb (q:=q) (ts:=iy ts 0 i) l (fun t w=>h t (za9 w)) (by show(zbG i ts).length<=1000;rw[IS];omega);dsimp only;rw[bm (eE (by rw[nl];omega)),eZ,z];simp only[bd];rw[IJ (show i<=af ts from Nat.le_of_lt j)];simp only[bd,g];rw[fb];by_cases A:0<d;have x:d=q:=(by rcases v with e|e<;>omega);subst x;rw[bm (eE A),eZ,hd];simp only[bd];rw[bi (tQ rfl)];rfl;rw[bi dY];rfl);(case b2=>dsimp only;rw[bi (dY (by rw[nl];omega))]);(case b3=>rfl);simp only[ft];rw[fb];rfl);(case a2=>dsimp only;rw[bi (dY (by rw[nl];omega))]);(case a3=>rfl);simp only[ft,anc,bd];rfl
theorem aaR {r:Rg} {L D A:U} (hr:ci r=true) (hx:m6 L D=true) (c:eo D=(bD D:Int)) (hp:bD D<=4096) (d:A.length=bD D*ax r) (b:∀x∈A,mq (bY r) x=true):jT r (L,D,A)=true:=by
 have a:=jU hr;have e:iB L D=(bD D:Int):=by rw[<-c];exact ak ⟨hx,by omega⟩
 unfold jT;rw[By,By,By,decide_eq_true_eq,decide_eq_true_eq];exact⟨hr,by show 0<=iB L D;omega,by show(A.length:Int)=iB L D*jk r;rw[e,a.1,d];push_cast;rfl,zai.2 b⟩
theorem O2 {p:Int->Prop} {g:Nat->U}:∀n,(∀i,i<n->∀x∈g i,p x)->∀x∈bQ g n,p x
 |0,_,x,hx=>by cases hx
 |n+1,h,x,hx=>by rcases zak.1 hx with q|q;exact O2 n (fun i hi=>h i (by omega)) x q;exact h n (by omega) x q
theorem Ws {r:Rg} {x:U} (h:cL r x=true):∀v∈x,mq (bY r) v=true:=by unfold cL at h;rw[By] at h;exact zai.1 h.2
def gz (r:Rg) (q:Nat) (s:U) (x n:Nat):U:=if n/q=n%q/\n/q<x then s else eW r
def fU (r:Rg) (q:Nat) (s:U) (e:Int×Int):T3:=if e.1=e.2 then([e.1],[(q:Int)],bQ (fun _=>s) q) else([e.1,e.2],[(q:Int),(q:Int)],bQ (gz r q s q) (q*q))
def Sr (r:Rg) (q:Nat) (i:Int):T3:=([i],[(q:Int)],bQ (fun _=>eW r) q)
def qa (es:List (Int×Int)) (i:Nat):Bool:=es.all fun e=>decide (e.1≠(i:Int)/\e.2≠(i:Int))
def jw (r:Rg) (q:Nat) (es:List (Int×Int)):Nat->List T3
 |0=>[]
 |n+1=>if qa es n=true then jw r q es n++[Sr r q (n:Int)] else jw r q es n
def rq (r:Rg) (n:Int) (es:List (Int×Int)) (q:Nat) (s:U):List T3:=es.map (fU r q s)++jw r q es n.toNat
theorem yX (q:Nat):bD [(q:Int)]=q:=by simp[bD]
theorem Ep (q:Nat):bD [(q:Int),(q:Int)]=q*q:=by simp[bD]
theorem J3 {q:Nat} (h1:1<=q) (h4:q<=4):xR [(q:Int)]:=⟨by simp,by intro v a;simp at a;omega,by rw[yX];omega⟩
theorem Wn {q:Nat} (h1:1<=q) (a:q<=4):xR [(q:Int),(q:Int)]:=⟨by simp,by intro v b;simp at b;omega,by rw[Ep];have:=IN a a;omega⟩
theorem agH {q:Nat} {a:Int} (h1:1<=q) (h4:q<=4) (c:0<=a/\a<=99):m6 [a] [(q:Int)]=true:=by
 unfold m6;rw[By,By,decide_eq_true_eq,decide_eq_true_eq,decide_eq_true_eq];refine⟨by simp,rfl,fun j b=>?_⟩;have:j=0:=by simp at b;omega
 subst this;exact⟨c,⟨by show 1<=(q:Int);omega,by show(q:Int)<=8;omega⟩,by simp⟩
theorem agI {q:Nat} {a b:Int} (h1:1<=q) (h4:q<=4) (f:0<=a/\a<=99) (d:0<=b/\b<=99) (g:a≠b):m6 [a,b] [(q:Int),(q:Int)]=true:=by unfold m6;rw[By,By,decide_eq_true_eq,decide_eq_true_eq,decide_eq_true_eq];refine⟨by simp,rfl,fun j c=>?_⟩;have:j=0\/j=1:=(by simp at c;omega);rcases this with rfl|rfl;exact⟨f,⟨by show 1<=(q:Int);omega,by show(q:Int)<=8;omega⟩,by simp⟩;exact⟨d,⟨by show 1<=(q:Int);omega,by show(q:Int)<=8;omega⟩,by show b∉[a];simp;exact fun e=>g e.symm⟩
theorem Ah {r:Rg} {q:Nat} {s:U} (hr:ci r=true) (a:cL r s=true) (x n:Nat):cL r (gz r q s x n)=true:=by unfold gz;split;exact a;exact rP hr
def C9 (r:Rg) (q:Nat) (t:T3):Prop:=Ia (q:Int) t/\jT r t=true/\t.2.2.length<=1048576
theorem Yr {r:Rg} {q:Nat} {a:Int} {g:Nat->U} (hr:ci r=true) (h:1<=q) (c:q<=4) (f:0<=a/\a<=99) (b:∀i,cL r (g i)=true):C9 r q ([a],[(q:Int)],bQ g q):=by have hl:(bQ g q).length=q*ax r:=qD fun i _=>gB (b i);have e:=jU hr;have hm:=IN c e.2.2;refine⟨⟨rfl,by simp,?_,?_⟩,aaR hr (agH h c f) (by rw[yX];show(q:Int)*1=q;omega) (by rw[yX];omega) (by rw[yX,hl]) (O2 _ fun i _=>Ws (b i)),by dsimp only;rw[hl];omega⟩;intro l hl;simp at hl;omega;intro d hd;simp at hd;exact hd
theorem ajW {r:Rg} {q:Nat} {a b:Int} {g:Nat->U} (hr:ci r=true) (h:1<=q) (c:q<=4) (k:0<=a/\a<=99) (f:0<=b/\b<=99) (n:a≠b) (e:∀i,cL r (g i)=true):C9 r q ([a,b],[(q:Int),(q:Int)],bQ g (q*q)):=by have hl:(bQ g (q*q)).length=q*q*ax r:=qD fun i _=>gB (e i);have j:=jU hr;have m:=IN c c;have hm:=IN m j.2.2;refine⟨⟨rfl,by simp,?_,?_⟩,aaR hr (agI h c k f n) (by rw[Ep];show(q:Int)*((q:Int)*1)=_;push_cast;rw[Int.mul_one]) (by rw[Ep];omega) (by rw[Ep,hl]) (O2 _ fun i _=>Ws (e i)),by dsimp only;rw[hl];omega⟩;intro l hl;simp at hl;omega;intro d hd;simp at hd;exact hd
theorem ahN {r:Rg} {q:Nat} {s:U} {e:Int×Int} (hr:ci r=true) (d:cL r s=true) (c:1<=q) (b:q<=4) (a:0<=e.1/\e.1<=99) (f:0<=e.2/\e.2<=99):C9 r q (fU r q s e):=by unfold fU;split;exact Yr hr c b a fun _=>d;rename_i g;exact ajW hr c b a f g fun i=>Ah hr d q i
theorem Lu {r:Rg} {q:Nat} {es:List (Int×Int)} (hr:ci r=true) (d:1<=q) (c:q<=4):∀n,n<=10->(jw r q es n).length<=n/\∀t∈jw r q es n,C9 r q t
 |0,_=>⟨zaH _,fun t a=>by cases a⟩
 |n+1,hn=>by obtain⟨e,b⟩:=Lu (es:=es) hr d c n (by omega);unfold jw;split;refine⟨by rw[AT];exact Nat.add_le_add_right e 1,fun t a=>?_⟩;rcases zak.1 a with q|q;exact b t q;rw[zaw] at q;subst q;exact Yr hr d c ⟨by omega,by omega⟩ fun _=>rP hr;exact⟨by omega,b⟩
theorem TY {r:Rg} {n:Int} {q:Nat} {es:List (Int×Int)} {s:U} (hr:ci r=true) (a:rU n es=true) (f:cL r s=true) (c:1<=q) (b:q<=4):(rq r n es q s).length<=20/\∀t∈rq r n es q s,C9 r q t:=by unfold rU at a;rw[By,By,decide_eq_true_eq,decide_eq_true_eq] at a;obtain⟨⟨g1,g2⟩,g⟩:=a;obtain⟨i1,h⟩:=Lu (es:=es) (q:=q) hr c b n.toNat (by omega);unfold rq;refine⟨by rw[AT,AI];omega,fun t i=>?_⟩;rcases zak.1 i with p|p;obtain⟨e,d,rfl⟩:=zaa.1 p;have:=of_decide_eq_true (zai.1 g e d);exact ahN hr f c b ⟨this.1.1,by omega⟩ ⟨this.2.1,by omega⟩;exact h t p
theorem Wl {r:Rg} {q:Nat} {s:U} {x:Nat} (hr:ci r=true) (a:cL r s=true) (hx:x<q):eH (bQ (gz r q s x) (q*q)) ((x*q+x)*ax r) s=bQ (gz r q s (x+1)) (q*q):=by have hm:=If q (show x+1<=q from hx);rw[OF,Pe] at hm;rw[LW (gB a) (fun i _=>gB (Ah hr a x i)) (show x*q+x<q*q by omega)];refine vS fun n hn=>?_;have hd:(x*q+x)/q=x:=(by rw[zaB,zbm (by omega),zaX hx,zbF]);have g:(x*q+x)%q=x:=(by rw[zaB,zbn,zaY hx]);have h:=Nat.div_add_mod n q;unfold gz;by_cases e:n=x*q+x;subst e;rw[ak rfl,hd,g,ak ⟨rfl,by omega⟩];rw[aq e];by_cases c:n/q=n%q/\n/q<x;rw[ak c,ak ⟨c.1,by omega⟩];rw[aq c,aq];rintro⟨b,c2⟩;by_cases f:n/q<x;exact c ⟨b,f⟩;have d:n/q=x:=(by omega);rw[<-b,d,zaB] at h;omega
theorem Wk (r:Rg) (q:Nat) (s:U) (n:Nat):bQ (gz r q s 0) n=bQ (fun _=>eW r) n:=vS fun i _=>aq (by omega)
def Jq (NN:Nat):((Int×(Int×Int))×((Int×(List (Int×Int)))×Int))->(Option (List (U×(U×U)))):=
 (fun(((i0,i1,i2),(i3,l4),i5):((Int×(Int×Int))×((Int×(List (Int×Int)))×Int)))=>
 cT ((bj 0 0 (af (([]:List (U×(U×U)))))).ae (fun _=>
 cd NN (fun(((i6,i7),(i8,i9,eF),(eK,fe),dM):((Int×Int)×((Int×(Int×Int))×((Int×(List (Int×Int)))×(List (U×(U×U)))))))=>
 au (bF i7 eK)
 (cT (cT (aB dM (
 cd NN (fun(((hZ,iU,Vv,gD,iE,lF),(gM,kt,h9),(ku,d7),fv):((Int×(Int×(Bool×((List (Int×Int))×(Int×Int)))))×((Int×(Int×Int))×((Int×(List (Int×Int)))×(List (U×(U×U)))))))=>
 au (bF lF iE)
 ((cW gD lF).ae (fun(o7,sb)=>
 au (Vv)
 (au (ff o7 iU)
 (aB fv (
 some (AN ((hZ,iU,ff sb iU,gD,iE,cH .i64 lF 1),(gM,kt,h9),(ku,d7),fv))))
 (aB fv (
 some (AN ((hZ,iU,false,gD,iE,cH .i64 lF 1),(gM,kt,h9),(ku,d7),fv)))))
 (aB fv (
 some (AN ((hZ,iU,false,gD,iE,cH .i64 lF 1),(gM,kt,h9),(ku,d7),fv))))))
 ((aB fv (
 some (AN ((Vv,iU,hZ),(gM,kt,h9),(ku,d7),fv)))).ae (fun ic=>
 some (GB ic))))
 ((i6,i7,true,fe,aU (af fe),(0:Int)),(i8,i9,eF),(eK,fe),dM)))
 (fun((b29,lG,pW),(nv,vc,nw),(yk,D3),oC)=>
 au (b29)
 ((cM ((lG::([]:U))) 0 1).ae (fun yD=>
 (cM ((pW::([]:U))) 0 1).ae (fun sr=>
 (zK ((nv,vc,nw),yD,sr,([]:U))).ae (fun(vj,A7,tN)=>
 (d9 vj (af vj)).ae (fun kw=>
 (d9 A7 (af A7)).ae (fun mO=>
 (d9 tN (af tN)).ae (fun oD=>
 aB oC (
 (bj 0 1 (af (((kw,mO,oD)::([]:List (U×(U×U))))))).ae (fun _=>
 (n3 (aE (af oC) (af (((kw,mO,oD)::([]:List (U×(U×U))))))) 72).ae (fun _=>
 (bj 0 (aE (af oC) (af (((kw,mO,oD)::([]:List (U×(U×U))))))) (af (eR oC (((kw,mO,oD)::([]:List (U×(U×U)))))))).ae (fun _=>
 some (AN ((lG,pW),(nv,vc,nw),(yk,D3),eR oC (((kw,mO,oD)::([]:List (U×(U×U))))))))))))))))))
 (aB oC (
 some (AN ((lG,pW),(nv,vc,nw),(yk,D3),oC))))))
 (fun((DO,KS),(KT,Hc,Hd),(i51,wR),yG)=>
 aB yG (
 some (AN ((KS,cH .i64 DO 1),(KT,Hc,Hd),(i51,wR),yG)))))
 ((aB dM (
 some (AN dM))).ae (fun D5=>
 some (GB D5))))
 ((i5,(0:Int)),(i0,i1,i2),(i3,l4),([]:List (U×(U×U))))))
 (fun wS=>
 (d9 wS (af wS)).ae (fun HO=>
 some HO)))
def Cj:((Int×(Int×Int))×((Int×(List (Int×Int)))×Int))->(Option (List (U×(U×U)))):=Jq aK
theorem ajL (x:((Int×(Int×Int))×((Int×(List (Int×Int)))×Int))) (z:(List (U×(U×U)))) (h:Cj x=some z):Jq aK x=some z:=h
theorem ant {c f d n:Int} {es:List (Int×Int)} {q:Nat} (hr:ci (c,f,d)=true) (s:1<=q) (p:q<=4) (hn:0<=n/\n<=10) (he:es.length<=10):
  Cj ((c,f,d),(n,es),(q:Int))=some (jw (c,f,d) q es n.toNat):=by
 have DA:fQ=140737488355328:=rfl;simp only[Cj,Jq,aB];rw[show bj 0 0 (af ([]:List (U×U×U)))=some () from rfl]
 simp only[bd];have hm:(n.toNat:Int)=n:=by omega
 rw[iG (fun i=>(((q:Int),(i:Int)),(c,f,d),(n,es),jw (c,f,d) q es i)) n.toNat (r:=AN (jw (c,f,d) q es n.toNat)) ?a1 ?a2 ?a3 fF]
 case a2=>
  dsimp only
  rw[bi dY];simp only[de,bd]
 case a3=>rfl
 case a1=>
  intro i hi;have QN:=(Lu (es:=es) (q:=q) hr s p i (by omega)).1;dsimp only
  rw[bm eE];simp only[de,bd];let g:Nat->Bool:=fun k=>(es.take k).all fun e=>decide (e.1≠(i:Int)/\e.2≠(i:Int));have m:∀(k:Nat) (e:Int×Int),es[k]? =some e->g (k+1)=(g k&&decide (e.1≠(i:Int)/\e.2≠(i:Int))):=by
   intro k e h;dsimp only[g];rw[zaP,h,zbp];simp
  rw[iG (fun k=>(((q:Int),(i:Int),g k,es,aU (af es),(k:Int)),(c,f,d),(n,es),jw (c,f,d) q es i)) es.length (r:=AN ((qa es i,(i:Int),(q:Int)),(c,f,d),(n,es),jw (c,f,d) q es i)) ?b1 ?b2 ?b3 fF]
  case b1=>
   intro k u;obtain⟨e,h⟩:∃e,es[k]? =some e:=⟨_,wt u⟩;obtain⟨a,b⟩:=e;have o:=m k _ h;dsimp only at o;dsimp only
   rw[bm (eE (by rw[nl];omega)),eZ,h];simp only[bd,de];rw[fb,o];cases g k with
   |false=>rfl
   |true=>
    rw[bm (b:=true) rfl,Bool.true_and];by_cases l:a=(i:Int)
    ·rw[bi (tQ l),decide_eq_false (by rintro⟨x,_⟩;exact x l)];rfl
    ·rw[bm (yT l)];by_cases j:b=(i:Int)
     ·rw[tQ j,decide_eq_false (by rintro⟨_,x⟩;exact x j)];rfl
     ·rw[yT j,decide_eq_true ⟨l,j⟩];rfl
  case b2=>
   dsimp only
   rw[bi (dY (by rw[nl];omega))]
   try simp only[de,bd]
   have:g es.length=qa es i:=by dsimp only[g];rw[zaF];rfl
   rw[this]
  case b3=>rfl
  simp only[ft];have t:jw (c,f,d) q es (i+1)=if qa es i=true then jw (c,f,d) q es i++[Sr (c,f,d) q (i:Int)] else jw (c,f,d) q es i:=rfl
  rw[t];by_cases hL:qa es i=true
  ·rw[ak hL,hL,bm (b:=true) rfl];rw[show cM [(i:Int)] 0 1=some [(i:Int)] from rfl,show cM [(q:Int)] 0 1=some [(q:Int)] from rfl]
   simp only[bd];rw[Sg hr (by simp) (J3 s p),yX];simp only[bd,j9,de];rw[show bj 0 1 (af [([(i:Int)],[(q:Int)],bQ (fun _=>eW (c,f,d)) q)])=some () from rfl]
   simp only[bd];rw[tu (by simp only[aE,af,zaj,zam];omega)];simp only[bd];rw[show bj 0 (aE (af (jw (c,f,d) q es i)) (af [([(i:Int)],[(q:Int)],bQ (fun _=>eW (c,f,d)) q)])) (af (eR (jw (c,f,d) q es i) [([(i:Int)],[(q:Int)],bQ (fun _=>eW (c,f,d)) q)]))=some () from n5 (by simp[aE,af,eR])]
   simp only[bd,ft];rw[fb]
   try rw[de]
   rfl
  ·rw[aq hL,bi (zbe.2 hL)];simp only[bd,ft,de];rw[fb];rfl
 simp only[ft,j9,bd]
def kB (r:Rg) (s:U) (x n:Nat):U:=if n<x then s else eW r
theorem ME {r:Rg} {s:U} (hr:ci r=true) (a:cL r s=true) (x n:Nat):cL r (kB r s x n)=true:=by unfold kB;split;exact a;exact rP hr
theorem arK {r:Rg} {q:Nat} {s:U} {x:Nat} (hr:ci r=true) (c:cL r s=true) (hx:x<q):eH (bQ (kB r s x) q) (x*ax r) s=bQ (kB r s (x+1)) q:=by rw[LW (gB c) (fun i _=>gB (ME hr c x i)) hx];refine vS fun n hn=>?_;unfold kB;by_cases b:n=x;rw[ak b,ak (by omega)];rw[aq b];by_cases a:n<x;rw[ak a,ak (by omega)];rw[aq a,aq (by omega)]
theorem aqA {r:Rg} {q:Nat} {s L:U} {x:Nat} (hr:ci r=true) (a:cL r s=true) (g:q<=4) (hx:x<q):vH (r,(L,[(q:Int)],bQ (kB r s x) q),(x:Int),s)=some (bQ (kB r s (x+1)) q):=by
 have d:=jU hr;have hl:(bQ (kB r s x) q).length=q*ax r:=qD fun i _=>gB (ME hr a x i);have hm:=IN g d.2.2;have b:=If (ax r) (show x+1<=q from hx)
 rw[OF,Pe] at b;have f:(x:Int).toNat*ax r+s.length<=(bQ (kB r s x) q).length:=by rw[hl,BY,gB a];exact b
 have e:(bQ (kB r s x) q).length<=1048576:=by rw[hl];omega
 have c:eH (bQ (kB r s x) q) ((x:Int).toNat*ax r) s=bQ (kB r s (x+1)) q:=by rw[BY];exact arK hr a hx
 exact(ak ⟨hr,zaz x,f,e⟩).trans (congrArg some c)
theorem aqB {r:Rg} {q:Nat} {s L:U} {x:Nat} (hr:ci r=true) (a:cL r s=true) (b:q<=4) (hx:x<q):vH (r,(L,[(q:Int),(q:Int)],bQ (gz r q s x) (q*q)),((x*q+x:Nat):Int),s)=some (bQ (gz r q s (x+1)) (q*q)):=by
 have d:=jU hr;have hl:(bQ (gz r q s x) (q*q)).length=q*q*ax r:=qD fun i _=>gB (Ah hr a x i);have g:=IN b b;have hm:=IN g d.2.2;have e:=If q (show x+1<=q from hx)
 rw[OF,Pe] at e;have c:=If (ax r) (show x*q+x+1<=q*q by omega);rw[OF _ 1,Pe] at c;have f:((x*q+x:Nat):Int).toNat*ax r+s.length<=(bQ (gz r q s x) (q*q)).length:=by rw[hl,BY,gB a];exact c
 have j:(bQ (gz r q s x) (q*q)).length<=1048576:=by rw[hl];omega
 have h:eH (bQ (gz r q s x) (q*q)) (((x*q+x:Nat):Int).toNat*ax r) s=bQ (gz r q s (x+1)) (q*q):=by rw[BY];exact Wl hr a hx
 exact(ak ⟨hr,zaz _,f,j⟩).trans (congrArg some h)
theorem arJ (r:Rg) (s:U) (n:Nat):bQ (fun _=>eW r) n=bQ (kB r s 0) n:=vS fun i _=>(aq (by omega)).symm
theorem arL (r:Rg) (s:U) (q:Nat):bQ (kB r s q) q=bQ (fun _=>s) q:=vS fun i a=>ak a
def ab9:(Int×Int×Int×List T3×U)×Bool:=((0,0,0,[],[]),false)
def zn (r:Rg) (g:Int×List (Int×Int)) (q:Int) (v:U):(Int×Int×Int×List T3×U)×Bool:=
 if tW r g q v=true then(if(rq r g.1 g.2 q.toNat (eQ r (eW r) v)).length<=12 then((r.1,r.2.1,r.2.2,rq r g.1 g.2 q.toNat (eQ r (eW r) v),[]),true) else ab9) else ab9
theorem TZ {r:Rg} {g:Int×List (Int×Int)} {q:Int} {v:U} (h:tW r g q v=true):ci r=true/\rU g.1 g.2=true/\cL r v=true/\1<=q/\q<=4:=by unfold tW JZ at h;rw[By,By,By,decide_eq_true_eq] at h;exact⟨h.1.1,h.1.2.1,h.1.2.2,h.2⟩
def Jl (NN:Nat):((Int×(Int×Int))×((Int×(List (Int×Int)))×(Int×U)))->(Option ((Int×(Int×(Int×((List (U×(U×U)))×U))))×Bool)):=
 (fun(((i0,i1,i2),(i3,l4),i5,l6):((Int×(Int×Int))×((Int×(List (Int×Int)))×(Int×U))))=>
 (Ci ((i0,i1,i2),(i3,l4),i5,l6)).ae (fun b7=>
 au (dh b7)
 (some (((0:Int),(0:Int),(0:Int),([]:List (U×(U×U))),([]:U)),false))
 (cT ((bj 0 0 (af (([]:List (U×(U×U)))))).ae (fun _=>
 (bj 0 0 (af (([]:U)))).ae (fun _=>
 (bj 0 0 (af (([]:List (U×(U×U)))))).ae (fun _=>
 (bj 0 0 (af (([]:U)))).ae (fun _=>
 cd NN (fun(((i8,l9,eV,eK,gu),(mn,hZ,iU),(eU,gD),(iE,lF,gM),(kt,h9,ku),d7,fv,iF,ji):((Int×(U×((List (Int×Int))×(Int×Int))))×((Int×(Int×Int))×((Int×(List (Int×Int)))×((Int×(Int×Int))×((Int×(Int×Int))×((List (U×(U×U)))×(U×((List (U×(U×U)))×U)))))))))=>
 au (bF gu eK)
 (cT ((cW eV gu).ae (fun(tI,oy)=>
 cT (au (bR tI oy)
 (aB d7 (
 aB fv (
 aB iF (
 aB ji (
 (bj 0 1 (af ((tI::([]:U))))).ae (fun _=>
 (bj 0 1 (af ((i8::([]:U))))).ae (fun _=>
 (bj 0 0 (af (([]:U)))).ae (fun _=>
 some (AN ((eK,eV,l9,i8,gu),(mn,hZ,iU),(eU,gD),(iE,lF,gM),(kt,h9,ku),(tI,oy),d7,fv,iF,ji,(tI::([]:U)),(i8::([]:U)),([]:U)))))))))))
 (aB d7 (
 aB fv (
 aB iF (
 aB ji (
 (bj 0 2 (af ((tI::(oy::([]:U)))))).ae (fun _=>
 (bj 0 2 (af ((i8::(i8::([]:U)))))).ae (fun _=>
 (bj 0 0 (af (([]:U)))).ae (fun _=>
 some (AN ((eK,eV,l9,i8,gu),(mn,hZ,iU),(eU,gD),(iE,lF,gM),(kt,h9,ku),(tI,oy),d7,fv,iF,ji,(tI::(oy::([]:U))),(i8::(i8::([]:U))),([]:U))))))))))))
 (fun((lG,vi,tM,vc,nw),(yk,vd,wK),(AO,sr),(KR,sd,tJ),(DN,RD,Ha),(DO,KS),vk,D4,yF,wQ,wR,yG,D5)=>
 (cM wR 0 (af wR)).ae (fun wS=>
 (cM yG 0 (af yG)).ae (fun HO=>
 (cM D5 0 (af D5)).ae (fun Si=>
 (zK ((yk,vd,wK),wS,HO,Si)).ae (fun(l58,l59,HP)=>
 cT (aB vk (
 aB D4 (
 aB yF (
 aB wQ (
 aB l58 (
 aB l59 (
 aB HP (
 cd NN (fun(((yl,HQ,wL,Sj,ym,yn),(He,Hf,RG),(RH,su),(RJ,Hh,Hi),(Hj,RL,RM),(Hk,Hl),yI,yJ,vl,wT,vm,yK,D7):((Int×(U×(Int×((List (Int×Int))×(Int×Int)))))×((Int×(Int×Int))×((Int×(List (Int×Int)))×((Int×(Int×Int))×((Int×(Int×Int))×((Int×Int)×((List (U×(U×U)))×(U×((List (U×(U×U)))×(U×(U×(U×U)))))))))))))=>
 au (bF wL yl)
 (cT (au (ff Hk Hl)
 (aB yI (
 aB yJ (
 aB vl (
 aB wT (
 aB vm (
 aB yK (
 aB D7 (
 some (AN ((cH .i64 (mP .i64 wL yl) wL,wL,yl,HQ,Sj,ym,yn),(He,Hf,RG),(RH,su),(RJ,Hh,Hi),(Hj,RL,RM),(Hk,Hl),yI,yJ,vl,wT,vm,yK,D7))))))))))
 (aB yI (
 aB yJ (
 aB vl (
 aB wT (
 aB vm (
 aB yK (
 aB D7 (
 some (AN ((wL,wL,yl,HQ,Sj,ym,yn),(He,Hf,RG),(RH,su),(RJ,Hh,Hi),(Hj,RL,RM),(Hk,Hl),yI,yJ,vl,wT,vm,yK,D7)))))))))))
 (fun((i87,RN,RO,l90,l91,RP,RQ),(DR,DS,DT),(RR,Lo),(i99,akW,akX),(akY,akZ,ak0),(ak1,ak2),yx,yy,yz,aab,Lc,DW,Sc)=>
 (vE (DR,DS,DT)).ae (fun aac=>
 (cM aac 0 (af aac)).ae (fun am5=>
 (zI ((DR,DS,DT),am5,l90)).ae (fun aad=>
 (cM Lc 0 (af Lc)).ae (fun am6=>
 (cM DW 0 (af DW)).ae (fun am7=>
 aB Sc (
 (cM aad 0 (af aad)).ae (fun am8=>
 (vH ((DR,DS,DT),(am6,am7,Sc),i87,am8)).ae (fun aae=>
 aB yx (
 aB yy (
 aB yz (
 aB aab (
 aB Lc (
 aB DW (
 (bj 0 (af Sc) (af aae)).ae (fun _=>
 some (AN ((RO,l90,cH .i64 RN 1,l91,RP,RQ),(DR,DS,DT),(RR,Lo),(i99,akW,akX),(akY,akZ,ak0),(ak1,ak2),yx,yy,yz,aab,Lc,DW,aae)))))))))))))))))))
 ((aB yI (
 aB yJ (
 aB vl (
 aB wT (
 aB vm (
 aB yK (
 aB D7 (
 some (AN ((yn,yl,HQ,Sj,ym),(He,Hf,RG),(RH,su),(RJ,Hh,Hi),(Hj,RL,RM),yI,yJ,vl,wT,vm,yK,D7)))))))))).ae (fun am9=>
 some (GB am9))))
 ((vc,tM,(0:Int),vi,lG,nw),(yk,vd,wK),(AO,sr),(KR,sd,tJ),(DN,RD,Ha),(DO,KS),vk,D4,yF,wQ,l58,l59,HP)))))))))
 (fun((Rp,ale,Ld,Le,alf),(alg,alh,ali),(Rq,ane),(Rr,Rs,Rt),(Ru,Rv,Rw),aaj,aak,yA,HD,HE,HG,DX)=>
 (d9 HE (af HE)).ae (fun HH=>
 (d9 HG (af HG)).ae (fun HI=>
 (d9 DX (af DX)).ae (fun HJ=>
 aB yA (
 (bj 0 1 (af (((HH,HI,HJ)::([]:List (U×(U×U))))))).ae (fun _=>
 (n3 (aE (af yA) (af (((HH,HI,HJ)::([]:List (U×(U×U))))))) 72).ae (fun _=>
 aB aaj (
 aB aak (
 (bj 0 (aE (af yA) (af (((HH,HI,HJ)::([]:List (U×(U×U))))))) (af (eR yA (((HH,HI,HJ)::([]:List (U×(U×U)))))))).ae (fun _=>
 aB HD (
 some (AN ((Rp,ale,Ld,Le,alf),(alg,alh,ali),(Rq,ane),(Rr,Rs,Rt),(Ru,Rv,Rw),aaj,aak,eR yA (((HH,HI,HJ)::([]:List (U×(U×U))))),HD))))))))))))))))))))
 (fun((DK,DM,anf,ang,GZ),(G0,G4,G5),(G6,yB),(aln,alo,alp),(alq,alr,als),HK,Lf,Lg,Lh)=>
 aB HK (
 aB Lf (
 aB Lg (
 aB Lh (
 some (AN ((DM,anf,ang,GZ,cH .i64 DK 1),(G0,G4,G5),(G6,yB),(aln,alo,alp),(alq,alr,als),HK,Lf,Lg,Lh))))))))
 ((aB d7 (
 aB fv (
 aB iF (
 aB ji (
 some (AN (i8,(mn,hZ,iU),(eU,gD),(iE,lF,gM),(kt,h9,ku),d7,fv,iF,ji))))))).ae (fun Li=>
 some (GB Li))))
 ((i5,l6,l4,aU (af l4),(0:Int)),(i0,i1,i2),(i3,l4),((0:Int),(0:Int),(0:Int)),(i0,i1,i2),([]:List (U×(U×U))),([]:U),([]:List (U×(U×U))),([]:U)))))))
 (fun(alt,(alu,alv,alw),(alx,Sd),(aly,alz,alA),(G7,G8,G9),anh,ani,tL,wO)=>
 (Cj ((alu,alv,alw),(alx,Sd),alt)).ae (fun yC=>
 aB tL (
 aB yC (
 (n3 (aE (af tL) (af yC)) 72).ae (fun _=>
 (cM (eR tL yC) 0 (aE (af tL) (af yC))).ae (fun Se=>
 (cM wO 0 (af wO)).ae (fun anj=>
 (Cd (G7,G8,G9,Se,anj)).ae (fun agM=>
 au (dh agM)
 (some (((0:Int),(0:Int),(0:Int),([]:List (U×(U×U))),([]:U)),false))
 ((d9 (eR tL yC) (aE (af tL) (af yC))).ae (fun Sf=>
 (d9 wO (af wO)).ae (fun anl=>
 some ((G7,G8,G9,Sf,anl),true)))))))))))))))
def zH:((Int×(Int×Int))×((Int×(List (Int×Int)))×(Int×U)))->(Option ((Int×(Int×(Int×((List (U×(U×U)))×U))))×Bool)):=Jl aK
theorem ajr (x:((Int×(Int×Int))×((Int×(List (Int×Int)))×(Int×U)))) (z:((Int×(Int×(Int×((List (U×(U×U)))×U))))×Bool)) (h:zH x=some z):Jl aK x=some z:=h
theorem ar0 {c f d m j:Int} {es:List (Int×Int)} {v:U} (G:v.length<=9223372036854775806): zH ((c,f,d),(m,es),j,v)=some (zn (c,f,d) (m,es) j v):=by have DA:fQ=140737488355328:=rfl;simp only[zH,Jl,aB];rw[show Ci ((c,f,d),(m,es),j,v)=some (tW (c,f,d) (m,es) j v) from ak G];(try simp only[bd]);unfold zn;cases tF:tW (c,f,d) (m,es) j v with|false=>rw[bm (b:=dh false) rfl,aq (by simp)];rfl|true=>obtain⟨hr,A,C,q1,q4⟩:=TZ tF;obtain⟨q,rfl⟩:∃q:Nat,j=(q:Int):=⟨j.toNat,by omega⟩;have u:1<=q:=(by omega);have g:q<=4:=(by omega);rw[bi (b:=dh true) rfl,ak rfl,BY];dsimp only at A⊢;obtain⟨s,p⟩:∃s,eQ (c,f,d) (eW (c,f,d)) v=s:=⟨_,rfl⟩;have l:cL (c,f,d) s=true:=(by rw[<-p];exact FY hr (rP hr) C);have B:=A;unfold rU at B;rw[By,By,decide_eq_true_eq,decide_eq_true_eq] at B;obtain⟨⟨hm,J⟩,_⟩:=B;rw[p];rw[show bj 0 0 (af ([]:List (U×U×U)))=some () from rfl,show bj 0 0 (af ([]:U))=some () from rfl];(try simp only[bd]);rw[iG (fun k=>(((q:Int),v,es,aU (af es),(k:Int)),(c,f,d),(m,es),((0:Int),(0:Int),(0:Int)),(c,f,d),([]:List T3),([]:U),(es.take k).map (fU (c,f,d) q s),([]:U))) es.length (r:=AN ((q:Int),(c,f,d),(m,es),((0:Int),(0:Int),(0:Int)),(c,f,d),([]:List T3),([]:U),es.map (fU (c,f,d) q s),([]:U))) ?a1 ?a2 ?a3 fF];(case a2=>dsimp only;rw[bi (dY (by rw[nl];omega)),zaF];try simp only[de,bd]);(case a3=>rfl);(case a1=>intro k I;obtain⟨e,h⟩:∃e,es[k]? =some e:=⟨_,wt I⟩;obtain⟨a,b⟩:=e;have F:(es.take (k+1)).map (fU (c,f,d) q s)=(es.take k).map (fU (c,f,d) q s)++[fU (c,f,d) q s (a,b)]:=(by rw[zaP,h,zaq];rfl);dsimp only;rw[bm (eE (by rw[nl];omega)),eZ,h];(try simp only[bd,de]);by_cases z:a=b;(case pos=>subst z;rw[bm (Al rfl)];rw[show bj 0 1 (af [a])=some () from rfl,show bj 0 1 (af [(q:Int)])=some () from rfl];simp only[bd,ft,mD];rw[Sg hr (by simp) (J3 u g),yX];(try simp only[bd,de]);rw[iG (fun x=>(((q:Int),v,(x:Int),es,aU (af es),(k:Int)),(c,f,d),(m,es),((0:Int),(0:Int),(0:Int)),(c,f,d),(a,a),([]:List T3),([]:U),(es.take k).map (fU (c,f,d) q s),([]:U),[a],[(q:Int)],bQ (kB (c,f,d) s x) q)) q (r:=AN (((k:Int),(q:Int),v,es,aU (af es)),(c,f,d),(m,es),((0:Int),(0:Int),(0:Int)),(c,f,d),([]:List T3),([]:U),(es.take k).map (fU (c,f,d) q s),([]:U),[a],[(q:Int)],bQ (kB (c,f,d) s q) q)) ?c11 ?c21 ?c31 fF];(case c11=>intro x hx;dsimp only;rw[bm eE];(try simp only[bd,de]);rw[bi (tQ rfl)];(try simp only[ft]);rw[show vE (c,f,d)=some (eW (c,f,d)) from ak hr];simp only[bd,mD];rw[show zI ((c,f,d),eW (c,f,d),v)=some s from(by rw[<-p];exact ak ⟨hr,rP hr,C⟩)];simp only[bd,mD];rw[aqA hr l g hx];(try simp only[bd]);rw[show bj 0 (af (bQ (kB (c,f,d) s x) q)) (af (bQ (kB (c,f,d) s (x+1)) q))=some () from n5 (by unfold af;rw[qD (w:=ax (c,f,d)) fun i _=>gB (ME hr l x i),qD (w:=ax (c,f,d)) fun i _=>gB (ME hr l (x+1) i)])];(try simp only[bd]);rw[fb];rfl);(case c21=>dsimp only;rw[bi dY];try simp only[de,bd]);(case c31=>rw[arJ (c,f,d) s];rfl);simp only[ft,j9,bd,de];rw[tu (by simp only[aE,af,zaj,zam,AI,IS];omega)];(try simp only[bd]);rw[show bj 0 1 (af [([a],[(q:Int)],bQ (kB (c,f,d) s q) q)])=some () from rfl];(try simp only[bd]);rw[show bj 0 (aE (af ((es.take k).map (fU (c,f,d) q s))) (af [([a],[(q:Int)],bQ (kB (c,f,d) s q) q)])) (af (eR ((es.take k).map (fU (c,f,d) q s)) [([a],[(q:Int)],bQ (kB (c,f,d) s q) q)]))=some () from n5 (by simp[aE,af,eR])];simp only[bd,ft,de];rw[fb,F];rw[show fU (c,f,d) q s (a,a)=([a],[(q:Int)],bQ (kB (c,f,d) s q) q) from(ak rfl).trans (by rw[arL])];rfl);case neg=>rw[bi (xT z)];rw[show bj 0 2 (af [a,b])=some () from rfl,show bj 0 2 (af [(q:Int),(q:Int)])=some () from rfl];simp only[bd,ft,mD];rw[Sg hr (by simp) (Wn u g),Ep];(try simp only[bd,de]);rw[iG (fun x=>(((q:Int),v,(x:Int),es,aU (af es),(k:Int)),(c,f,d),(m,es),((0:Int),(0:Int),(0:Int)),(c,f,d),(a,b),([]:List T3),([]:U),(es.take k).map (fU (c,f,d) q s),([]:U),[a,b],[(q:Int),(q:Int)],bQ (gz (c,f,d) q s x) (q*q))) q (r:=AN (((k:Int),(q:Int),v,es,aU (af es)),(c,f,d),(m,es),((0:Int),(0:Int),(0:Int)),(c,f,d),([]:List T3),([]:U),(es.take k).map (fU (c,f,d) q s),([]:U),[a,b],[(q:Int),(q:Int)],bQ (gz (c,f,d) q s q) (q*q))) ?c12 ?c22 ?c32 fF];(case c12=>intro x hx;dsimp only;rw[bm eE];(try simp only[bd,de]);have Rn:x*q<=16:=IN (show x<=4 by omega) g;rw[bm (yT z),pf (by rw[<-zar];omega) (by rw[<-zar];omega),<-zar,fb,<-zbq];(try simp only[ft]);rw[show vE (c,f,d)=some (eW (c,f,d)) from ak hr];simp only[bd,mD];rw[show zI ((c,f,d),eW (c,f,d),v)=some s from(by rw[<-p];exact ak ⟨hr,rP hr,C⟩)];simp only[bd,mD];rw[aqB hr l g hx];(try simp only[bd]);rw[show bj 0 (af (bQ (gz (c,f,d) q s x) (q*q))) (af (bQ (gz (c,f,d) q s (x+1)) (q*q)))=some () from n5 (by unfold af;rw[qD (w:=ax (c,f,d)) fun i _=>gB (Ah hr l x i),qD (w:=ax (c,f,d)) fun i _=>gB (Ah hr l (x+1) i)])];(try simp only[bd]);rw[fb];rfl);(case c22=>dsimp only;rw[bi dY];try simp only[de,bd]);(case c32=>rw[<-Wk (c,f,d) q s];rfl);simp only[ft,j9,bd,de];rw[tu (by simp only[aE,af,zaj,zam,AI,IS];omega)];(try simp only[bd]);rw[show bj 0 1 (af [([a,b],[(q:Int),(q:Int)],bQ (gz (c,f,d) q s q) (q*q))])=some () from rfl];(try simp only[bd]);rw[show bj 0 (aE (af ((es.take k).map (fU (c,f,d) q s))) (af [([a,b],[(q:Int),(q:Int)],bQ (gz (c,f,d) q s q) (q*q))])) (af (eR ((es.take k).map (fU (c,f,d) q s)) [([a,b],[(q:Int),(q:Int)],bQ (gz (c,f,d) q s q) (q*q))]))=some () from n5 (by simp[aE,af,eR])];simp only[bd,ft,de];rw[fb,F];rw[show fU (c,f,d) q s (a,b)=([a,b],[(q:Int),(q:Int)],bQ (gz (c,f,d) q s q) (q*q)) from aq z];rfl);(try simp only[ft]);rw[ant hr u g hm J];(try simp only[bd,de]);obtain⟨hL,E⟩:=TY (n:=m) (es:=es) (q:=q) (s:=s) hr A l u g;have D:eR (es.map (fU (c,f,d) q s)) (jw (c,f,d) q es m.toNat)=rq (c,f,d) m es q s:=rfl;have H:aE (af (es.map (fU (c,f,d) q s))) (af (jw (c,f,d) q es m.toNat))=af (rq (c,f,d) m es q s):=(by unfold rq aE af;rw[AT]);rw[D,H,tu (by unfold af;omega)];simp only[bd,mD];rw[ao0 hr (fun t o=>(E t o).1) (by omega) (fun t o=>(E t o).2.1) (fun t o=>(E t o).2.2)];simp only[bd,j9];by_cases y:(rq (c,f,d) m es q s).length<=12;rw[decide_eq_true y,ak y];rfl;rw[decide_eq_false y,aq y];rfl
def jB (n:Nat) (es:List (Int×Int)):List Bool:=(zaO n).map fun i=> !(qa es i)
theorem xp (n:Nat) (es:List (Int×Int)):(jB n es).length=n:=by unfold jB;rw[AI,zaQ]
theorem I2 {n:Nat} {es:List (Int×Int)} {i:Nat} (h:i<n):(jB n es)[i]? =some (!(qa es i)):=by unfold jB;rw[IT,zaI h];rfl
theorem asx (n:Nat):jB n []=dn n false:=by refine zaA fun i=>?_;by_cases h:i<n;rw[I2 h];unfold dn;rw[List.getElem?_replicate,ak h];rfl;rw[zaf (by rw[xp];omega),zaf (by unfold dn;rw[za6];omega)]
theorem anu (es:List (Int×Int)) (e:Int×Int) (i:Nat):qa (es++[e]) i=(qa es i&&decide (e.1≠(i:Int)/\e.2≠(i:Int))):=by unfold qa;rw[zbp];simp
theorem asy {n a b:Nat} {es:List (Int×Int)} (f:a<n) (e:b<n):bh (bh (jB n es) a true) b true=jB n (es++[((a:Int),(b:Int))]):=by refine zaA fun i=>?_;unfold bh;by_cases h:i<n;rw[zbf,zbf,zay,xp,I2 h,I2 h,anu];by_cases d:b=i;subst d;rw[ak rfl,ak e,decide_eq_false (by rintro⟨_,x⟩;exact x rfl),zbv];rfl;rw[aq d];by_cases c:a=i;subst c;rw[ak rfl,ak f,decide_eq_false (by rintro⟨x,_⟩;exact x rfl),zbv];rfl;rw[aq c,decide_eq_true ⟨by dsimp only;omega,by dsimp only;omega⟩,Bool.and_true];rw[zaf (by rw[zay,zay,xp];omega),zaf (by rw[xp];omega)]
theorem PP {c d a:Int} {L D s:U} (hL:L.length<=1048576) (b:xR D) (e:s.length<=6):xx ((c,d,a),L,D,s)=some (L,D,bQ (fun _=>s) (bD D)):=(ak ⟨hL,b,e⟩).trans (by rw[Th])
theorem ahy {xs u:U} {o w:Nat} (a:u.length=w) (h:o+w<=xs.length):Ad xs o w (zbG w u)=some (eH xs o u):=by unfold Ad eH;rw[ak h,za3 (l:=u) (Nat.le_of_eq a)]
def Jh (NN:Nat):((Int×(Int×Int))×((Int×(List (Int×Int)))×(Int×U)))->(Option ((Int×(Int×(Int×((List (U×(U×U)))×U))))×Bool)):=
 (fun(((i0,i1,i2),(i3,l4),i5,l6):((Int×(Int×Int))×((Int×(List (Int×Int)))×(Int×U))))=>
 (BW ((i0,i1,i2),(i3,l4),i5,l6)).ae (fun b7=>
 au (dh b7)
 (some (((0:Int),(0:Int),(0:Int),([]:List (U×(U×U))),([]:U)),false))
 ((ue (i0,i1,i2)).ae (fun l8=>
 (cM l8 0 (af l8)).ae (fun l9=>
 (BO ((i0,i1,i2),l9,l6)).ae (fun eV=>
 (mr i3 i3 1).ae (fun jv=>
 cT (aB eV (
 (bj 0 jv (af (dn jv false))).ae (fun _=>
 (bj 0 0 (af (([]:List (U×(U×U)))))).ae (fun _=>
 (bj 0 0 (af (([]:U)))).ae (fun _=>
 (bj 0 0 (af (([]:List (U×(U×U)))))).ae (fun _=>
 (bj 0 0 (af (([]:U)))).ae (fun _=>
 cd NN (fun(((gu,dM,hZ,iU),(eU,jt,iE),(lF,gM,kt),(h9,ku,ox),fv,iF,ji,ic,o8,nD):((Int×((List (Int×Int))×(Int×Int)))×((Int×(Int×Int))×((Int×(Int×Int))×((Int×(Int×Int))×((List (U×(U×U)))×(U×((List (U×(U×U)))×(U×(U×(List Bool)))))))))))=>
 au (bF iU hZ)
 (cT ((cW dM iU).ae (fun(pW,nv)=>
 (dw pW (af nD)).ae (fun yw=>
 (cP nD (aE 0 yw)).ae (fun b34=>
 (dw nv (af nD)).ae (fun q8=>
 (cP (bh nD (aE 0 yw) true) (aE 0 q8)).ae (fun b36=>
 au (bR pW nv)
 ((cM ((pW::([]:U))) 0 1).ae (fun oC=>
 (cM ((gu::([]:U))) 0 1).ae (fun yD=>
 (cM o8 0 (af o8)).ae (fun sr=>
 (xx ((eU,jt,iE),oC,yD,sr)).ae (fun(vj,A7,tN)=>
 (d9 vj (af vj)).ae (fun kw=>
 (d9 A7 (af A7)).ae (fun mO=>
 (d9 tN (af tN)).ae (fun oD=>
 aB ji (
 (bj 0 1 (af (((kw,mO,oD)::([]:List (U×(U×U))))))).ae (fun _=>
 (n3 (aE (af ji) (af (((kw,mO,oD)::([]:List (U×(U×U))))))) 72).ae (fun _=>
 aB o8 (
 (bj 0 (af nD) (af (bh (bh nD (aE 0 yw) true) (aE 0 q8) true))).ae (fun _=>
 aB fv (
 aB iF (
 (bj 0 (aE (af ji) (af (((kw,mO,oD)::([]:List (U×(U×U))))))) (af (eR ji (((kw,mO,oD)::([]:List (U×(U×U)))))))).ae (fun _=>
 aB ic (
 some (AN ((iU,gu,dM,hZ),(eU,jt,iE),(lF,gM,kt),(h9,ku,ox),fv,iF,eR ji (((kw,mO,oD)::([]:List (U×(U×U))))),ic,o8,bh (bh nD (aE 0 yw) true) (aE 0 q8) true)))))))))))))))))))
 ((ue (eU,jt,iE)).ae (fun wP=>
 (cM ((pW::(nv::([]:U)))) 0 2).ae (fun yE=>
 (cM ((gu::(gu::([]:U)))) 0 2).ae (fun vk=>
 (cM wP 0 (af wP)).ae (fun D4=>
 (xx ((eU,jt,iE),yE,vk,D4)).ae (fun(yF,wQ,wR)=>
 cT (aB o8 (
 (bj 0 (af nD) (af (bh (bh nD (aE 0 yw) true) (aE 0 q8) true))).ae (fun _=>
 aB fv (
 aB iF (
 aB ji (
 aB ic (
 aB yF (
 aB wQ (
 aB wR (
 cd NN (fun(((DP,KU,wS,Zz,ZA),(RE,DQ,RF),(yl,ZB,wL),(i64,ym,yn),Lj,Lk,A8,A9,su,yH,Ba,D6,Ll):((Int×(Int×((List (Int×Int))×(Int×Int))))×((Int×(Int×Int))×((Int×(Int×Int))×((Int×(Int×Int))×((List (U×(U×U)))×(U×((List (U×(U×U)))×(U×(U×(U×(U×(U×(List Bool))))))))))))))=>
 au (bF KU DP)
 ((cM su 0 (af su)).ae (fun Lm=>
 (cM yH 0 (af yH)).ae (fun Ln=>
 aB Ba (
 (BV ((RE,DQ,RF),(Lm,Ln,Ba),cH .i64 (mP .i64 KU DP) KU)).ae (fun(Hk,Hl)=>
 (iY Hk Hl (af Ba)).ae (fun(k80,Z0)=>
 (cM D6 0 (af D6)).ae (fun vl=>
 (Ad Ba k80 Z0 (zbG Z0 vl)).ae (fun wT=>
 aB D6 (
 aB Ll (
 aB Lj (
 aB Lk (
 aB A8 (
 aB A9 (
 aB su (
 aB yH (
 (bj 0 (af Ba) (af wT)).ae (fun _=>
 some (AN ((DP,cH .i64 KU 1,wS,Zz,ZA),(RE,DQ,RF),(yl,ZB,wL),(i64,ym,yn),Lj,Lk,A8,A9,su,yH,wT,D6,Ll)))))))))))))))))))
 ((aB D6 (
 aB Ll (
 aB Lj (
 aB Lk (
 aB A8 (
 aB A9 (
 aB su (
 aB yH (
 aB Ba (
 some (AN ((ZA,DP,wS,Zz),(RE,DQ,RF),(yl,ZB,wL),(i64,ym,yn),Lj,Lk,A8,A9,su,yH,Ba,D6,Ll)))))))))))).ae (fun vm=>
 some (GB vm))))
 ((gu,(0:Int),dM,hZ,iU),(eU,jt,iE),(lF,gM,kt),(h9,ku,ox),fv,iF,ji,ic,yF,wQ,wR,o8,bh (bh nD (aE 0 yw) true) (aE 0 q8) true)))))))))))
 (fun((i85,KV,l87,RN),(RO,i90,i91),(RP,RQ,DR),(DS,DT,RR),Lo,l99,HC,Z5,Z6,Z7,Z8,Z9,aaa)=>
 (d9 Z6 (af Z6)).ae (fun yx=>
 (d9 Z7 (af Z7)).ae (fun yy=>
 (d9 Z8 (af Z8)).ae (fun yz=>
 aB HC (
 (bj 0 1 (af (((yx,yy,yz)::([]:List (U×(U×U))))))).ae (fun _=>
 (n3 (aE (af HC) (af (((yx,yy,yz)::([]:List (U×(U×U))))))) 72).ae (fun _=>
 aB Z9 (
 aB aaa (
 aB Lo (
 aB l99 (
 (bj 0 (aE (af HC) (af (((yx,yy,yz)::([]:List (U×(U×U))))))) (af (eR HC (((yx,yy,yz)::([]:List (U×(U×U)))))))).ae (fun _=>
 aB Z5 (
 some (AN ((i85,KV,l87,RN),(RO,i90,i91),(RP,RQ,DR),(DS,DT,RR),Lo,l99,eR HC (((yx,yy,yz)::([]:List (U×(U×U))))),Z5,Z9,aaa)))))))))))))))))))))))))))
 (fun((ak3,ak4,DW,ak5),(ak6,ak7,ak8),(ak9,ala,alb),(alc,ald,Rp),aaf,Ld,Le,aag,aah,aai)=>
 aB aah (
 aB aai (
 aB aaf (
 aB Ld (
 aB Le (
 aB aag (
 some (AN ((ak4,DW,ak5,cH .i64 ak3 1),(ak6,ak7,ak8),(ak9,ala,alb),(alc,ald,Rp),aaf,Ld,Le,aag,aah,aai))))))))))
 ((aB nD (
 aB fv (
 aB iF (
 aB ji (
 aB ic (
 some (AN (gu,(eU,jt,iE),(lF,gM,kt),(h9,ku,ox),fv,iF,ji,ic,nD)))))))).ae (fun ana=>
 some (GB ana))))
 ((i5,l4,aU (af l4),(0:Int)),(i0,i1,i2),((0:Int),(0:Int),(0:Int)),(i0,i1,i2),([]:List (U×(U×U))),([]:U),([]:List (U×(U×U))),([]:U),eV,dn jv false))))))))
 (fun(Rq,(alj,Rr,Rs),(Rt,Ru,Rv),(Rw,alk,alm),yA,HD,HE,HG,DX)=>
 cT (aB DX (
 aB yA (
 aB HD (
 aB HE (
 aB HG (
 cd NN (fun(((Rx,Rz,GY),(DK,DM,KQ),(RB,GZ,G0),(G4,G5,G6),yB,DY,wN,DZ,D2):((Int×(Int×Int))×((Int×(Int×Int))×((Int×(Int×Int))×((Int×(Int×Int))×((List (U×(U×U)))×(U×((List (U×(U×U)))×(U×(List Bool))))))))))=>
 au (bF GY Rz)
 ((dw GY (af D2)).ae (fun alQ=>
 (cP D2 (aE 0 alQ)).ae (fun agK=>
 au (dh agK)
 ((ue (DK,DM,KQ)).ae (fun HK=>
 (cM ((GY::([]:U))) 0 1).ae (fun Lf=>
 (cM ((Rx::([]:U))) 0 1).ae (fun Lg=>
 (cM HK 0 (af HK)).ae (fun Lh=>
 (xx ((DK,DM,KQ),Lf,Lg,Lh)).ae (fun(Li,aal,aam)=>
 (d9 Li (af Li)).ae (fun HL=>
 (d9 aal (af aal)).ae (fun HM=>
 (d9 aam (af aam)).ae (fun HN=>
 aB wN (
 (bj 0 1 (af (((HL,HM,HN)::([]:List (U×(U×U))))))).ae (fun _=>
 (n3 (aE (af wN) (af (((HL,HM,HN)::([]:List (U×(U×U))))))) 72).ae (fun _=>
 aB D2 (
 aB yB (
 aB DY (
 (bj 0 (aE (af wN) (af (((HL,HM,HN)::([]:List (U×(U×U))))))) (af (eR wN (((HL,HM,HN)::([]:List (U×(U×U)))))))).ae (fun _=>
 aB DZ (
 some (AN ((Rx,Rz,cH .i64 GY 1),(DK,DM,KQ),(RB,GZ,G0),(G4,G5,G6),yB,DY,eR wN (((HL,HM,HN)::([]:List (U×(U×U))))),DZ,D2)))))))))))))))))))
 (aB D2 (
 aB yB (
 aB DY (
 aB wN (
 aB DZ (
 some (AN ((Rx,Rz,cH .i64 GY 1),(DK,DM,KQ),(RB,GZ,G0),(G4,G5,G6),yB,DY,wN,DZ,D2)))))))))))
 ((aB yB (
 aB DY (
 aB wN (
 aB DZ (
 some (AN ((RB,GZ,G0),(G4,G5,G6),yB,DY,wN,DZ))))))).ae (fun Sd=>
 some (GB Sd))))
 ((Rq,aU (af DX),(0:Int)),(alj,Rr,Rs),(Rt,Ru,Rv),(Rw,alk,alm),yA,HD,HE,HG,DX)))))))
 (fun((aly,alz,alA),(G7,G8,G9),anh,ani,tL,wO)=>
 (cM tL 0 (af tL)).ae (fun yC=>
 (cM wO 0 (af wO)).ae (fun Se=>
 (BQ (G7,G8,G9,yC,Se)).ae (fun agL=>
 au (dh agL)
 (some (((0:Int),(0:Int),(0:Int),([]:List (U×(U×U))),([]:U)),false))
 ((d9 tL (af tL)).ae (fun ank=>
 (d9 wO (af wO)).ae (fun Sf=>
 some ((G7,G8,G9,ank,Sf),true))))))))))))))))
def xw:((Int×(Int×Int))×((Int×(List (Int×Int)))×(Int×U)))->(Option ((Int×(Int×(Int×((List (U×(U×U)))×U))))×Bool)):=Jh aK
theorem aiJ (x:((Int×(Int×Int))×((Int×(List (Int×Int)))×(Int×U)))) (z:((Int×(Int×(Int×((List (U×(U×U)))×U))))×Bool)) (h:xw x=some z):Jh aK x=some z:=h
theorem arZ {c f d m j:Int} {es:List (Int×Int)} {v:U} (X:v.length<=9223372036854775806):
    xw ((c,f,d),(m,es),j,v)=some (zn (c,f,d) (m,es) j v):=by
  have DA:fQ=140737488355328:=rfl;simp only[xw,Jh,aB];rw[show BW ((c,f,d),(m,es),j,v)=some (tW (c,f,d) (m,es) j v) from ak X]
  try simp only[bd]
  unfold zn;cases tF:tW (c,f,d) (m,es) j v with
  |false=>rw[bm (b:=dh false) rfl,aq (by simp)];rfl
  |true=>
   obtain⟨hr,A,N,q1,q4⟩:=TZ tF;obtain⟨q,rfl⟩:∃q:Nat,j=(q:Int):=⟨j.toNat,by omega⟩;have o:1<=q:=by omega
   have g:q<=4:=by omega
   rw[bi (b:=dh true) rfl,ak rfl,BY];dsimp only at A⊢;have D:=A;unfold rU at D;rw[By,By,decide_eq_true_eq,decide_eq_true_eq] at D;obtain⟨⟨hm,P⟩,J⟩:=D;obtain⟨n,rfl⟩:∃n:Nat,m=(n:Int):=⟨m.toNat,by omega⟩;have hw:=jU hr;rw[show ue (c,f,d)=some (eW (c,f,d)) from ak hr]
   simp only[bd,mD];rw[agr hr (rP hr) N,show mr (n:Int) (n:Int) 1=some n from HW (by omega)]
   obtain⟨s,L⟩:∃s,eQ (c,f,d) (eW (c,f,d)) v=s:=⟨_,rfl⟩;have p:cL (c,f,d) s=true:=by rw[<-L];exact FY hr (rP hr) N
   have W:=gB p;rw[L];simp only[bd,de];rw[show bj 0 n (af (dn n false))=some () from n5 (by unfold af dn;rw[za6]),show bj 0 0 (af ([]:List (U×U×U)))=some () from rfl,show bj 0 0 (af ([]:U))=some () from rfl]
   simp only[bd];rw[iG (fun k=>(((q:Int),es,aU (af es),(k:Int)),(c,f,d),((0:Int),(0:Int),(0:Int)),(c,f,d),([]:List T3),([]:U),(es.take k).map (fU (c,f,d) q s),([]:U),s,jB n (es.take k))) es.length (r:=AN ((q:Int),(c,f,d),((0:Int),(0:Int),(0:Int)),(c,f,d),([]:List T3),([]:U),es.map (fU (c,f,d) q s),([]:U),jB n es)) ?a1 ?a2 ?a3 fF]
   case a2=>
     dsimp only
     rw[bi (dY (by rw[nl];omega)),zaF]
     try simp only[de,bd]
   case a3=>rw[zbu,asx];rfl
   case a1=>
     intro k hk;obtain⟨e,h⟩:∃e,es[k]? =some e:=⟨_,wt hk⟩;obtain⟨a,b⟩:=e;have H:=of_decide_eq_true (zai.1 J _ (Pd h));dsimp only at H;obtain⟨a,rfl⟩:∃a':Nat,a=(a':Int):=⟨a.toNat,by omega⟩;obtain⟨b,rfl⟩:∃b':Nat,b=(b':Int):=⟨b.toNat,by omega⟩;have G:a<n:=by omega
     have C:b<n:=by omega
     have O:es.take (k+1)=es.take k++[((a:Int),(b:Int))]:=by rw[zaP,h];rfl
     have K:(es.take (k+1)).map (fU (c,f,d) q s)=(es.take k).map (fU (c,f,d) q s)++[fU (c,f,d) q s ((a:Int),(b:Int))]:=by rw[O,zaq];rfl
     have F:bh (bh (jB n (es.take k)) a true) b true=jB n (es.take (k+1)):=by rw[asy G C,O]
     have Y:aE 0 a=a:=zaC a;have T:aE 0 b=b:=zaC b;have l:af (jB n (es.take k))=n:=xp n _;have B:af (jB n (es.take (k+1)))=n:=xp n _;have ga:cP (jB n (es.take k)) a=some (!(qa (es.take k) a)):=I2 G;obtain⟨Q,Z⟩:∃Q,cP (bh (jB n (es.take k)) a true) b=some Q:=⟨_,wt (by unfold bh;rw[zay,xp];exact C)⟩;dsimp only
     rw[bm (eE (by rw[nl];omega)),eZ,h];simp only[bd,l,vT G,vT C,Y,T,ga,Z,F];by_cases z:(a:Int)=(b:Int)
     case pos=>
      rw[bm (Al z),show cM [(a:Int)] 0 1=some [(a:Int)] from rfl,show cM [(q:Int)] 0 1=some [(q:Int)] from rfl]
      simp only[bd,mD];rw[PP (by simp) (J3 o g) (by omega),yX];simp only[bd,j9,de];rw[show bj 0 1 (af [([(a:Int)],[(q:Int)],bQ (fun _=>s) q)])=some () from rfl]
      simp only[bd];rw[tu (by simp only[aE,af,zaj,zam,AI,IS];omega)];simp only[bd];rw[show bj 0 n (af (jB n (es.take (k+1))))=some () from n5 B.symm]
      simp only[bd];rw[show bj 0 (aE (af ((es.take k).map (fU (c,f,d) q s))) (af [([(a:Int)],[(q:Int)],bQ (fun _=>s) q)])) (af (eR ((es.take k).map (fU (c,f,d) q s)) [([(a:Int)],[(q:Int)],bQ (fun _=>s) q)]))=some () from n5 (by simp[aE,af,eR])]
      simp only[bd,ft];rw[fb,K];rw[show fU (c,f,d) q s ((a:Int),(b:Int))=([(a:Int)],[(q:Int)],bQ (fun _=>s) q) from ak z]
      try simp only[de,bd,B]
      rfl
     case neg=>
      rw[bi (xT z),show ue (c,f,d)=some (eW (c,f,d)) from ak hr]
      simp only[bd];rw[show cM [(a:Int),(b:Int)] 0 2=some [(a:Int),(b:Int)] from rfl,show cM [(q:Int),(q:Int)] 0 2=some [(q:Int),(q:Int)] from rfl]
      simp only[bd,mD];rw[PP (by simp) (Wn o g) (by rw[gB (rP hr)];omega),Ep];simp only[bd,de];rw[show bj 0 n (af (jB n (es.take (k+1))))=some () from n5 B.symm]
      simp only[bd];rw[iG (fun x=>(((q:Int),(x:Int),es,aU (af es),(k:Int)),(c,f,d),((0:Int),(0:Int),(0:Int)),(c,f,d),([]:List T3),([]:U),(es.take k).map (fU (c,f,d) q s),([]:U),[(a:Int),(b:Int)],[(q:Int),(q:Int)],bQ (gz (c,f,d) q s x) (q*q),s,jB n (es.take (k+1)))) q (r:=AN (((k:Int),(q:Int),es,aU (af es)),(c,f,d),((0:Int),(0:Int),(0:Int)),(c,f,d),([]:List T3),([]:U),(es.take k).map (fU (c,f,d) q s),([]:U),[(a:Int),(b:Int)],[(q:Int),(q:Int)],bQ (gz (c,f,d) q s q) (q*q),s,jB n (es.take (k+1)))) ?c1 ?c2 ?c3 fF]
      case c1=>
       intro x hx;have Rn:x*q<=16:=IN (show x<=4 by omega) g;have hl:(bQ (gz (c,f,d) q s x) (q*q)).length=q*q*ax (c,f,d):=qD fun i _=>gB (Ah hr p x i);have QL:(bQ (gz (c,f,d) q s (x+1)) (q*q)).length=q*q*ax (c,f,d):=qD fun i _=>gB (Ah hr p (x+1) i);have AL:=IN g g;have hm4:=IN AL hw.2.2;have E:=If q (show x+1<=q from hx)
       rw[OF,Pe] at E;have y:=If (ax (c,f,d)) (show x*q+x+1<=q*q by omega);have P:BV ((c,f,d),([(a:Int),(b:Int)],[(q:Int),(q:Int)],bQ (gz (c,f,d) q s x) (q*q)),((x*q+x:Nat):Int))=some ((((x*q+x)*ax (c,f,d):Nat):Int),(((x*q+x+1)*ax (c,f,d):Nat):Int)):=
         ak ⟨hr,zaz _,by dsimp only;rw[hl,BY];exact y,by dsimp only;rw[hl];omega⟩
       have gR:(x*q+x+1)*ax (c,f,d) - (x*q+x)*ax (c,f,d)=ax (c,f,d):=by rw[OF _ 1,Pe];omega
       have gG:(x*q+x)*ax (c,f,d)<=(x*q+x+1)*ax (c,f,d):=by rw[OF _ 1,Pe];omega
       dsimp only
       rw[bm eE,pf (by rw[<-zar];omega) (by rw[<-zar];omega),<-zar,fb (a:=((x*q:Nat):Int)) (by omega) (by omega),<-zbq];simp only[bd,mD,de,P];rw[aeP gG (by unfold af;rw[hl];exact y),gR];simp only[bd,mD];rw[ahy W (by rw[hl];rw[OF _ 1,Pe] at y;exact y),Wl hr p hx];simp only[bd,de];rw[show bj 0 (af (bQ (gz (c,f,d) q s x) (q*q))) (af (bQ (gz (c,f,d) q s (x+1)) (q*q)))=some () from n5 (by unfold af;rw[hl,QL])]
       try simp only[bd,de]
       rw[fb];rfl
      case c2=>
       dsimp only
       rw[bi dY]
       try simp only[de,bd]
      case c3=>rw[<-Wk (c,f,d) q s];rfl
      simp only[ft,j9,bd,de];rw[tu (by simp only[aE,af,zaj,zam,AI,IS];omega)];simp only[bd];rw[show bj 0 1 (af [([(a:Int),(b:Int)],[(q:Int),(q:Int)],bQ (gz (c,f,d) q s q) (q*q))])=some () from rfl]
      simp only[bd];rw[show bj 0 (aE (af ((es.take k).map (fU (c,f,d) q s))) (af [([(a:Int),(b:Int)],[(q:Int),(q:Int)],bQ (gz (c,f,d) q s q) (q*q))])) (af (eR ((es.take k).map (fU (c,f,d) q s)) [([(a:Int),(b:Int)],[(q:Int),(q:Int)],bQ (gz (c,f,d) q s q) (q*q))]))=some () from n5 (by simp[aE,af,eR])]
      simp only[bd,ft,de];rw[fb,K];rw[show fU (c,f,d) q s ((a:Int),(b:Int))=([(a:Int),(b:Int)],[(q:Int),(q:Int)],bQ (gz (c,f,d) q s q) (q*q)) from aq z]
      rfl
   simp only[ft,bd,de];rw[iG (fun i=>(((q:Int),aU (af (jB n es)),(i:Int)),(c,f,d),((0:Int),(0:Int),(0:Int)),(c,f,d),([]:List T3),([]:U),es.map (fU (c,f,d) q s)++jw (c,f,d) q es i,([]:U),jB n es)) n (r:=AN (((0:Int),(0:Int),(0:Int)),(c,f,d),([]:List T3),([]:U),rq (c,f,d) (n:Int) es q s,([]:U))) ?d1 ?d2 ?d3 fF]
   case d2=>
     dsimp only
     rw[bi (dY (by rw[show aU (af (jB n es))=(n:Int) from congrArg aU (xp n es)];omega))]
     try simp only[de,bd]
     rfl
   case d3=>rw[show jw (c,f,d) q es 0=[] from rfl,zal];rfl
   case d1=>
     intro i M;have QN:=(Lu (es:=es) (q:=q) hr o g i (by omega)).1;have l:af (jB n es)=n:=xp n es;have R:cP (jB n es) i=some (!(qa es i)):=I2 M;have S:aE 0 i=i:=zaC i;have V:jw (c,f,d) q es (i+1)=if qa es i=true then jw (c,f,d) q es i++[Sr (c,f,d) q (i:Int)] else jw (c,f,d) q es i:=rfl
     dsimp only
     rw[bm (eE (by rw[show aU (af (jB n es))=(n:Int) from congrArg aU l];omega)),l]
     simp only[vT M,bd,S,R];rw[fb,V];by_cases hL:qa es i=true
     · rw[ak hL,hL,bm (b:=dh (!true)) rfl,show ue (c,f,d)=some (eW (c,f,d)) from ak hr,show cM [(i:Int)] 0 1=some [(i:Int)] from rfl,show cM [(q:Int)] 0 1=some [(q:Int)] from rfl]
       simp only[bd,mD];rw[PP (by simp) (J3 o g) (by rw[gB (rP hr)];omega),yX];simp only[bd,j9,de];rw[show bj 0 1 (af [([(i:Int)],[(q:Int)],bQ (fun _=>eW (c,f,d)) q)])=some () from rfl]
       simp only[bd];rw[tu (by simp only[aE,af,zaj,zam,AI,AT];omega)];simp only[bd];rw[show bj 0 (aE (af (es.map (fU (c,f,d) q s)++jw (c,f,d) q es i)) (af [([(i:Int)],[(q:Int)],bQ (fun _=>eW (c,f,d)) q)])) (af (eR (es.map (fU (c,f,d) q s)++jw (c,f,d) q es i) [([(i:Int)],[(q:Int)],bQ (fun _=>eW (c,f,d)) q)]))=some () from n5 (by unfold aE af eR;exact AT.symm)]
       simp only[bd];rw[<-zac]
       try simp only[l,de,bd]
       rfl
     · rw[aq hL,zbe.2 hL,bi (b:=dh (!false)) rfl]
       try simp only[bd,de,l]
       rfl
   simp only[ft,bd,mD];obtain⟨hL,I⟩:=TY (n:=(n:Int)) (es:=es) (q:=q) (s:=s) hr A p o g;rw[aoZ hr (fun t u=>(I t u).1) (by omega) (fun t u=>(I t u).2.1) (fun t u=>(I t u).2.2)];simp only[bd,j9];by_cases w:(rq (c,f,d) (n:Int) es q s).length<=12
   · rw[decide_eq_true w,ak w];rfl
   · rw[decide_eq_false w,aq w];rfl
def B0:(Int×Int×Int)×(Int×Int×Int)->Option Bool:=fun(x:(Int×Int×Int)×(Int×Int×Int))=>some (decide (x.1=x.2))
def sT (l:List (U×U×U)):Nat:=l.length+(l.map kC).sum
def B2:(List (U×U×U))×(List (U×U×U))->Option Bool:=fun((x,y):(List (U×U×U))×(List (U×U×U)))=>if sT x<=1048576 then some (decide (x=y)) else none
def mB (x:Int×Int×Int×(List (U×U×U))×U):Nat:=match x with|(a0,a1,a2,a3,a4)=>sT a3+j8 a4
def uf:(Int×Int×Int×(List (U×U×U))×U)×(Int×Int×Int×(List (U×U×U))×U)->Option Bool:=fun((x,y):(Int×Int×Int×(List (U×U×U))×U)×(Int×Int×Int×(List (U×U×U))×U))=>if mB x<=1048576 then some (decide (x=y)) else none
def ng (x:U×U×U):Nat:=match x with|(a0,a1,a2)=>dJ a0+dJ a1+dJ a2
def lL (x:U×U×U) (k:Int):U×U×U:=match x with|(a0,a1,a2)=>(eB a0 (k),eB a1 (k+(dJ a0:Nat)),eB a2 (k+(dJ a0:Nat)+(dJ a1:Nat)))
def fP (l:List (U×U×U)):Nat:=je ng l
def gV (l:List (U×U×U)) (k:Int):List (U×U×U):=gU ng lL l k
def B7:(List (U×U×U))×Int->Option (Int×(List (U×U×U))):=fun((x,k):(List (U×U×U))×Int)=>if 0<=k/\k+4*(sT x:Nat)<=1099511627776 then some (k+(fP x:Nat),gV x k) else none
def B3:(List (U×U×U))×Int->Option Int:=fun((x,k):(List (U×U×U))×Int)=>if 0<=k/\k+4*(sT x:Nat)<=1099511627776 then some (if x=gV x k then k+(fP x:Nat) else -1) else none
def LB (x:Int×Int×Int×(List (U×U×U))×U) (k:Int):Int×Int×Int×(List (U×U×U))×U:=match x with|(a0,a1,a2,a3,a4)=>(a0,a1,a2,gV a3 (k),eB a4 (k+(fP a3:Nat)))
def B6:(Int×Int×Int×(List (U×U×U))×U)×Int->Option (Int×(List (U×U×U))×U):=fun(((a0,a1,a2,a3,a4),k):(Int×Int×Int×(List (U×U×U))×U)×Int)=>if 0<=k/\k+4*(mB (a0,a1,a2,a3,a4):Nat)<=1099511627776 then some (k+(fP a3:Nat)+(dJ a4:Nat),gV a3 (k),eB a4 (k+(fP a3:Nat))) else none
def vC:(Int×Int×Int×(List (U×U×U))×U)×Int->Option Int:=fun(((a0,a1,a2,a3,a4),k):(Int×Int×Int×(List (U×U×U))×U)×Int)=>if 0<=k/\k+4*(mB (a0,a1,a2,a3,a4):Nat)<=1099511627776 then some (if a3=gV a3 (k)/\a4=eB a4 (k+(fP a3:Nat)) then k+(fP a3:Nat)+(dJ a4:Nat) else -1) else none
def NX (NN:Nat):((Int×(Int×Int))×(Int×(Int×Int)))->(Option Bool):=
 (fun(((i0,i1,i2),i3,i4,i5):((Int×(Int×Int))×(Int×(Int×Int))))=>
 au (ff i0 i3)
 (some false)
 (au (ff i1 i4)
 (some false)
 (au (ff i2 i5)
 (some false)
 (some true))))
def UX (NN:Nat):((List (U×(U×U)))×(List (U×(U×U))))->(Option Bool):=
 (fun((l0,l1):((List (U×(U×U)))×(List (U×(U×U)))))=>
 au (ff (aU (af l0)) (aU (af l1)))
 (some false)
 (cT (cd NN (fun((l2,l3,i4):((List (U×(U×U)))×((List (U×(U×U)))×Int)))=>
 au (bF i4 (aU (af l2)))
 ((cW l2 i4).ae (fun(l5,l6,l7)=>
 (cW l3 i4).ae (fun(l8,l9,eV)=>
 (B1 ((l5,l6,l7),l8,l9,eV)).ae (fun zQ=>
 au (dh zQ)
 (some (GB (GB false)))
 (some (AN (l2,l3,cH .i64 i4 1)))))))
 (some (GB (AN ()))))
 (l0,l1,(0:Int)))
 (fun _=>
 some true)))
def NW (NN:Nat):((Int×(Int×(Int×((List (U×(U×U)))×U))))×(Int×(Int×(Int×((List (U×(U×U)))×U)))))->(Option Bool):=
 (fun(((i0,i1,i2,l3,l4),i5,i6,i7,l8,l9):((Int×(Int×(Int×((List (U×(U×U)))×U))))×(Int×(Int×(Int×((List (U×(U×U)))×U))))))=>
 (B0 ((i0,i1,i2),i5,i6,i7)).ae (fun nM=>
 au (dh nM)
 (some false)
 ((B2 (l3,l8)).ae (fun zQ=>
 au (dh zQ)
 (some false)
 ((pI (l4,l9)).ae (fun OK=>
 au (dh OK)
 (some false)
 (some true)))))))
def N6 (NN:Nat):((List (U×(U×U)))×Int)->(Option (Int×(List (U×(U×U))))):=
 (fun((l0,i1):((List (U×(U×U)))×Int))=>
 cT (aB l0 (
 cd NN (fun(((i2,i3),l4):((Int×Int)×(List (U×(U×U)))))=>
 au (bF i3 (aU (af l4)))
 ((dw i3 (af l4)).ae (fun k5=>
 (cP l4 (aE 0 k5)).ae (fun(l6,l7,l8)=>
 (cP l4 (aE 0 k5)).ae (fun(l9,eV,tK)=>
 (pJ (l9,i2)).ae (fun(gu,dM)=>
 (cP l4 (aE 0 k5)).ae (fun(dX,gT,ib)=>
 (dw i3 (af l4)).ae (fun sj=>
 (cP (bh l4 (aE 0 k5) (dM,gT,ib)) (aE 0 sj)).ae (fun(gE,fC,kv)=>
 (cP (bh l4 (aE 0 k5) (dM,gT,ib)) (aE 0 sj)).ae (fun(sk,sn,nC)=>
 (pJ (sn,gu)).ae (fun(ox,fv)=>
 (cP (bh l4 (aE 0 k5) (dM,gT,ib)) (aE 0 sj)).ae (fun(iF,ji,ic)=>
 (dw i3 (af l4)).ae (fun Hz=>
 (cP (bh (bh l4 (aE 0 k5) (dM,gT,ib)) (aE 0 sj) (iF,fv,ic)) (aE 0 Hz)).ae (fun(nD,vi,tM)=>
 (cP (bh (bh l4 (aE 0 k5) (dM,gT,ib)) (aE 0 sj) (iF,fv,ic)) (aE 0 Hz)).ae (fun(p9,sq,Sh)=>
 (pJ (Sh,ox)).ae (fun(vd,oC)=>
 (cP (bh (bh l4 (aE 0 k5) (dM,gT,ib)) (aE 0 sj) (iF,fv,ic)) (aE 0 Hz)).ae (fun(yD,sr,vj)=>
 (bj 0 (af l4) (af (bh (bh (bh l4 (aE 0 k5) (dM,gT,ib)) (aE 0 sj) (iF,fv,ic)) (aE 0 Hz) (yD,sr,oC)))).ae (fun _=>
 some (AN ((vd,cH .i64 i3 1),bh (bh (bh l4 (aE 0 k5) (dM,gT,ib)) (aE 0 sj) (iF,fv,ic)) (aE 0 Hz) (yD,sr,oC))))))))))))))))))))
 (some (GB (AN (i2,l4)))))
 ((i1,(0:Int)),l0)))
 (fun(sd,tN)=>
 (mz (af tN) (af l0)).ae (fun _=>
 some (sd,tN))))
def N5 (NN:Nat):((Int×(Int×(Int×((List (U×(U×U)))×U))))×Int)->(Option (Int×((List (U×(U×U)))×U))):=
 (fun(((i0,i1,i2,l3,l4),i5):((Int×(Int×(Int×((List (U×(U×U)))×U))))×Int))=>
 aB l3 (
 (B7 (l3,i5)).ae (fun(i6,l7)=>
 aB l4 (
 (pJ (l4,i6)).ae (fun(i8,l9)=>
 (mz (af l7) (af l3)).ae (fun _=>
 (mz (af l9) (af l4)).ae (fun _=>
 some (i8,l7,l9))))))))
def N1 (NN:Nat):((List (U×(U×U)))×Int)->(Option Int):=
 (fun((l0,i1):((List (U×(U×U)))×Int))=>
 cT (cd NN (fun((l2,i3,i4):((List (U×(U×U)))×(Int×Int)))=>
 au (bF i4 (aU (af l2)))
 ((cW l2 i4).ae (fun(l5,l6,l7)=>
 (rC (l5,i3)).ae (fun i8=>
 au (bF i8 (0:Int))
 (some (GB (GB ((-1:Int)))))
 ((cW l2 i4).ae (fun(l9,eV,tK)=>
 (rC (eV,i8)).ae (fun gu=>
 au (bF gu (0:Int))
 (some (GB (GB ((-1:Int)))))
 ((cW l2 i4).ae (fun(dM,dX,gT)=>
 (rC (gT,gu)).ae (fun eU=>
 au (bF eU (0:Int))
 (some (GB (GB ((-1:Int)))))
 (some (AN (l2,eU,cH .i64 i4 1))))))))))))
 (some (GB (AN i3))))
 (l0,i1,(0:Int)))
 (fun jt=>
 some jt))
def N0 (NN:Nat):((Int×(Int×(Int×((List (U×(U×U)))×U))))×Int)->(Option Int):=
 (fun(((i0,i1,i2,l3,l4),i5):((Int×(Int×(Int×((List (U×(U×U)))×U))))×Int))=>
 (B3 (l3,i5)).ae (fun i6=>
 au (bF i6 (0:Int))
 (some ((-1:Int)))
 ((rC (l4,i6)).ae (fun i7=>
 au (bF i7 (0:Int))
 (some ((-1:Int)))
 (some i7)))))
theorem ai4 (x:(Int×Int×Int)×(Int×Int×Int)) (y:Bool) (h:B0 x=some y):NX aK x=some y:=by obtain⟨⟨c,a,b⟩,b0,d,e⟩:=x;rw[<-h];simp only[NX,B0];by_cases e0:c=b0<;>by_cases e1:a=d<;>by_cases e2:b=e<;>simp[HZ,au, *]
theorem asp {l:List (U×U×U)} (h:sT l<=1048576):l.length<=1048576/\∀e∈l,kC e<=1048576:=by unfold sT at h;refine⟨by omega,fun e a=>?_⟩;have:=aap (List.mem_map_of_mem (f:=kC) a);omega
theorem ai6 (x:(List (U×U×U))×(List (U×U×U))) (y:Bool) (h:B2 x=some y):UX aK x=some y:=by
 obtain⟨a,b⟩:=x;simp only[B2] at h;split at h
 ·rename_i hl;rw[<-h];obtain⟨hl,hm⟩:=asp hl;exact PH B1 a b (fun e c b=>show(if kC e<=1048576 then some (decide (e=b)) else none)=_ from ak (hm e c)) (by omega)
 ·cases h
theorem ai3 (x:(Int×Int×Int×(List (U×U×U))×U)×(Int×Int×Int×(List (U×U×U))×U)) (y:Bool) (h:uf x=some y):NW aK x=some y:=by obtain⟨⟨j,c,i,a,b⟩,b0,d,f,g,e⟩:=x;simp only[uf] at h;split at h;rename_i hl;rw[<-h];have eJ:sT a+j8 b<=1048576:=hl;simp only[NW,B0,B2,pI,ak (show sT a<=1048576 by omega),ak (show j8 b<=1048576 by omega),bw];by_cases e0:j=b0<;>by_cases e1:c=d<;>by_cases e2:i=f<;>by_cases e3:a=g<;>by_cases e4:b=e<;>simp[dh,au, *];cases h
theorem ahT (x:Int×Int×Int×(List (U×U×U))×U) (h:mB x<=1048576):uf (x,x)=some true:=by
 have:=show uf (x,x)=if mB x<=1048576 then some (decide (x=x)) else none from rfl
 rw[this,ak h,decide_eq_true rfl]
theorem OX (x:U×U×U):ng x<=4*(1+kC x):=by obtain⟨c,a,b⟩:=x;have h0:=qB c;have h1:=qB a;have h2:=qB b;simp only[ng,kC];omega
theorem arU (x:U×U×U) (k:Int):kC (lL x k)=kC x:=by obtain⟨a0,a1,a2⟩:=x;simp only[lL,kC,aeU]
theorem VZ (x:U×U×U) (k:Int):ng (lL x k)=ng x:=by obtain⟨a0,a1,a2⟩:=x;simp only[lL,ng,Ph]
theorem anF (x:U×U×U) (k:Int):lL (lL x k) k=lL x k:=by obtain⟨a0,a1,a2⟩:=x;simp only[lL,Ph,aaS]
theorem IZ (l:List (U×U×U)):sT l=l.length+(l.map kC).sum:=by rfl
theorem OW (l:List (U×U×U)):fP l<=4*sT l:=by rw[IZ];exact FL ng kC OX l
theorem arW (l:List (U×U×U)) (k:Int):sT (gV l k)=sT l:=by rw[IZ,IZ,gV,Bd,IW ng lL kC arU]
theorem ahn (l:List (U×U×U)) (k:Int):fP (gV l k)=fP l:=IW ng lL ng VZ l k
theorem anG (l:List (U×U×U)) (k:Int):gV (gV l k) k=gV l k:=SF ng lL VZ anF l k
theorem Ls (l:List (U×U×U)) (k:Int):(gV l k).length=l.length:=Bd _ _ _ _
theorem aje (x:(List (U×U×U))×Int) (y:Int×(List (U×U×U))) (h:B7 x=some y):N6 aK x=some y:=by obtain⟨l,k⟩:=x;simp only[B7] at h;split at h;rename_i f;obtain⟨m,e⟩:=f;rw[IZ] at e;rw[<-h];simp only[N6,de,bw,aB];rw[Sz l ng kC lL k (r:=AN (k+(fP l:Nat),gV l k)) OX m e ?_ ?_];rw[ft];simp only;rw[sL (show af (gV l k)=af l from Ls l k),bw];rintro i ⟨a,b,d⟩ ys k' he hy c h0 j;have p:cP ys i=some (a,b,d):=c;simp only;rw[bm (qb c),sB c (by omega)];simp only[FI c,bw,uu,p,tO,de];have agX:=qB a;have VK:=qB b;have agY:=qB d;simp only[kC] at j;have n:pJ (a,k')=some (k'+(dJ a:Nat),eB a (k')):=ak ⟨by omega,by omega⟩;have o:pJ (b,k'+(dJ a:Nat))=some (k'+(dJ a:Nat)+(dJ b:Nat),eB b (k'+(dJ a:Nat))):=ak ⟨by omega,by omega⟩;have g:pJ (d,k'+(dJ a:Nat)+(dJ b:Nat))=some (k'+(dJ a:Nat)+(dJ b:Nat)+(dJ d:Nat),eB d (k'+(dJ a:Nat)+(dJ b:Nat))):=ak ⟨by omega,by omega⟩;simp only[n,o,g,bw,Yn c,aeE,tO,de];refine congrArg some (congrArg AN (zby (zby ?_ rfl) rfl));simp only[ng];omega;simp only;rw[bi (dY (by have:=Ls l k;have q:=nl (gV l k);unfold gV at this q;omega))];rfl;cases h
theorem ai9 (x:(List (U×U×U))×Int) (y:Int) (h:B3 x=some y):N1 aK x=some y:=by
 obtain⟨l,k⟩:=x;simp only[B3] at h;split at h
 ·rename_i n;obtain⟨q,m⟩:=n;rw[IZ] at m;rw[<-h];simp only[N1];rw[YK l ng kC lL k OX q m ?_ ?_]
  ·unfold gV fP;by_cases g:l=gU ng lL l k
   ·rw[ak g,ak g,ft]
   ·rw[aq g,aq g,AX]
  ·rintro i ⟨a,b,c⟩ k' j h0 p;simp only
   have agX:=qB a;have VK:=qB b;have agY:=qB c;simp only[kC] at p;rw[bm (qb j),sB j (by omega)];have r:rC (a,k')=some (if a=eB a (k') then k'+(dJ a:Nat) else -1):=ak ⟨by omega,by omega⟩
   have s:rC (b,k'+(dJ a:Nat))=some (if b=eB b (k'+(dJ a:Nat)) then k'+(dJ a:Nat)+(dJ b:Nat) else -1):=ak ⟨by omega,by omega⟩
   have o:rC (c,k'+(dJ a:Nat)+(dJ b:Nat))=some (if c=eB c (k'+(dJ a:Nat)+(dJ b:Nat)) then k'+(dJ a:Nat)+(dJ b:Nat)+(dJ c:Nat) else -1):=ak ⟨by omega,by omega⟩
   simp only[eZ,j,bw];rw[Gy (by omega) r];by_cases f:a=eB a (k')
   case neg=>rw[aq f,aq (fun h=>f (show a=eB a (k')/\b=eB b (k'+(dJ a:Nat))/\c=eB c (k'+(dJ a:Nat)+(dJ b:Nat)) from by simpa only[lL,zaG] using h).1)]
   rw[ak f];rw[Gy (by omega) s];by_cases e:b=eB b (k'+(dJ a:Nat))
   case neg=>rw[aq e,aq (fun h=>e (show a=eB a (k')/\b=eB b (k'+(dJ a:Nat))/\c=eB c (k'+(dJ a:Nat)+(dJ b:Nat)) from by simpa only[lL,zaG] using h).2.1)]
   rw[ak e];rw[Gy (by omega) o];by_cases d:c=eB c (k'+(dJ a:Nat)+(dJ b:Nat))
   case neg=>rw[aq d,aq (fun h=>d (show a=eB a (k')/\b=eB b (k'+(dJ a:Nat))/\c=eB c (k'+(dJ a:Nat)+(dJ b:Nat)) from by simpa only[lL,zaG] using h).2.2)]
   rw[ak d];rw[ak (show(a,b,c)=lL (a,b,c) k' from by simp only[lL,zaG];exact⟨f,e,d⟩)]
   refine congrArg some (congrArg AN (zby rfl (zby ?_ rfl)));simp only[ng];omega
  ·intro k';simp only
   rw[bi (vn l)]
 ·cases h
theorem arV (x:Int×Int×Int×(List (U×U×U))×U) (k:Int):mB (LB x k)=mB x:=by obtain⟨a0,a1,a2,a3,a4⟩:=x;simp only[LB,mB,arW,aeU]
theorem ajd (x:(Int×Int×Int×(List (U×U×U))×U)×Int) (y:Int×(List (U×U×U))×U) (h:B6 x=some y):N5 aK x=some y:=by obtain⟨⟨a0,a1,a2,a,b⟩,k⟩:=x;simp only[B6] at h;split at h;rename_i c;obtain⟨hk,e⟩:=c;simp only[mB] at e;have agZ:=OW a;have ag0:=qB b;rw[<-h];have d:B7 (a,k)=some (k+(fP a:Nat),gV a (k)):=ak ⟨by omega,by omega⟩;have f:pJ (b,k+(fP a:Nat))=some (k+(fP a:Nat)+(dJ b:Nat),eB b (k+(fP a:Nat))):=ak ⟨by omega,by omega⟩;simp only[N5,de,bw,d,f,sL (show af (gV a (k))=af a from Ls a (k)),sL (show af (eB b (k+(fP a:Nat)))=af b from Lr b (k+(fP a:Nat))),aB];cases h
theorem ai8 (x:(Int×Int×Int×(List (U×U×U))×U)×Int) (y:Int) (h:vC x=some y):N0 aK x=some y:=by
 obtain⟨⟨a0,a1,a2,a,b⟩,k⟩:=x;simp only[vC] at h;split at h
 ·rename_i g;obtain⟨hk,f⟩:=g;simp only[mB] at f;have agZ:=OW a;have ag0:=qB b;rw[<-h];have e:B3 (a,k)=some (if a=gV a (k) then k+(fP a:Nat) else -1):=ak ⟨by omega,by omega⟩
  have i:rC (b,k+(fP a:Nat))=some (if b=eB b (k+(fP a:Nat)) then k+(fP a:Nat)+(dJ b:Nat) else -1):=ak ⟨by omega,by omega⟩
  simp only[N0];rw[Gy (by omega) e];by_cases d:a=gV a (k)
  case neg=>rw[aq d,aq (fun h=>d h.1)]
  rw[ak d];rw[Gy (by omega) i];by_cases c:b=eB b (k+(fP a:Nat))
  case neg=>rw[aq c,aq (fun h=>c h.2)]
  rw[ak c];rw[ak ⟨d,c⟩]
 ·cases h
theorem akb (x:Int×Int×Int×(List (U×U×U))×U) (k:Int) (h:0<=k/\k+4*(mB x:Nat)<=1099511627776):vC (LB x k,k)=some (match x with|(e,c,d,a,b)=>k+(fP a:Nat)+(dJ b:Nat)):=by
 obtain⟨e,c,d,a,b⟩:=x;have:=show vC ((e,c,d,gV a (k),eB b (k+(fP a:Nat))),k)=if 0<=k/\k+4*(mB (LB (e,c,d,a,b) k):Nat)<=1099511627776 then some (if gV a (k)=gV (gV a (k)) (k)/\eB b (k+(fP a:Nat))=eB (eB b (k+(fP a:Nat))) (k+(fP (gV a (k)):Nat)) then k+(fP (gV a (k)):Nat)+(dJ (eB b (k+(fP a:Nat))):Nat) else -1) else none from rfl
 refine this.trans ?_;rw[arV,ak h];simp only[anG,ahn,aaS,Ph,and_self,if_true]
theorem asj {l:List T3} {B:Nat} (h:∀t∈l,kC t<=B):(l.map kC).sum<=l.length*B:=by induction l with|nil=>simp|cons t l a=>have h1:=h t (by simp);have h2:=a fun u b=>h u (by simp[b]);rw[zat,zaT,zaj,OF,Pe];omega
theorem ajX {r:Rg} {q:Nat} {t:T3} (h:C9 r q t):kC t<=25000:=by obtain⟨L,D,A⟩:=t;obtain⟨⟨d,c,_,_⟩,b,_⟩:=h;obtain⟨hr,_,_,⟨_,a⟩,hA,_⟩:=E4 b;have hm:=IN a (jU hr).2.2;dsimp only at d c;show L.length+D.length+A.length<=25000;omega
theorem ar1 (r:Rg) (g:Int×List (Int×Int)) (q:Int) (x:U):mB (zn r g q x).1<=1048576:=by unfold zn;split;rename_i e;split;rename_i hl;obtain⟨hr,a,b,q1,q4⟩:=TZ e;obtain⟨_,d⟩:=TY (q:=q.toNat) (s:=eQ r (eW r) x) hr a (FY hr (rP hr) b) (by omega) (by omega);have hb:=asj fun t c=>ajX (d t c);have hm:=If 25000 hl;show(rq r g.1 g.2 q.toNat (eQ r (eW r) x)).length+((rq r g.1 g.2 q.toNat (eQ r (eW r) x)).map kC).sum+0<=1048576;omega;show 0+0+0<=1048576;omega;show 0+0+0<=1048576;omega
theorem ahY (r:Int×Int×Int) (g:Int×List (Int×Int)) (q:Int) (x:U) (h1:mT g<=1048576) (e:j8 x<=1048576):∃b a,zH (r,g,q,x)=some (b,a)/\xw (r,g,q,x)=some (b,a)/\mB b<=1048576:=by have hl:x.length<=9223372036854775806:=zbz (show x.length<=1048576 from e) (by decide);obtain⟨a,d,c⟩:=r;obtain⟨m,es⟩:=g;exact⟨(zn (a,d,c) (m,es) q x).1,(zn (a,d,c) (m,es) q x).2,ar0 hl,arZ hl,ar1 _ _ _ _⟩
def Je:(Int×Int×Int)×(Int×(List (Int×Int)))×(Int)×U->Option Bool:=fun((a0,a1,a2,a3):(Int×Int×Int)×(Int×(List (Int×Int)))×(Int)×U)=>if(Jc a1&&UI a3)=true then some true else none
def NT (NN:Nat):((Int×(Int×Int))×((Int×(List (Int×Int)))×(Int×U)))->(Option Bool):=
 (fun(((i0,i1,i2),(i3,l4),i5,l6):((Int×(Int×Int))×((Int×(List (Int×Int)))×(Int×U))))=>
 au (bF (1048576:Int) (aU (af l6)))
 (some true)
 ((B9 ((i3,l4),(1048576:Int))).ae (fun i7=>
 au (bF i7 (0:Int))
 (some true)
 ((zG (i0,i1,i2)).ae (fun(i8,i9,eF)=>
 (ug (i3,l4)).ae (fun(eK,fe)=>
 (uh l6).ae (fun dM=>
 (cM fe 0 (af fe)).ae (fun dX=>
 (cM dM 0 (af dM)).ae (fun gT=>
 (zH ((i8,i9,eF),(eK,dX),i5,gT)).ae (fun((eU,jt,iE,fC,kv),OL)=>
 (ug (i3,l4)).ae (fun(h9,nC)=>
 (uh l6).ae (fun d7=>
 (zG (i0,i1,i2)).ae (fun(qX,o7,sb)=>
 (cM nC 0 (af nC)).ae (fun ic=>
 (cM d7 0 (af d7)).ae (fun o8=>
 (xw ((qX,o7,sb),(h9,ic),i5,o8)).ae (fun((lG,pW,nv,p9,sq),Vw)=>
 (cM p9 0 (af p9)).ae (fun D3=>
 (cM sq 0 (af sq)).ae (fun oC=>
 (cM fC 0 (af fC)).ae (fun yD=>
 (cM kv 0 (af kv)).ae (fun sr=>
 (uf ((lG,pW,nv,D3,oC),eU,jt,iE,yD,sr)).ae (fun b40=>
 au (dh b40)
 (some false)
 (au (HY Vw OL)
 (some false)
 ((ug (i3,l4)).ae (fun(sd,tN)=>
 (cM nC 0 (af nC)).ae (fun kw=>
 (cM tN 0 (af tN)).ae (fun mO=>
 (xA ((h9,kw),sd,mO)).ae (fun b45=>
 au (dh b45)
 (some false)
 ((uh l6).ae (fun wP=>
 (cM d7 0 (af d7)).ae (fun yE=>
 (cM wP 0 (af wP)).ae (fun vk=>
 (pI (yE,vk)).ae (fun b49=>
 au (dh b49)
 (some false)
 (aB nC (
 (B5 ((h9,nC),(1:Int))).ae (fun(Hd,wQ)=>
 aB d7 (
 (pJ (d7,Hd)).ae (fun(Zy,yG)=>
 au (bF Zy (0:Int))
 (some false)
 ((cM p9 0 (af p9)).ae (fun D5=>
 (cM sq 0 (af sq)).ae (fun wS=>
 (cM fC 0 (af fC)).ae (fun HO=>
 (cM kv 0 (af kv)).ae (fun Si=>
 (uf ((lG,pW,nv,D5,wS),eU,jt,iE,HO,Si)).ae (fun b58=>
 au (dh b58)
 (some false)
 (au (HY Vw OL)
 (some false)
 (aB p9 (
 aB sq (
 (B6 ((lG,pW,nv,p9,sq),(1:Int))).ae (fun(DQ,HP,l61)=>
 (cM HP 0 (af p9)).ae (fun HQ=>
 (cM l61 0 (af sq)).ae (fun l63=>
 (vC ((lG,pW,nv,HQ,l63),(1:Int))).ae (fun i64=>
 au (bF i64 (0:Int))
 (some false)
 (au (ff i64 DQ)
 (some false)
 ((zG (i0,i1,i2)).ae (fun(ym,yn,He)=>
 (ug (i3,l4)).ae (fun(Hf,A8)=>
 (uh l6).ae (fun A9=>
 (cM A8 0 (af A8)).ae (fun su=>
 (cM A9 0 (af A9)).ae (fun yH=>
 (xw ((ym,yn,He),(Hf,su),i5,yH)).ae (fun((Hh,Hi,Hj,Lm,Ln),b78)=>
 (cM Lm 0 (af Lm)).ae (fun l79=>
 (cM Ln 0 (af Ln)).ae (fun yI=>
 (cM fC 0 (af fC)).ae (fun yJ=>
 (cM kv 0 (af kv)).ae (fun vl=>
 (uf ((Hh,Hi,Hj,l79,yI),eU,jt,iE,yJ,vl)).ae (fun b83=>
 au (dh b83)
 (some false)
 (au (HY b78 OL)
 (some false)
 ((cM HP 0 (af p9)).ae (fun vm=>
 (cM l61 0 (af sq)).ae (fun yK=>
 (vC ((lG,pW,nv,vm,yK),(1:Int))).ae (fun KV=>
 au (bF KV (0:Int))
 (some false)
 (au (ff KV DQ)
 (some false)
 (some true)))))))))))))))))))))))))))))))))))))))))))))))))))))))))))))))))))))))
theorem aiY (x:(Int×Int×Int)×(Int×(List (Int×Int)))×(Int)×U) (y:Bool) (h:Je x=some y):NT aK x=some y:=by obtain⟨⟨m,j,l⟩,⟨e,b⟩,C,d⟩:=x;simp only[Je,By] at h;split at h;rename_i A;rw[<-h];simp only[NT,aB];rw[nl];by_cases cl3:(d.length:Int)<=1048576;(case neg=>rw[bm eE]);rw[bi dY];have Zw:j8 d<=1048576:=(by show d.length<=_;omega);rw[aso (o:=B9 ((e,b),1048576)) (s:=mT (e,b)) (ak ⟨by constructor<;>omega,A.1⟩)];by_cases q:((mT (e,b):Nat):Int)<=1048576;(case neg=>rw[aq q]);rw[ak q];obtain⟨r,r1,v,t,z0⟩:=ahY (m,j,l) (e,b) C d (by omega) (by omega);obtain⟨f,g,i,a,c⟩:=r;have w:ug (e,b)=some (e,b):=asB _ (by omega);have B:xA ((e,b),(e,b))=some true:=ahR _ (by omega);have:=VJ b;have F:uh d=some d:=asC _ (by omega);have G:pI (d,d)=some true:=ahS _ (by omega);have:=qB d;have w0:uf ((f,g,i,a,c),(f,g,i,a,c))=some true:=ahT _ (by omega);have:=OW a;have:=qB c;simp only[mT,mB] at*;have m1:B5 ((e,b),(1:Int))=some ((1:Int)+(uD b:Nat),vo b ((1:Int))):=ak ⟨by omega,by(try simp only[mT,mB]);omega⟩;have z:pJ (d,(1:Int)+(uD b:Nat))=some ((1:Int)+(uD b:Nat)+(dJ d:Nat),eB d ((1:Int)+(uD b:Nat))):=ak ⟨by omega,by(try simp only[mT,mB]);omega⟩;have u:bF ((1:Int)+(uD b:Nat)+(dJ d:Nat)) 0=false:=dY;have D:B6 ((f,g,i,a,c),(1:Int))=some ((1:Int)+(fP a:Nat)+(dJ c:Nat),gV a ((1:Int)),eB c ((1:Int)+(fP a:Nat))):=ak ⟨by omega,by(try simp only[mT,mB]);omega⟩;have E:vC ((f,g,i,gV a ((1:Int)),eB c ((1:Int)+(fP a:Nat))),(1:Int))=some ((1:Int)+(fP a:Nat)+(dJ c:Nat)):=akb (f,g,i,a,c) ((1:Int)) ⟨by omega,by(try simp only[mT,mB]);omega⟩;have p:bF ((1:Int)+(fP a:Nat)+(dJ c:Nat)) 0=false:=dY;have k:cM (gV a ((1:Int))) 0 (af a)=some (gV a ((1:Int))):=afX (Ls a ((1:Int)));have n:cM (eB c ((1:Int)+(fP a:Nat))) 0 (af c)=some (eB c ((1:Int)+(fP a:Nat))):=afX (Lr c ((1:Int)+(fP a:Nat)));simp only[asz,bw,j9,mD,de,v,t,SN,FK,aoU,aoV,w,B,F,G,w0,m1,z,u,D,E,p,k,n];cases h
section
def I6 (P:Program) (r:TypeId->Option (List Ty)):Nat->List Field->Option (List Ty)
 |_,[]=>some []
 |off,f::fs=>match r f.type with
  |some ts=>if f.offset=off/\P.cellsOf f.type=ts.length then(I6 P r (off+ts.length) fs).map (ts++·) else none
  |none=>none
def E6 (P:Program):Nat->TypeId->Option (List Ty)
 |0,_=>none
 |n+1,t=>match P.underlying t with
  |some .bool=>some [.bool]
  |some (.int k)=>some [.int k]
  |some (.slice e)=>match E6 P n e with
   |some ts=>if 0<ts.length/\P.cellsOf e=ts.length then some [.list ts] else none
   |none=>none
  |some (.struct fs)=>match I6 P (E6 P n) 0 fs.toList with
   |some ts=>if P.cellsOf t=ts.length then some ts else none
   |none=>none
  |_=>none
mutual
def Ty.Wf:(t:Ty)->t.D->Prop
 |.int k,n=>LE.le (α:=Int) k.min n/\LE.le (α:=Int) n k.max
 |.bool,_=>True
 |.list ts,xs=>zbL (α:=Ty.DL ts) xs<=maxLen/\∀e:Ty.DL ts,List.Mem (α:=Ty.DL ts) e xs->Ty.m5 ts e
def Ty.m5:(ts:List Ty)->Ty.DL ts->Prop
 |[],_=>True
 |[t],x=>Ty.Wf t x
 |t::u::ts,x=>Ty.Wf t x.1/\Ty.m5 (u::ts) x.2
end
theorem V2 (t:Ty) (ts:List Ty) (x:t.D) (y:Ty.DL ts):Ty.m5 (t::ts) (vW t ts x y)↔t.Wf x/\Ty.m5 ts y:=by cases ts with|nil=>exact⟨fun h=>⟨h,trivial⟩,fun h=>h.1⟩|cons u us=>exact Iff.rfl
theorem ahv (t:Ty):∀(ts:List Ty) (x:Ty.DL (t::ts)),∃a b,x=vW t ts a b
 |[],x=>⟨x,(),rfl⟩
 |_::_,x=>⟨x.1,x.2,rfl⟩
theorem Vm:∀(ts us:List Ty) (x:Ty.DL ts) (y:Ty.DL us),Ty.m5 ts x->Ty.m5 us y->∃z:Ty.DL (ts++us),Ty.aA (ts++us) z=Ty.aA ts x++Ty.aA us y/\Ty.m5 (ts++us) z
 |[],us,x,y,_,h=>⟨y,rfl,h⟩
 |t::ts,us,x,y,c,d=>by obtain⟨a,b,rfl⟩:=ahv t ts x;rw[V2] at c;obtain⟨z,f,e⟩:=Vm ts us b y c.2 d;exact⟨vW t (ts++us) a z,by have c:Ty.aA (t::(ts++us)) (vW t (ts++us) a z)=t.er a::Ty.aA (ts++us) z:=JY _ _ _ _;have d:Ty.aA (t::ts) (vW t ts a b)=t.er a::Ty.aA ts b:=JY _ _ _ _;exact c.trans (by rw[d,f];rfl),(V2 _ _ _ _).2 ⟨c.1,e⟩⟩
theorem aaD {α β:Type} {f:α->Option β}:∀{l:List α} {r:List β},l.mapM f=some r->r.length=l.length/\∀(i:Nat) (x:α),l[i]? =some x->∃y,r[i]? =some y/\f x=some y:=by intro l;induction l with|nil=>intro r h;simp at h;subst h;exact⟨rfl,by simp⟩|cons a l d=>intro r h;rw[zbw] at h;cases hx:f a with|none=>simp[hx] at h|some y=>cases DI:l.mapM f with|none=>simp[hx,DI] at h|some ys=>simp[hx,DI] at h;subst h;obtain⟨e,c⟩:=d DI;refine⟨by simp[e],fun i x b=>?_⟩;cases i with|zero=>simp at b;subst b;exact⟨y,rfl,hx⟩|succ i=>exact c i x (by simpa using b)
theorem ag9 {w:World} {a:Addr} {n:Nat} {cs:List Value} (h:w.cells? 0 a n=some cs):cs.length=n/\∀(j:Nat) (c:Value),cs[j]? =some c->w.cell? (a.add j)=some c:=by
 unfold World.cells? at h;rw[ak (zbb _)] at h;obtain⟨d,g⟩:=aaD h;simp only[zaQ] at d;refine⟨d,fun j c e=>?_⟩;have i:j<n:=by rw[<-d];exact(List.getElem?_eq_some_iff.1 e).1
 obtain⟨y,b,f⟩:=g j j (zaI i);rw[e] at b;injection b with b;subst b;exact f
theorem ag8 {w:World} {a:Addr} {v:Value} (h:w.cell? a=some v):a=ad a.block a.off:=by unfold World.cell? at h;split at h;split at h;cases h;rename_i c;obtain⟨b,o,s⟩:=a;(cases s with|none=>rfl|some q=>simp at c);cases h
theorem Vg (a:Addr):a.add 0=a:=by unfold Addr.add;simp
section
variable {H:Type} {enc:TypeId×Value->H} {P:Program} {w:World} {sp:Nat->Bool} {held:Bool}
def s9 (P:Program) (w:World) (ts:List Ty) (cs:List Value):Prop:=
 ∃(x:Ty.DL ts) (bV:List PC),bV.map PC.er=Ty.aA ts x/\bV.map PC.val=cs/\(∀pc∈bV,Good w pc)/\Ty.m5 ts x
theorem s9.one {t:Ty} {x:t.D} {pc:PC} {c:Value} (e:pc.er=t.er x) (b:pc.val=c) (a:Good w pc) (d:t.Wf x):s9 P w [t] [c]:= ⟨x,[pc],by simp only[zat,zbj,e];rfl,by simp[b],by simpa using a,d⟩
theorem acU {r:TypeId->Option (List Ty)} {q:TypeId->List Value->Option (DataW H×List MemPlace)} (hr:∀t ts cs y,r t=some ts->q t cs=some y->s9 P w ts cs) (cs:List Value): ∀(b:List Field) (off:Nat) (ts:List Ty) (ys:List (DataW H×List MemPlace)),I6 P r off b=some ts->b.mapM (fun f=>q f.type ((cs.drop f.offset).take (P.cellsOf f.type)))=some ys->s9 P w ts ((cs.drop off).take ts.length)
 |[],off,ts,ys,a,h2=>by simp only[I6] at a;injection a with a;subst a;exact⟨(),[],rfl,by simp,by simp,trivial⟩
 |f::b,off,ts,ys,a,h2=>by simp only[I6] at a;split at a;rename_i d l;split at a;rename_i j;obtain⟨s,C⟩:=j;rw[za4] at a;obtain⟨c,x,rfl⟩:=a;rw[zbw] at h2;(cases hq:q f.type ((cs.drop f.offset).take (P.cellsOf f.type)) with|none=>simp[hq] at h2|some y=>cases Zb:b.mapM (fun f=>q f.type ((cs.drop f.offset).take (P.cellsOf f.type))) with|none=>simp[hq,Zb] at h2|some e=>obtain⟨u,p1,g,E,n,B⟩:=hr _ _ _ _ l hq;obtain⟨k,p,h,o,v,m⟩:=acU hr cs b (off+d.length) c e x Zb;obtain⟨z,i,A⟩:=Vm d c u k B m;refine⟨z,p1++p,by rw[zaq,g,h,i],?_,fun pc D=>(zak.1 D).elim (n pc) (v pc),A⟩;rw[zaq,E,o,s,C,AT,List.take_add,zba]);cases a;cases a
theorem arR {r:Nat} {t e:TypeId} {us:List Ty} {cs:List Value} {y:DataW H×List MemPlace} (W:∀cs y,DataW.trod enc P w 0 sp held r e cs=some y->s9 P w us cs) (m:0<us.length) (M:P.cellsOf e=us.length) (T:P.underlying t=some (.slice e)) (h:DataW.trod enc P w 0 sp held (r+1) t cs=some y):s9 P w [.list us] cs:=by rw[DataW.trod_step] at h;unfold DataW.trodStep at h;simp only[T] at h;(split at h<;>first|(cases h;done)|(rename_i f;cases f;done)|skip);exact s9.one (t:=.list us) (x:=([]:List (Ty.DL us))) (pc:=.list us.length none 0 []) (by rw[PC.dW];rfl) rfl (.nil _ _ _ m) ⟨zbb _,fun e d=>by cases d⟩;rename_i e' a len cap f;injection f with f;injection f with f;subst f;split at h;rename_i G;obtain⟨_,hlc,lr⟩:=G;rw[zaW] at h;obtain⟨elems,d,_⟩:=h;obtain⟨N,R⟩:=aaD d;simp only[zaQ] at N;have each:∀i:Fin len,∃(x:Ty.DL us) (g:List PC),g.map PC.er=Ty.aA us x/\(∀pc∈g,Good w pc)/\Ty.m5 us x/\∀j pc,g[j]? =some pc->w.cell? ((a.add (i.1*us.length)).add j)=some pc.val:=(by intro i;obtain⟨O,_,u⟩:=R i.1 i.1 (zaI i.2);rw[zaW] at u;obtain⟨z,q,I⟩:=u;rw[M] at q;obtain⟨c1,V⟩:=ag9 q;obtain⟨x,g,A,X,L,U⟩:=W z O I;refine⟨x,g,A,L,U,fun j pc l=>V j pc.val ?_⟩;rw[<-X,IT,l];rfl);let xs:List (Ty.DL us):=List.ofFn fun i:Fin len=>za1 (each i);let px:List (List PC):=List.ofFn fun i:Fin len=>za1 (zas (each i));have o:∀k e,px[k]? =some e->∃i:Fin len,i.1=k/\e=za1 (zas (each i)):=(by intro k e b;rw[zbc] at b;split at b;rename_i Q;injection b with b;exact⟨⟨k,Q⟩,rfl,b.symm⟩;cases b);have spec:=fun i:Fin len=>zas (zas (each i));have C:px.length=len:=(by simp[px]);have ati:xs.length=len:=(by simp[xs]);have D:px.map (fun e=>e.map PC.er)=List.map (Ty.aA us) xs:=(by apply zaA;intro k;simp only[IT,px,xs,zbc];by_cases b:k<len;simp only[b,dif_pos,Option.map_some];rw[(spec ⟨k,b⟩).1];simp only[b,dif_neg,not_false_eq_true,Option.map_none]);have J:∀x∈xs,Ty.m5 us x:=(by intro x hx;obtain⟨i,E⟩:=List.mem_ofFn.1 hx;subst E;exact(spec i).2.2.1);have v:∀e∈px,e.length=us.length:=(by intro e d;obtain⟨k,b⟩:=List.getElem?_of_mem d;obtain⟨i,_,rfl⟩:=o k e b;have:=congrArg zbL (spec i).1;rwa[AI,Ty.pP] at this);have S:∀k j c,At px k j c->Good w c:=(by rintro k j c ⟨e,d,l⟩;obtain⟨i,_,rfl⟩:=o k e d;exact(spec i).2.1 c (Pd l));have p:∀k j c,At px k j c->w.cell? ((a.add (k*us.length)).add j)=some c.val:=(by rintro k j c ⟨e,d,l⟩;obtain⟨i,rfl,rfl⟩:=o k e d;exact(spec i).2.2.2 j c l);refine s9.one (t:=.list us) (x:=xs) (pc:=.list us.length (some a) cap px) (by rw[PC.dW,D];rfl) (by simp[PC.val,C]) ?_ ⟨by show xs.length<=maxLen;omega,fun x hx=>J x hx⟩;by_cases n:px=[];rw[n];exact .nil _ _ _ m;obtain⟨B,F⟩:=Vu n m v;have s:=p 0 0 B F;rw[Nat.zero_mul,Vg,Vg] at s;have K:=ag8 s;rw[K] at p⊢;refine .cons _ _ _ _ _ n (by omega) m v (fun k j c b=>?_) S;have:=p k j c b;rwa[qy,qy] at this;cases h
theorem Uu:∀(f:Nat) (t:TypeId) (cs:List Value) (y:DataW H×List MemPlace) (n:Nat) (ts:List Ty),DataW.trod enc P w 0 sp held f t cs=some y->E6 P n t=some ts->s9 P w ts cs
 |0,t,cs,y,n,ts,h,a=>by simp[DataW.trod] at h
 |f+1,t,cs,y,0,ts,h,a=>by simp[E6] at a
 |f+1,t,cs,y,n+1,ts,h,a=>by simp only[E6] at a;cases hu:P.underlying t with|none=>rw[hu] at a;cases a|some d=>rw[hu] at a;(cases d<;>simp only at a<;>first|(cases a;done)|skip);(case bool=>injection a with a;subst a;rw[DataW.trod_step] at h;unfold DataW.trodStep at h;simp only[hu] at h;(split at h<;>first|(cases h;done)|(rename_i c;cases c;done)|skip);rename_i b c;exact s9.one (t:=.bool) (x:=b) (pc:=.bool b) rfl rfl (.bool b) trivial);(case int k=>injection a with a;subst a;rw[DataW.trod_step] at h;unfold DataW.trodStep at h;simp only[hu] at h;(split at h<;>first|(cases h;done)|(rename_i c;cases c;done)|skip);rename_i k1 p j c;injection c with c;injection c with c;subst c;split at h;rename_i i;obtain⟨rfl,i⟩:=i;simp only[Lit.wf,By,decide_eq_true_eq] at i;exact s9.one (t:=.int p) (x:=j) (pc:=.int p j) rfl rfl (.int p j) i;cases h);(case slice e=>split at a;rename_i us o;split at a;rename_i l;obtain⟨l,m⟩:=l;injection a with a;subst a;exact arR (fun cs y hy=>Uu f e cs y n us hy o) l m hu h;cases a;cases a);case struct fs=>rw[DataW.trod_step] at h;unfold DataW.trodStep at h;simp only[hu] at h;(split at h<;>first|(cases h;done)|(rename_i c;cases c;done)|skip);rename_i g;split at a;rename_i us o;split at a;rename_i m;injection a with a;subst a;rw[za4] at h;obtain⟨ys,s,h2⟩:=h;have:=acU (P:=P) (w:=w) (fun t ts cs y q r=>Uu f t cs y n ts r q) cs fs.toList 0 us ys o s;rwa[zbt,<-m,<-g,zaF] at this;cases a;cases a
end
end
section
open Go.ChangeShapes Go.WideShapes Go.ChangeAt Go.RowKit
def Ct:(as:aH)->aZ as.aY->Prop
 |[],_=>True
 |[a],x=>Ty.m5 a.2 x
 |a::b::as,x=>Ty.m5 a.2 x.1/\Ct (b::as) x.2
theorem ahu (a:K×List Ty) (as:aH) (x:Ty.DL a.2) (y:aZ (aH.aY as)):Ty.m5 a.2 x->Ct as y->Ct (a::as) (FQ a.2 (aH.aY as) x y):=by intro c d;cases as with|nil=>exact c|cons b as=>exact⟨c,d⟩
def Pc (P:Program) (t:TypeId) (a:K×List Ty):Bool:=
 match E6 P 30 t with
 |some ts=>Ty.oN ts a.2&&(match P.underlying t,a.1 with
  |some (.struct _),.agg=>true
  |some (.int _),.one=>true
  |some .bool,.one=>true
  |some (.slice _),.one=>true
  |_,_=>false)
 |none=>false
def CM (P:Program):List TypeId->aH->Bool
 |[],[]=>true
 |t::ts,a::as=>Pc P t a&&CM P ts as
 |_,_=>false
section
variable {H:Type} {enc:TypeId×Value->H} {P:Program} {w w':World} {sp:Nat->Bool} {held:Bool}
theorem agD {t:TypeId} {a:K×List Ty} {v:Value} {d:DataW H} {ps:List MemPlace} (g:Pc P t a=true) (c:Value.okWide P w .any 0 t v) (hd:DataW.Trod enc P w 0 sp held t v d ps): ∃x:Ty.DL a.2,BN w (a.1,Ty.aA a.2 x) v/\Ty.m5 a.2 x:=by obtain⟨o,hd⟩:=hd;unfold Pc at g;split at g;rename_i ts q;simp only[By] at g;obtain⟨h,n⟩:=g;have h:=Ty.m8 h;subst h;obtain⟨x,l,j,m,i,p⟩:=Uu o t v.cells.toList _ 30 a.2 hd q;refine⟨x,?_,p⟩;unfold Value.okWide at c;have one:(∀cs,v≠ .agg cs)->a.1=.one->BN w (a.1,Ty.aA a.2 x) v:=(by intro hn f;have r:v.cells.toList=[v]:=(by cases v<;>first|rfl|(rename_i cs;exact absurd rfl (hn cs)));rw[f];exact⟨l,j,i,by rw[m,r]⟩);split at n;rename_i fs b f;rw[b] at c;obtain⟨cs,rfl,_,_⟩:=c;rw[f];exact⟨l,j,i,by rw[m];rfl⟩;rename_i k b f;refine one (fun cs e=>?_) f;subst e;rw[b] at c;simp[Cell.okWide,b,Cell.ok] at c;rename_i b f;refine one (fun cs e=>?_) f;subst e;rw[b] at c;simp[Cell.okWide,b,Cell.ok] at c;rename_i e b f;refine one (fun cs e=>?_) f;subst e;rw[b] at c;simp[Cell.okWide,b,Cell.ok] at c;cases n;cases g
theorem Vq:∀{ts:List TypeId} {as:aH} {vs:List Value} {ds:List (DataW H)} {ps:List MemPlace},CM P ts as=true->(∀(j:Nat) (t:TypeId) (v:Value),ts[j]? =some t->vs[j]? =some v->Value.okWide P w .any 0 t v)-> DataW.TrodAll enc P w 0 sp held ts vs ds ps->∃x:aZ (aH.aY as),Fg w (dV as x) vs/\Ct as x
 |[],[],vs,ds,ps,hc,hv,h=>by obtain⟨rfl,rfl,rfl⟩:=trodAll_nil h;exact⟨(),⟨rfl,by intro j d v b;simp[dV] at b⟩,trivial⟩
 |t::ts,a::as,vs,ds,ps,hc,hv,h=>by simp only[CM,By] at hc;obtain⟨v,vs1,d,ds1,p,q,rfl,rfl,rfl,k,n⟩:=trodAll_cons h;obtain⟨x,f,m⟩:=agD hc.1 (hv 0 t v rfl rfl) k;obtain⟨y,e,l⟩:=Vq hc.2 (fun j t v g i=>hv (j+1) t v (by simpa using g) (by simpa using i)) n;refine⟨FQ a.2 (aH.aY as) x y,?_,ahu a as x y m l⟩;rw[PI];refine⟨by simp[e.1],fun j d v b c=>?_⟩;cases j with|zero=>simp at b c;subst b;subst c;exact f|succ j=>exact e.2 j d v (by simpa using b) (by simpa using c)
 |[],_::_,vs,ds,ps,hc,hv,h=>by simp[CM] at hc
 |_::_,[],vs,ds,ps,hc,hv,h=>by simp[CM] at hc
theorem afB (a:∀b,b<w.heap.size->w'.heap[b]? =w.heap[b]?):∀{ts:List TypeId} {vs:List Value} {ds:List (DataW H)} {ps:List MemPlace},DataW.TrodAll enc P w 0 sp held ts vs ds ps->DataW.TrodAll enc P w' 0 sp held ts vs ds ps
 |[],[],[],_,h=>h
 |t::ts,v::vs,d::ds,_,⟨p,q,⟨n,h1⟩,h2,e⟩=>by refine⟨p,q,⟨n,DataW.trod_carry n t _ _ h1 fun c i=>?_⟩,afB a h2,e⟩;have f:=DataW.trod_lt n t _ _ h1 c i;cases c with|cell b o=>have g:=a b f;simp only[World.sameAt,World.cell?,g]|map b=>exact a b f
 |[],[],_::_,_,h=>h.elim
 |[],_::_,_,_,h=>h.elim
 |_::_,[],_,_,h=>h.elim
 |_::_,_::_,[],_,h=>h.elim
theorem am4 (f:w'.os=w.os) (e:w'.output=w.output) (d:∀b,b<w.heap.size->w'.heap[b]? =w.heap[b]?) (a:MemPlace->Prop):w.keptBut w' a:=by have zT:=World.keptBut_refl w a;refine⟨f,e,fun i c=>?_⟩;rw[d i c];exact zT.2.2 i c
theorem aqm {f:Func} {s:ChangeSpec} {c u x D:Bool} {W h:World} {args:Array Value} {v:Value} {ds i:List (DataW H)} {e pa pv:List MemPlace} (l:DataW.Whole enc P f.params.toList s.vars c W args.toList ds i e) (m:∀(b:Nat) (sp:Nat->Bool) (hd:Bool),DataW.TrodAll enc P h b sp hd f.resultTypes.toList (v.resultList f.resultTypes.size) (s.fn H (ds++i)).results []) (o:∀sp:Nat->Bool,(∀p∈e,sp p.block=true)->DataW.TrodAll enc P h 0 sp true f.params.toList args.toList (s.fn H (ds++i)).args pa) (n:∀sp:Nat->Bool,(∀p∈e,sp p.block=true)->DataW.TrodVars enc P h sp s.vars (s.fn H (ds++i)).vars pv) (k:e=pa++pv) (z:W.keptBut h (·∈e)) (y:∀a:Addr,a.block<W.heap.size->h.frozen? a=W.frozen? a) (w:∀(j:Nat) (t:TypeId) (r:Value),f.resultTypes[j]? =some t->(v.resultList f.resultTypes.size)[j]? =some r->Value.okWide P h .any 0 t r): s.post enc P f c u x D W args v h:=by have g:∀p∈e,(fun b=>decide (b<W.heap.size)) p.block=true:=fun p d=>(by simpa using l.lt p d);have B:=l.lt;refine⟨ds,i,e,[],pa,pv,l,m _ _ _,o _ g,n _ g,World.keptBut_mono (fun p d=>⟨d,?_⟩) z,fun _=>?_⟩;rw[k,zak] at d;exact Or.inr d;obtain⟨_,_,_,_,_,C,hn⟩:=l;refine⟨w,_,_,([]++pa)++pv,⟨[]++pa,pv,trodAll_append (o _ (fun _ _=>rfl)) (m _ _ _),n _ (fun _ _=>rfl),rfl,?_,?_⟩,?_⟩;intro b off d;have q:MemPlace.cell b off∈e:=(by rw[k];simpa using d);rw[y ⟨b,off,none⟩ (B _ q)];exact C b off q;intro A;have:=hn A;rw[k] at this;simpa using this;intro p d _;rw[k];simpa using d
theorem aqS {c:List (K×List PC)} {b:Bool} (h:c.map (fun p=>(p.1,p.2.map PC.er))=[(K.one,[C.bool b])]):vw c=.bool b:=by
 match c,h with
 |[],h=>simp at h
 |_::_::_,h=>simp at h
 |[(k,bV)],h=>
  simp only[zat,zbj,zbr,zaG,and_true] at h;obtain⟨rfl,h⟩:=h;match bV,h with
  |[],h=>simp at h
  |_::_::_,h=>simp at h
  |[pc],h=>
   simp only[zat,zbj,zbr,and_true] at h;cases pc with
   |bool b=>simp[PC.er] at h;subst h;rfl
   |int k n=>simp[PC.er] at h
   |list sz a cap xs=>rw[PC.dW] at h;cases h
theorem afC:∀{ts:List TypeId} {vs:List Value} {ds:List (DataW H)} {ps:List MemPlace},DataW.TrodAll enc P w 0 sp held ts vs ds ps->ds.length=ts.length
 |[],vs,ds,ps,h=>by obtain⟨rfl,rfl,rfl⟩:=trodAll_nil h;rfl
 |t::ts,vs,ds,ps,h=>by obtain⟨v,vs1,d,ds1,p,q,rfl,rfl,rfl,h1,a⟩:=trodAll_cons h;simp[afC a]
def Yg (P:Program):Bool:=(zaO P.types.size).all fun t=>match P.underlying t with|some (.slice e)=>decide (0<P.cellsOf e)|_=>true
theorem anm {f:FuncId} {fn:Func} {s:ChangeSpec} {sg:aH} {M:List Dv->Option (List Dv)} {tb:TypeId} (hl:laidOutB P=true) (r:mapsRowed P=true) (V:Yg P=true) (U:∀t∈fn.params.toList,t<P.types.size) (S:CM P fn.params.toList sg=true) (hr:fn.resultTypes=#[tb]) (g:P.underlying tb=some .bool) (w:s.vars=[]) (m:∀ds:List (DataW H),ds.length=fn.params.toList.length->(s.fn H ds).results=[.lit (.bool true)]/\(s.fn H ds).args=ds/\(s.fn H ds).vars=[]) (o:dd P f M) (Q:∀x:aZ (aH.aY sg),Ct sg x->M (dV sg x)=some [(.one,[.bool true])]) {c C L Z:Bool} {W:World} {zT:Nat} {args:Array Value} {ds X:List (DataW H)} {B:List MemPlace} (D:∀(j:Nat) t v,fn.params[j]? =some t->args[j]? =some v->Value.okWide P W .any zT t v) (z:DataW.Whole enc P fn.params.toList s.vars c W args.toList ds X B): Calls P f args W fun e h=>∃v,e=.returned v/\s.post enc P fn c C L Z W args v h:=by have n:=z;obtain⟨p,q,l,y,rfl,KB,gI⟩:=z;rw[w] at y;obtain⟨rfl,rfl⟩:=trodVars_none y;obtain⟨x,hx,G⟩:=Vq S (fun j t v I Y=>Value.okWide_any_base<|D j t v (by rw[<-za7];exact I) (by rw[<-za7];exact Y)) l;have u:=o _ _ (Q x G) W args.toList hx;have J:args.toList.toArray=args:=(by cases args;rfl);rw[J] at u;refine u.mono fun e h ⟨bt,p1,K,p3,p4,i⟩=>?_;have E:=aqS p1;have k:∀b,b<W.heap.size->h.heap[b]? =W.heap[b]? :=fun b g=>i.block b g id;have d:=afC l;obtain⟨R,A,O⟩:=m ds d;refine⟨_,K,?_⟩;rw[E];refine aqm (pa:=p) (pv:=[]) n (fun _ _ _=>?_) (fun sp m=>?_) (fun _ _=>?_) (by simp) (am4 i.os i.output k _) (fun a T=>?_) ?_;rw[zal,R,hr];exact trodAll_cons_mk (shut_bool g _) trodAll_mk0;rw[zal,A];exact DataW.TrodAll.respare (kids_rows hl r) (slices_full_of P V) U (afB k l) (fun N F=>m N (by simpa using F));rw[zal,w,O];rfl;simp only[World.frozen?,k a.block T];rw[hr];rw[<-hr];exact ok_one hr rfl (okWide_bool_mk g _)
end
theorem as5 {P:Program} {bg:aH} {b:K×List Ty} {args:aH} (hb:bg=b::args) {T:List aw} (e:aF P T) (hm:P.follows .mixedOrders=true) {f:FuncId} {a:bB} {ms:List bE} {mu:bP} {aC:aH} (c:cI P f a.er ms (b::args).length=true) (F:aZ (aH.aY (iA::iA::b::args))->Option (aZ aC.aY)) (d:∀x y,F x=some y->Ix aK T a ms mu.kH (b::args) aC x.1 x.2.1 x.2.2=some y):zO P f mu.kH (aw.MX ⟨f,iA::iA::b::args,mu,aC,F⟩)/\bL P f=true:= as4 e hm c F d
end
theorem asV (l:List Int) (h:Ty.m5 [.list [.int .i64]] l):UI l=true:=by have a:l.length<=maxLen:=h.1;exact decide_eq_true (by unfold maxLen at a;omega)
theorem asT (l:List (Int×Int)) (h:Ty.m5 [.list [.int .i64,.int .i64]] l):Nt l=true:=by have a:l.length<=maxLen:=h.1;exact decide_eq_true (by unfold maxLen at a;omega)
theorem asU (x:Int×(List (Int×Int))) (h:Ty.m5 [.int .i64,.list [.int .i64,.int .i64]] x):Jc x=true:=by obtain⟨a0,a⟩:=x;show(Nt a)=true;rw[asT a h.2]
end Go.Am
