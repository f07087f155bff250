/- M36, M18, M38, M48, M49, M50, M51, M52, M12, M20, M21, M53, M56, M65, M66, M94, M95, M96, M97, M98, M67, M26, M27, M28, M68, M99, M100, M101, M102, M103, M104, M105, M118, M35, M39, M119, M120, M110, M111, M112, M113, M114, M115, M116, M117, M121, M122: parts of the proof. No condition. -/
import Derived.Test.YtfhgbfllljehhaaM64
import Derived.Lib.BitFns
set_option linter.unusedVariables false
set_option linter.unusedSimpArgs false
set_option linter.unusedSectionVars false
open List renaming getD_eq_getElem?_getD->co,getElem?_eq_getElem->so,length_map->AI,length_append->AT,mem_range->By,mem_of_getElem?->BY,mem_map->If,length_take->IN,getElem?_eq_none->Pd,range->zaa,getElem?_append_right->zac,getElem?_map->zad,getElem?_append_left->zaf,length_cons->zah,mem_singleton->zai,append_nil->zaj,take_length->zak,length_singleton->zal,append_assoc->zam,replicate->zan,mem_append->zao,mem_filter->zap,map_congr_left->zar,nodup_append->zas,eq_nil_of_length_eq_zero->zav,dropLast_concat_getLast->zaw,length_nil->zay,length_drop->zaz,all_eq_true->zaA,length_filter_le->zaC,getElem?_eq_some_iff->zaD,map_append->zaE,ext_getElem?->zaF,filter_cons_of_pos->zaH,filter_cons_of_neg->zaI,drop_append_of_le_length->zaJ,nodup_range->zaK,mem_flatMap->zaL,take_of_length_le->zaM,length_set->zaO,map_cons->zaP,take_add_one->zaQ,perm_ext_iff_of_nodup->zaR,range_succ->zaV,getElem?_replicate->zaW,nil_append->zaX,drop_eq_nil_of_le->zaY,take_append_drop->za2,pairwise_flatMap->za3,length_replicate->za5,getElem_mem->za6,cons_append->za7,take_append_of_le_length->za8,mem_append_left->za9,mem_iff_getElem->zba,getElem?_range->zbd,mem_map_of_mem->zbg,drop_eq_getElem_cons->zbl,mem_of_mem_eraseIdx->zbn,countP_congr->zbo,length_range->zbp,getElem?_set->zbq,getElem?_cons_succ->zbu,length_pos_of_mem->zbv,set_append_right->zbw,nodup_cons->zby,getElem?_of_mem->zbA,findIdx_getElem->zbB,mem_of_mem_drop->zbC,range_add->zbF,drop_drop->zbG,take_zero->zbH,sum_cons->zbI,pairwise_map->zbM,findIdx_cons->zbN,drop_zero->zbZ,nodup_nil->zb0,mem_cons->zb3,map_map->zb6,cons->zce,filter->zcj,Nodup->zck
open Int renaming toNat_natCast->wt,natCast_mul->zat,emod_eq_of_lt->zaZ,mul_le_mul_of_nonneg_right->za4,mul_add->zbc,emod_lt_of_pos->zbh,add_comm->zbi,zero_mul->zbj,lt_of_mul_lt_mul_left->zbm,zero_emod->zbs,dvd_of_emod_eq_zero->zbt,add_emod->zbx,natCast_nonneg->zbK,add_zero->zbQ,mul_zero->zbR,mul_comm->zbT,emod_nonneg->zbV,mul_nonneg->zb1,emod_emod->zb5,mul_emod->zcc
open Sum renaming inl->AN,inr->IT
open Bool renaming and_eq_true->GB,and_false->zb2
open Nat renaming mul_le_mul->IS,mul_le_mul_right->Pe,add_mul->zab,le_refl->zae,one_mul->zag,add_sub_cancel_left->zaq,zero_add->zau,le_trans->zax,mul_comm->zaB,sub_self->zaN,div_eq_of_lt->zaS,mod_eq_of_lt->zaT,mul_assoc->zaU,zero_le->za0,mod_lt->zbb,min_eq_left->zbe,testBit_two_pow_mul_add->zbf,add_zero->zbk,mul_one->zbr,two_pow_pos->zbz,add_le_add_right->zbD,add_sub_cancel->zbJ,add_comm->zbP,le_of_lt->zbS,pow_succ->zbU,mul_add_div->zbW,mul_add_mod->zbX,div_add_mod->zbY,add_assoc->zb4,and_zero->zb7,zero_and->zb8,zero_mul->zb9,mul_zero->zca,and_comm->zcb,sub_zero->zcd,div_one->zcf,or_comm->zcg,or_zero->zch
open Option renaming bind->OF,toList_some->zbL
open List.Pairwise renaming imp_of_mem->zaG,imp->zcl,nil->zcm,map->zcn
open BitVec renaming ofInt->za1
open List.Perm renaming refl->zbE
open Function renaming comp_def->zbO
open Ne renaming symm->zci
namespace Go.Am
theorem Fk {X Y:Type} {f:X->Option (X⊕Y)} (n:Nat) (I:Nat->X->Prop) (Q:Y->Prop) (j:∀i x,i<n->I i x->∃x',f x=some (.inl x')/\I (i+1) x') (d:∀x,I n x->∃r,f x=some (.inr r)/\Q r) {b:X} (g:I 0 b) {N:Nat} (a:n<N):∃r,cL N f b=some r/\Q r:=by have m:∀(k i:Nat) (x:X),i+k=n->I i x->∀N,k<N->∃r,cL N f x=some r/\Q r:=(by intro k;induction k with|zero=>intro i x hi hx N a;obtain⟨N,rfl⟩:∃M,N=M+1:=⟨N - 1,by omega⟩;have:i=n:=(by omega);subst this;obtain⟨r,e,q⟩:=d x hx;exact⟨r,by simp only[cL,e],q⟩|succ k l=>intro i x hi hx N a;obtain⟨N,rfl⟩:∃M,N=M+1:=⟨N - 1,by omega⟩;obtain⟨x',e,h⟩:=j i x (by omega) hx;obtain⟨r,c,q⟩:=l (i+1) x' (by omega) h N (by omega);exact⟨r,by simp only[cL,e];exact c,q⟩);exact m n 0 b (by omega) g N a
abbrev Cu:Type:=U×Int×Int
def ou (c:Cu):Prop:=0<=c.2.1/\c.1.length<=1048576
theorem acd (a:Int):0<=pG .i64 a 255/\pG .i64 a 255<=255:=by have e:pG .i64 a 255=IntKind.wrap .i64 (((za1 64 a&&&za1 64 255).toNat:Nat):Int):=rfl;have h:(za1 64 a&&&za1 64 255).toNat<=255:=(by rw[BitVec.toNat_and];exact zax Nat.and_le_right (by decide));rw[e];generalize (za1 64 a&&&za1 64 255).toNat=m at h;rw[S1 _ (by omega) (by omega)];omega
theorem arp {α:Type}:bh 0 0 (ae ([]:List α))=some ():=rfl
theorem Wu {α:Type} (l:List α) (x:α):bh 0 (aw (ae l) (ae [x])) (ae (d6 l [x]))=some ():=by rw[show ae (d6 l [x])=aw (ae l) (ae [x]) by simp[aw,ae,d6]];exact bR _
def Uo (NN:Nat):U->(Option (U×(Int×Int))):=
 (fun l0=>
 cN (cL NN (fun(l1,i2,i3)=>
 aD (cI i3 (aM (ae l1)))
 (aD (cI i3 (4000:Int))
 ((cV l1 i3).ab (fun i4=>
 some (AN (l1,pG .i64 (bC .i64 (bC .i64 (gY .i64 i2 131) (Vs .i64 i4)) (7:Int)) (1073741823:Int),bC .i64 i3 1))))
 (some (IT (AN (l1,i2)))))
 (some (IT (AN (l1,i2)))))
 (l0,bC .i64 (55127:Int) (aM (ae l0)),(0:Int)))
 (fun(l5,i6)=>
 some (l5,(0:Int),i6)))
def JT:=Uo aP
def Uw (NN:Nat):(U×Int)->(Option (U×(Int×Int))):=
 (fun(l0,i1)=>
 (JT l0).ab (fun(l2,i3,i4)=>
 some (l2,iw i1 (aM (ae l0)),pG .i64 (bC .i64 (bC .i64 (gY .i64 i4 31) (gY .i64 i1 7919)) (1:Int)) (1073741823:Int))))
def BJ:=Uw aP
def Un (NN:Nat):(U×(Int×Int))->(Option (Int×(U×(Int×Int)))):=
 (fun(l0,i1,i2)=>
 (Be .i64 (bC .i64 (gY .i64 i2 6364136223846793005) (1442695040888963407:Int)) (33:Int)).ab (fun i3=>
 (Be .i64 (bC .i64 (gY .i64 i2 6364136223846793005) (1442695040888963407:Int)) (45:Int)).ab (fun i4=>
 cN (aD (cI i1 (aM (ae l0)))
 ((cV l0 i1).ab (fun i5=>
 some (AN (pG .i64 (bC .i64 (pG .i64 (abD .i64 i3 i4) (255:Int)) (Vs .i64 i5)) (255:Int),l0,bC .i64 i1 1,bC .i64 (gY .i64 i2 6364136223846793005) (1442695040888963407:Int)))))
 (some (AN (pG .i64 (abD .i64 i3 i4) (255:Int),l0,i1,bC .i64 (gY .i64 i2 6364136223846793005) (1442695040888963407:Int)))))
 (fun(i6,l7,i8,i9)=>
 some (i6,l7,i8,i9)))))
def DN:=Un aP
def Um (NN:Nat):((U×(Int×Int))×Int)->(Option (Int×(U×(Int×Int)))):=
 (fun((l0,i1,i2),i3)=>
 aD (ic i3 (0:Int))
 (some ((0:Int),l0,i1,i2))
 ((DN (l0,i1,i2)).ab (fun(i4,l5,i6,i7)=>
 (nj i4 i3).ab (fun i8=>
 some (i8,l5,i6,i7)))))
def sV:=Um aP
def Up (NN:Nat):((U×(Int×Int))×Int)->(Option (Bool×(U×(Int×Int)))):=
 (fun((l0,i1,i2),i3)=>
 (sV ((l0,i1,i2),i3)).ab (fun(i4,l5,i6,i7)=>
 some (bq i4 (0:Int),l5,i6,i7)))
def JU:=Up aP
def Uq (NN:Nat):((U×(Int×Int))×U)->(Option (Int×(U×(Int×Int)))):=
 (fun((l0,i1,i2),l3)=>
 (sV ((l0,i1,i2),aM (ae l3))).ab (fun(i4,l5,i6,i7)=>
 (cV l3 i4).ab (fun i8=>
 some (i8,l5,i6,i7))))
def zD:=Uq aP
def Uj (NN:Nat):(U×Int)->(Option Int):=
 (fun(l0,i1)=>
 (BJ (l0,i1)).ab (fun(l2,i3,i4)=>
 (DN (l2,i3,i4)).ab (fun(i5,l6,i7,i8)=>
 (DN (l6,i7,i8)).ab (fun(i9,cf,fN,e9)=>
 some (bC .i64 (gY .i64 (256:Int) i5) i9)))))
def JQ:=Uj aP
def Ul (NN:Nat):(U×(Int×(Int×Int)))->(Option Int):=
 (fun(l0,i1,i2,i3)=>
 (JQ (l0,i1)).ab (fun i4=>
 (nj i4 (bC .i64 (jE .i64 i3 i2) (1:Int))).ab (fun i5=>
 some (bC .i64 i2 i5))))
def JS:=Ul aP
def Uv (NN:Nat):((U×(Int×Int))×(Int×Int))->(Option ((Int×(List (Int×Int)))×(U×(Int×Int)))):=
 (fun((l0,i1,i2),i3,i4)=>
 (sV ((l0,i1,i2),i3)).ab (fun(i5,l6,i7,i8)=>
 (sV ((l6,i7,i8),bC .i64 i4 1)).ab (fun(i9,cf,fN,e9)=>
 cN ((bh 0 0 (ae (([]:List (Int×Int))))).ab (fun _=>
 (bh 0 0 (ae (([]:List (Int×Int))))).ab (fun _=>
 cL NN (fun(gm,(dj,jO,fy),eP,ii,fE,iu)=>
 aD (cI (0:Int) gm)
 ((sV ((dj,jO,fy),ii)).ab (fun(f0,dY,iq,fO)=>
 (sV ((dY,iq,fO),ii)).ab (fun(mI,iv,iS,pW)=>
 aq iu (
 (cg (((f0,mI)::[])) 0 1).ab (fun iT=>
 (lR (aw (ae iu) (ae iT)) 16).ab (fun _=>
 aq fE (
 (bh 0 (aw (ae iu) (ae iT)) (ae (d6 iu iT))).ab (fun _=>
 some (AN (jE .i64 gm 1,(iv,iS,pW),eP,ii,fE,d6 iu iT))))))))))
 ((aq fE (
 aq iu (
 some (AN ((dj,jO,fy),eP,ii,fE,iu))))).ab (fun kQ=>
 some (IT kQ))))
 (i9,(cf,fN,e9),(0:Int),bC .i64 (1:Int) i5,([]:List (Int×Int)),([]:List (Int×Int))))))
 (fun((kE,lp,oE),kf,lA,jw,jZ)=>
 (cg jZ 0 (ae jZ)).ab (fun nW=>
 some ((lA,nW),kE,lp,oE))))))
def JZ:=Uv aP
def Ui (NN:Nat):(U×Int)->(Option (Int×(List (Int×Int)))):=
 (fun(l0,i1)=>
 (BJ (l0,i1)).ab (fun(l2,i3,i4)=>
 (JZ ((l2,i3,i4),(5:Int),(6:Int))).ab (fun((i5,l6),l7,i8,i9)=>
 some (i5,l6))))
def JP:=Ui aP
theorem Va (c:Cu) (h:ou c):∃x d,DN c=some (x,d)/\(0<=x/\x<=255)/\ou d:=by obtain⟨l,i,k⟩:=c;obtain⟨b,a⟩:=h;dsimp only at b a;obtain⟨i,rfl⟩:=jc b;obtain⟨s1,g⟩:∃s,Be .i64 (bC .i64 (gY .i64 k (6364136223846793005:Int)) (1442695040888963407:Int)) (33:Int)=some s:=⟨_,ak (by decide)⟩;obtain⟨s2,e⟩:∃s,Be .i64 (bC .i64 (gY .i64 k (6364136223846793005:Int)) (1442695040888963407:Int)) (45:Int)=some s:=⟨_,ak (by decide)⟩;simp only[DN,Un];rw[g,e];simp only[Option.ab,OF];by_cases f:i<l.length;rw[bL (eD (by unfold aM ae;omega))];rw[fC,so f];simp only[cN,OF];refine⟨_,_,rfl,acd _,?_,a⟩;dsimp only;rw[ez];omega;rw[aZ (d7 (by unfold aM ae;omega))];simp only[cN,OF];exact⟨_,_,rfl,acd _,b,a⟩
theorem yd (c:Cu) (n:Int) (h:ou c) (hn:1<=n):∃x a,sV (c,n)=some (x,a)/\(0<=x/\x<n)/\x<=255/\ou a:=by obtain⟨l,i,k⟩:=c;obtain⟨x,⟨l',i',k'⟩,e,hx,b⟩:=Va _ h;simp only[sV,Um];rw[aZ Ik,e];simp only[Option.ab,OF];rw[vZ hx.1 (by omega)];refine⟨_,_,rfl,⟨zbV _ (by omega),zbh _ (by omega)⟩,?_,b⟩;have:=zbh x (show 0<n by omega);by_cases hl:x<n;rw[zaZ hx.1 hl];omega;omega
theorem axz (c:Cu) (n:Int) (h:ou c) (hn:1<=n):∃b a,JU (c,n)=some (b,a)/\ou a:=by obtain⟨l,i,k⟩:=c;obtain⟨x,⟨l',i',k'⟩,e,_,_,d⟩:=yd _ n h hn;simp only[JU,Up];rw[e];exact⟨_,_,rfl,d⟩
theorem MT (c:Cu) (l:U) (h:ou c) (h1:l≠[]) (h2:l.length<=100):∃x b,zD (c,l)=some (x,b)/\x∈l/\ou b:=by
 obtain⟨cl,i,k⟩:=c;have hl:1<=l.length:=by rcases l with _|⟨a,l⟩<;>simp_all
 obtain⟨x,⟨l',i',k'⟩,e,hx,_,d⟩:=yd (cl,i,k) (aM (ae l)) h (by unfold aM ae;omega);simp only[zD,Uq];rw[e];simp only[Option.ab,OF];obtain⟨j,rfl⟩:=jc hx.1;have hj:j<l.length:=by unfold aM ae at hx;omega
 rw[fC,so hj];exact⟨_,_,rfl,za6 hj,d⟩
theorem axh (l:U) (h:l.length<=1048576):∃c,JT l=some c/\ou c:=by simp only[JT,Uo];generalize hL:cL aP _ _=o;obtain⟨r,rfl,z,rfl⟩:∃r,o=some r/\∃z,r=AN (l,z):=(by rw[<-hL];refine Fk (min l.length 4000) (fun i (x:U×Int×Int)=>x.1=l/\x.2.2=(i:Int)) _ ?_ ?_ ⟨rfl,rfl⟩ eZ;intro i x hi hx;obtain⟨l1,i2,a⟩:=x;dsimp only at hx⊢;obtain⟨rfl,rfl⟩:=hx;rw[bL (eD (by unfold aM ae;omega)),bL eD,fC,so (by omega)];exact⟨_,rfl,rfl,ez⟩;intro x hx;obtain⟨l1,i2,a⟩:=x;dsimp only at hx⊢;obtain⟨rfl,rfl⟩:=hx;by_cases hc:l1.length<=4000;rw[aZ (d7 (by unfold aM ae;omega))];exact⟨_,rfl,_,rfl⟩;rw[bL (eD (by unfold aM ae;omega)),aZ d7];exact⟨_,rfl,_,rfl⟩);exact⟨_,rfl,Int.le_refl _,h⟩
theorem Ok (l:U) (n:Int) (h:l.length<=1048576) (hn:0<=n):∃c,BJ (l,n)=some c/\ou c:=by obtain⟨⟨l',i',k'⟩,e,a⟩:=axh l h;simp only[BJ,Uw];rw[e];refine⟨_,rfl,?_,a.2⟩;dsimp only;rw[QI];unfold aM ae;omega
theorem axt (l:U) (n:Int) (h:l.length<=1048576) (hn:0<=n):∃x,JQ (l,n)=some x/\(0<=x/\x<=65535):=by obtain⟨⟨l',i',k'⟩,e,a⟩:=Ok l n h hn;obtain⟨x,⟨l1,i1,k1⟩,b,hx,a⟩:=Va _ a;obtain⟨y,⟨l2,i2,k2⟩,c,hy,a⟩:=Va _ a;simp only[JQ,Uj];rw[e];simp only[Option.ab,OF];rw[b];simp only[OF];rw[c];refine⟨_,rfl,?_⟩;rw[tK,ez];omega
theorem aAs (l:U) (n lo hi:Int) (h:l.length<=1048576) (hn:0<=n) (h0:0<=lo) (h1:lo<=hi) (h2:hi<=1048576):∃x,JS (l,n,lo,hi)=some x/\(lo<=x/\x<=hi):=by obtain⟨x,e,hx⟩:=axt l n h hn;simp only[JS,Ul];rw[e];simp only[Option.ab,OF];rw[n8,ez,vZ hx.1 (by omega)];have a:=zbV x (show hi - lo+1≠0 by omega);have b:=zbh x (show 0<hi - lo+1 by omega);refine⟨_,rfl,?_⟩;rw[ez];omega
def O2 (n:Int) (l:List (Int×Int)):Prop:=∀e∈l,(0<=e.1/\e.1<n)/\0<=e.2/\e.2<n
theorem arC (c:Cu) (n m:Int) (h:ou c) (hn:1<=n/\n<=100) (hm:0<=m/\m<=100):∃g f,JZ (c,n,m)=some (g,f)/\(1<=g.1/\g.1<=n)/\(g.2.length:Int)<=m/\O2 g.1 g.2/\ou f:=by obtain⟨x,⟨l1,i1,w⟩,C,hx,_,d⟩:=yd _ n h hn.1;obtain⟨y,⟨l2,i2,k2⟩,I,hy,_,d⟩:=yd (l1,i1,w) (m+1) d (by omega);obtain⟨l,i,k⟩:=c;simp only[JZ,Uv,aq];rw[C];simp only[bE];rw[ez,I];simp only[bE,arp,bR];rw[ez];obtain⟨y,rfl⟩:=jc hy.1;generalize hL:cL aP _ _=o;obtain⟨r,rfl,f,L,u,v,rfl,F,hL,p⟩:∃r,o=some r/\∃f L u v,r=AN (f,u,1+x,v,L)/\ou f/\L.length=y/\O2 (1+x) L:=(by rw[<-hL];refine Fk y (fun j (s:(Int×((U×(Int×Int))×(Int×(Int×((List (Int×Int))×(List (Int×Int))))))))=>s.1=(y:Int) - j/\ou s.2.1/\s.2.2.2.1=1+x/\s.2.2.2.2.2.length=j/\O2 (1+x) s.2.2.2.2.2) _ ?_ ?_ ⟨by simp,d,rfl,rfl,fun e q=>absurd q (by simp)⟩ eZ;intro j s hj hs;obtain⟨D,⟨A,z,B⟩,H,E,G,t⟩:=s;dsimp only at hs⊢;obtain⟨rfl,d,rfl,hl,p⟩:=hs;rw[bL eD];obtain⟨a,⟨la,ia,ka⟩,ea,ha,_,d⟩:=yd _ (1+x) d (by omega);obtain⟨b,⟨lb,ib,kb⟩,eb,hb,_,d⟩:=yd _ (1+x) d (by omega);rw[ea];simp only[bE];rw[eb];simp only[bE,bR,anv (xs:=[(a,b)]) (n:=1) rfl,Wu];rw[w9 (by simp only[aw,ae,zah,zay];rw[hl];have:gH=140737488355328:=rfl;omega)];refine⟨_,rfl,?_,d,rfl,?_,?_⟩;dsimp only;rw[n8];omega;dsimp only;simp[d6,hl];dsimp only;intro e q;rcases zao.1 q with h|h;exact p e h;rw[zai] at h;subst h;exact⟨ha,hb⟩;intro s hs;obtain⟨D,⟨A,z,B⟩,H,E,G,t⟩:=s;dsimp only at hs⊢;obtain⟨rfl,d,rfl,hl,p⟩:=hs;rw[aZ d7];exact⟨_,rfl,_,_,_,_,rfl,d,hl,p⟩);obtain⟨l3,i3,k3⟩:=f;simp only[cN,OF,fP,bE];exact⟨_,_,rfl,by dsimp only;omega,by dsimp only;omega,p,F⟩
theorem anN (l:U) (n:Int) (h:l.length<=1048576) (hn:0<=n):∃g,JP (l,n)=some g/\(1<=g.1/\g.1<=5)/\g.2.length<=6/\O2 g.1 g.2:=by obtain⟨⟨l',i',k'⟩,e,c⟩:=Ok l n h hn;obtain⟨g,⟨l1,i1,k1⟩,d,b,hl,a,_⟩:=arC _ 5 6 c (by decide) (by decide);obtain⟨g1,g2⟩:=g;dsimp only at b hl a;simp only[JP,Ui];rw[e];simp only[Option.ab,OF];rw[d];exact⟨_,rfl,b,by dsimp only;omega,a⟩
def agt (x:Int×nv×nv):Prop:=sK x.1/\Fl x.2.1/\Fl x.2.2/\(x.2.1.1*x.2.2.1<=4096/\x.2.1.2.1*x.2.2.2.1<=4096)/\(x.2.1.1*x.2.2.1)*(x.2.1.2.1*x.2.2.2.1)<=1048576/\wR x.1 x.2.1.2.2/\wR x.1 x.2.2.2.2
instance (x:Int×nv×nv):Decidable (agt x):=by unfold agt;infer_instance
section
variable {p:Int} {r c s d n m:Nat} {A B:fu} {a b a2 b2:U} {ms Y1:List nv}
end

abbrev Wd:=U
structure BI (p:Int) (n t:Nat) (S:List Wd×U) (q:List Wd):Prop where
 dl:S.2.length=S.1.length*n
 dp:wR p S.2
 kn:S.1.length<=n
 qo:∀w∈q,SY t w/\w.length<=S.1.length
 wo:∀w∈S.1,SY t w/\w.length<=n
section
variable {p:Int} {n:Nat} {s b:U} {ms:List nv}
theorem BI.no {S:List Wd×U} {w:Wd} {q:List Wd} (h:BI p n ms.length S (w::q)):BI p n ms.length S q:=⟨h.dl,h.dp,h.kn,fun v a=>h.qo v (by simp[a]),h.wo⟩
end
theorem aA4 {α:Type} {l:List α} {n:Nat} (h:n=l.length):cB l n=some l:=by subst h;unfold cB;rw[ah (zae _),zak]
section
variable {p:Int} {n:Nat} {s b:U} {ms:List nv}
end
def amu (x:Int×nv×nv):Prop:=sK x.1/\(0<=x.2.1.1/\x.2.1.1<=x.2.1.2.1/\x.2.1.2.1<=12)/\(0<=x.2.2.1/\x.2.2.1<=12)/\x.2.2.2.1=x.2.1.2.1/\(x.2.1.2.2.length=x.2.1.1.toNat*x.2.1.2.1.toNat/\x.2.2.2.2.length=x.2.2.1.toNat*x.2.1.2.1.toNat)/\wR x.1 x.2.1.2.2/\wR x.1 x.2.2.2.2
instance (x:Int×nv×nv):Decidable (amu x):=by unfold amu;infer_instance


def UN (p:Int) (M:fu) (i j:Nat):Prop:=(M i j+M j i)%p=0/\(i=j->M i j=0)
instance (p:Int) (M:fu) (i j:Nat):Decidable (UN p M i j):=by unfold UN;infer_instance
def acb (p:Int) (M:fu) (i:Nat):Prop:=∀j,j<i+1->UN p M i j
instance (p:Int) (M:fu) (i:Nat):Decidable (acb p M i):=by unfold acb;infer_instance
def qB (p a b:Int):Prop:=∃q,a=b+p*q
theorem qB.refl (p a:Int):qB p a a:=⟨0,by simp⟩
theorem qB.trans {p a b c:Int} (h:qB p a b) (h':qB p b c):qB p a c:=by obtain⟨q,rfl⟩:=h;obtain⟨d,rfl⟩:=h';exact⟨d+q,by rw[zbc];omega⟩
theorem qB.symm {p a b:Int} (h:qB p a b):qB p b a:=by obtain⟨q,rfl⟩:=h;exact⟨-q,by rw[Int.mul_neg];omega⟩
theorem qB.add {p a b c d:Int} (h:qB p a b) (h':qB p c d):qB p (a+c) (b+d):=by obtain⟨q,rfl⟩:=h;obtain⟨e,rfl⟩:=h';exact⟨q+e,by grind⟩
theorem qB.mul {p a b c d:Int} (h:qB p a b) (h':qB p c d):qB p (a*c) (b*d):=by obtain⟨q,rfl⟩:=h;obtain⟨e,rfl⟩:=h';exact⟨q*d+b*e+p*q*e,by grind⟩
section
variable {p inv:Int} {n k:Nat} {A M:fu}
end

section
variable {p:Int} {n m:Nat} {a b a2 b2:U} {ms Y1:List nv}
theorem al5 {α:Type} (l r:List α) (v x:α) (k:Nat) (a:k=l.length):be (l++v::r) k x=l++x::r:=by subst a;unfold be;rw[zbw _ _ (zae _),zaN];rfl
end
def I6:Nat->U->U
 |0,l=>l
 |k+1,l=>if l.getD (k+1) 0<l.getD k 0 then I6 k (be (be l (k+1) (l.getD k 0)) k (l.getD (k+1) 0)) else l
def FT (l:U):Nat->U
 |0=>l
 |i+1=>I6 i (FT l i)
theorem amg:∀(k:Nat) (l:U),(I6 k l).length=l.length
 |0,_=>rfl
 |k+1,l=>by unfold I6;split;rw[amg k];simp[be];rfl
theorem amw (l:U):∀i,(FT l i).length=l.length
 |0=>rfl
 |i+1=>by unfold FT;rw[amg,amw l i]
theorem aAv {l:U} {k:Nat} (h:k+1<l.length):∃p q a b,l=p++a::b::q/\p.length=k/\l.getD k 0=a/\l.getD (k+1) 0=b:=by refine⟨l.take k,l.drop (k+2),l[k],l[k+1],?_,by rw[IN];omega,?_,?_⟩;have c:=zbl (l:=l) (i:=k) (by omega);have d:=zbl (l:=l) (i:=k+1) (by omega);rw[<-d,<-c,za2];rw[co,so (by omega)];rfl;rw[co,so (by omega)];rfl
theorem amh:∀(k:Nat) (l:U),k<l.length->(I6 k l).Perm l
 |0,_,_=>zbE _
 |k+1,l,h=>by unfold I6;split;refine(amh k _ (by simp[be];omega)).trans ?_;obtain⟨p,q,a,b,e,hp,ha,hb⟩:=aAv (l:=l) (k:=k) h;rw[ha,hb];subst e;have c:be (p++a::b::q) (k+1) a=p++a::a::q:=(by have:=al5 (p++[a]) q b a (k+1) (by simp[hp]);simpa using this);rw[c,al5 p (a::q) a b k hp.symm];exact(List.Perm.swap a b q).append_left p;exact zbE _
theorem amx (l:U):∀i,i<=l.length->(FT l i).Perm l
 |0,_=>zbE _
 |i+1,h=>by unfold FT;exact(amh i _ (by rw[amw];omega)).trans (amx l i (by omega))
def sN (f:Nat->Nat):Nat->Nat
 |0=>0
 |q+1=>sN f q+f q
def iz (L D S:U):U:=dL S.length fun i=>D.getD (bA L (S.getD i 0)) 0
def gP (L D S:U) (n:Nat) (v:Int):Nat:=(fY (iz L D S) n (bA S v)).toNat*eR D (bA L v+1)
def oL (L D S:U) (n:Nat):Nat:=sN (fun i=>gP L D S n (S.getD i 0)) S.length
def wV (r:Rg) (A:U) (off:Nat->Nat):Nat->U
 |0=>[]
 |n+1=>wV r A off n++fG A (off n*az r) (az r)
def Q7 (r:Rg) (t:T3) (S:U):T3:=(S,iz t.1 t.2.1 S,wV r t.2.2 (oL t.1 t.2.1 S) (aU (iz t.1 t.2.1 S)))
def Zo (x:Rg×T3×U):Prop:=gC x.1 x.2.1=true/\x.2.2=FT x.2.1.1 x.2.1.1.length
instance (x:Rg×T3×U):Decidable (Zo x):=by unfold Zo;infer_instance
def abN:Rg×T3×U->Option T3:=fun x=>if Zo x then some (Q7 x.1 x.2.1 x.2.2) else none
def Gu:Rg×T3×U->Option T3:=abN
def xY:T3×Int->Option Int:=fun x=>if x.1.1.length<=1048576 then some (tg x.1.1 x.2) else none
def I7 (l:U) (b:Int):Prop:=l.length<=12/\∀x∈l,0<=x/\x<=b
instance (l:U) (b:Int):Decidable (I7 l b):=by unfold I7;infer_instance
def I8 (l:U) (b:Int):Prop:=l.length<=24/\∀x∈l,0<=x/\x<=b
instance (l:U) (b:Int):Decidable (I8 l b):=by unfold I8;infer_instance
theorem I7.m {l:U} {b:Int} (h:I7 l b):I8 l b:=⟨zax h.1 (by decide),h.2⟩
def wH:U×U->Option Int:=fun x=>if I8 x.1 1048576/\I8 x.2 8/\x.1.length=x.2.length then some ((sN (fun i=>(x.2.getD i 0).toNat*(x.1.getD i 0).toNat) x.1.length:Nat):Int) else none
def wv (L D S:U):U:=dL S.length fun i=>((eR D (bA L (S.getD i 0)+1):Nat):Int)
def qV (L D S:U):U:=dL S.length fun i=>if bA L (S.getD i 0)<L.length then((eR D (bA L (S.getD i 0)+1):Nat):Int) else 0
def vf:T3×U->Option U:=fun x=>if mz x.1.1 x.1.2.1=true/\x.2.length<=1000/\aU x.1.2.1<=4096 then some (qV x.1.1 x.1.2.1 x.2) else none
def JY:Rg×T3×Int->Option U:=fun x=>if O7 x then some (fG x.2.1.2.2 (x.2.2.toNat*az x.1) (az x.1)) else none
def wI:Rg×T3×Int->Option U:=JY
def TI (NN:Nat):((U×(U×U))×Int)->(Option Int):=
 (fun((l0,l1,l2),i3)=>
 cN (cL NN (fun(i4,l5,i6,i7)=>
 aD (cI i7 i6)
 ((cV l5 i7).ab (fun i8=>
 aD (bq i8 i4)
 (some (IT (IT i7)))
 (some (AN (i4,l5,i6,bC .i64 i7 1)))))
 (some (IT (AN ()))))
 (i3,l0,aM (ae l0),(0:Int)))
 (fun _=>
 some ((-1:Int))))
def TP (NN:Nat):(U×U)->(Option Int):=
 (fun(l0,l1)=>
 cN (cL NN (fun(l2,l3,i4,i5,i6)=>
 aD (cI i6 i5)
 ((cV l2 i6).ab (fun i7=>
 (cV l3 i6).ab (fun i8=>
 some (AN (l2,l3,bC .i64 i4 (gY .i64 i7 i8),i5,bC .i64 i6 1)))))
 (some (IT (AN i4))))
 (l0,l1,(0:Int),aM (ae l0),(0:Int)))
 (fun i9=>
 some i9))
def T1 (NN:Nat):((Int×(Int×Int))×((U×(U×U))×Int))->(Option U):=
 (fun((i0,i1,i2),(l3,l4,l5),i6)=>
 (ov (i0,i1,i2)).ab (fun i7=>
 (jg (gY .i64 i6 i7) (gY .i64 (bC .i64 i6 1) i7) (ae l5)).ab (fun(k8,k9)=>
 some (fG l5 k8 k9))))
theorem aks {f:Nat->Nat} {b:Nat}:∀q,(∀i,i<q->f i<=b)->sN f q<=q*b
 |0,_=>za0 _
 |q+1,h=>by have h1:=aks (f:=f) (b:=b) q fun i hi=>h i (by omega);have h2:=h q (by omega);simp only[sN];rw[zab,zag];omega
theorem Ng {f g:Nat->Nat}:∀q,(∀i,i<q->f i=g i)->sN f q=sN g q
 |0,_=>rfl
 |q+1,h=>by simp only[sN];rw[Ng q fun i hi=>h i (by omega),h q (by omega)]
theorem akt (g:Int->Nat) (l:U):∀q,q<=l.length->sN (fun i=>g (l.getD i 0)) q=((l.take q).map g).sum
 |0,_=>by simp[sN]
 |q+1,h=>by simp only[sN];rw[akt g l q (by omega),List.take_succ_eq_append_getElem (by omega),zaE,List.sum_append_nat,co,so (by omega)];simp
theorem Rr (g:Int->Nat) (l:U):sN (fun i=>g (l.getD i 0)) l.length=(l.map g).sum:=by rw[akt g l _ (zae _),zak]
theorem azU {S L:U} (h:S.Perm L) (g:Int->Nat):sN (fun i=>g (S.getD i 0)) S.length=sN (fun i=>g (L.getD i 0)) L.length:=by rw[Rr,Rr];exact(h.map g).sum_nat
theorem gI {l:U} {v:Int} (h:v∈l):bA l v<l.length:=by refine Nat.lt_of_le_of_ne (Q9 l v) fun e=>?_;obtain⟨i,hi⟩:=zbA h;have hl:=(zaD.1 hi).1;exact MZ (by omega) hi
theorem pw {l:U} {v:Int} (h:v∈l):l.getD (bA l v) 0=v:=by rw[co,MY (gI h)];rfl
theorem fR {l:U} {i:Nat} (h:i<l.length):l.getD i 0∈l:=by rw[co,so h];exact za6 h
theorem kR {l:U} (hn:l.Nodup) {i:Nat} (h:i<l.length):bA l (l.getD i 0)=i:=by have hm:=fR h;have b:=gI hm;have a:=MY b;rw[so b] at a;have e:l[bA l (l.getD i 0)]=l[i]:=(by injection a with a;rw[a,co,so h];rfl);exact(List.getElem_inj hn).1 e
theorem wT {L D:U} (h:mz L D=true):L.Nodup:=by obtain⟨h1,h2,a⟩:=mA h;rw[List.nodup_iff_pairwise_ne,List.pairwise_iff_getElem];intro i j hi hj kC e;have:=(a j hj).2.2;apply this;rw[co,so hj];show L[j]∈L.take j;rw[<-e,List.mem_take_iff_getElem];exact⟨i,by omega,rfl⟩
structure mq (L D S:U):Prop where
 p:S.Perm L
 nL:L.Nodup
 nS:S.Nodup
 len:L.length=D.length
 de:L.length<=12
 yo:∀x∈D,1<=x/\x<=8
theorem mq.mk' {L D S:U} (h:mz L D=true) (b:S=FT L L.length):mq L D S:=by
 have hp:S.Perm L:=by rw[b];exact amx L _ (zae _)
 obtain⟨a,c,h3⟩:=mA h;have hn:=wT h;exact⟨hp,hn,hp.nodup_iff.2 hn,c,a,wS h⟩
section
variable {L D S:U} (I:mq L D S)
include I
theorem mq.Ny:S.length=L.length:=I.p.length_eq
theorem mq.inv {q k:Nat} (a:q<S.length) (b:k<L.length):bA L (S.getD q 0)=k↔bA S (L.getD k 0)=q:=by have m1:S.getD q 0∈L:=I.p.mem_iff.1 (fR a);have m2:L.getD k 0∈S:=I.p.mem_iff.2 (fR b);constructor;intro e;have:=pw m1;rw[e] at this;rw[this,kR I.nS a];intro e;have:=pw m2;rw[e] at this;rw[this,kR I.nL b]
theorem mq.DW {q:Nat} (a:q<S.length):bA L (S.getD q 0)<L.length:=gI (I.p.mem_iff.1 (fR a))
theorem mq.atp {k:Nat} (a:k<L.length):bA S (L.getD k 0)<S.length:=gI (I.p.mem_iff.2 (fR a))
theorem mq.jl:jl D:=⟨by have:=I.len;have:=I.de;omega,fun x hx=>by have:=I.yo x hx;omega⟩
theorem mq.apH:∀x∈iz L D S,1<=x/\x<=8:=by intro x hx;obtain⟨i,hi,rfl⟩:=If.1 hx;have:=I.DW (By.1 hi);exact I.yo _ (fR (by have:=I.len;omega))
theorem mq.apJ:Am.jl (iz L D S):=⟨by show(dL _ _).length<=_;rw[gK,I.Ny];have:=I.de;omega,fun x hx=>by have:=I.apH x hx;omega⟩
omit I in
theorem ay3 {h:Int->Int} {S L:U} (p:S.Perm L):aU (S.map h)=aU (L.map h):=by induction p with|nil=>rfl|cons x _ b=>simp only[zaP,aU,b]|swap x y l=>simp only[zaP,aU];rw[Nat.mul_left_comm]|trans _ _ a c=>exact a.trans c
omit I in
theorem ZM (h:Int->Int) (l:U):dL l.length (fun i=>h (l.getD i 0))=l.map h:=by apply zaF;intro i;by_cases hi:i<l.length;rw[qd _ hi,zad,so hi,co,so hi];rfl;rw[Pd (by rw[gK];omega),Pd (by simp;omega)]
theorem mq.prod:aU (iz L D S)=aU D:=by have a:iz L D S=S.map fun v=>D.getD (bA L v) 0:=ZM (fun v=>D.getD (bA L v) 0) S;have b:L.map (fun v=>D.getD (bA L v) 0)=D:=(by rw[<-ZM (fun v=>D.getD (bA L v) 0) L];apply zaF;intro i;by_cases hi:i<L.length;rw[qd _ hi,kR I.nL hi,co,so (by have:=I.len;omega)];rfl;rw[Pd (by rw[gK];omega),Pd (by have:=I.len;omega)]);rw[a,ay3 I.p,b]
def Fs (L D S:U) (n:Nat):U:=dL D.length fun k=>fY (iz L D S) n (bA S (L.getD k 0))
theorem mq.pd {i:Nat} (hi:i<S.length):(iz L D S).getD i 0=D.getD (bA L (S.getD i 0)) 0:=by unfold iz;rw[co,qd _ hi];rfl
theorem mq.ady (n:Nat) {i:Nat} (hi:i<S.length):0<=fY (iz L D S) n i/\fY (iz L D S) n i<D.getD (bA L (S.getD i 0)) 0:=by have hd:=I.yo _ (fR (l:=D) (i:=bA L (S.getD i 0)) (by have:=I.DW hi;have:=I.len;omega));unfold fY;rw[I.pd hi];have:=zbb (n/eR (iz L D S) (i+1)) (show 0<(D.getD (bA L (S.getD i 0)) 0).toNat by omega);omega
omit I in
theorem QX {D ix:U} (h:∀k,k<D.length->(ix.getD k 0).toNat<(D.getD k 0).toNat):∀j,j<=D.length->(jD D ix j+1)*eR D j<=aU D
 |0,_=>by simp[jD,eR]
 |j+1,hj=>by have a:=QX h j (by omega);have hk:=h j (by omega);rw[F5 (by omega),<-zaU] at a;refine zax (Pe _ ?_) a;simp only[jD];rw[zab,zag];omega
omit I in
theorem Zb {D ix:U}:∀j,j<=D.length->jD D ix j*eR D j=sN (fun k=>(ix.getD k 0).toNat*eR D (k+1)) j
 |0,_=>by simp[jD,sN]
 |j+1,hj=>by simp only[jD,sN];rw[<-Zb j (by omega),F5 (i:=j) (by omega),zab,zaU]
theorem mq.ai7 (n:Nat) {k:Nat} (a:k<D.length):(Fs L D S n).getD k 0=fY (iz L D S) n (bA S (L.getD k 0)):=by unfold Fs;rw[co,qd _ a];rfl
theorem mq.axy (n:Nat) {k:Nat} (d:k<D.length):0<=(Fs L D S n).getD k 0/\(Fs L D S n).getD k 0<D.getD k 0:=by
 rw[I.ai7 n d];have b:k<L.length:=by have:=I.len;omega
 have a:=I.atp b;have c:=I.ady n a;rw[(I.inv a b).2 rfl] at c;exact c
theorem mq.off (n:Nat):jD D (Fs L D S n) D.length=oL L D S n:=by have a:=Zb (D:=D) (ix:=Fs L D S n) D.length (zae _);rw[xO,zbr] at a;rw[a];unfold oL;rw[azU I.p (gP L D S n),I.len];refine Ng _ fun k b=>?_;rw[I.ai7 n b];unfold gP;rw[kR I.nL (by have:=I.len;omega)]
theorem mq.ai6 (n:Nat):oL L D S n<aU D:=by have:=QX (D:=D) (ix:=Fs L D S n) (fun k a=>by have:=I.axy n a;omega) D.length (zae _);rw[xO,zbr,I.off n] at this;omega
end
theorem Sg {l:U} {b:Int} (h:I8 l b) {i:Nat} (hi:i<l.length):∃a:Nat,l[i]? =some (a:Int)/\(l.getD i 0).toNat=a/\(a:Int)<=b:=by have:=h.2 _ (za6 hi);refine⟨l[i].toNat,?_,?_,by omega⟩;rw[so hi];congr 1;omega;rw[co,so hi];rfl
theorem aqT (x:U×U) (y:Int) (h:wH x=some y):TP aP x=some y:=by obtain⟨s,ix⟩:=x;simp only[wH] at h;split at h;rename_i p;rw[<-h];obtain⟨d,k,o⟩:=p;(try dsimp only at d k o);simp only[TP];have hb:∀j,j<=s.length->sN (fun i=>(ix.getD i 0).toNat*(s.getD i 0).toNat) j<=j*8388608:=fun j hj=>aks j fun i hi=>(by obtain⟨a,_,c,f⟩:=Sg d (i:=i) (by omega);obtain⟨b,_,l,n⟩:=Sg k (i:=i) (by omega);rw[c,l];exact IS (show b<=8 by omega) (show a<=1048576 by omega));have hl:=d.1;rw[gw (fun j=>(s,ix,((sN (fun i=>(ix.getD i 0).toNat*(s.getD i 0).toNat) j:Nat):Int),(s.length:Int),(j:Int))) s.length ?g ?c ?f eZ];(case f=>rfl);(case c=>dsimp only;rw[aZ d7]);(case g=>intro j hj;obtain⟨a,g,c,f⟩:=Sg d (i:=j) (by omega);obtain⟨b,m,l,n⟩:=Sg k (i:=j) (by omega);have hb1:=hb j (by omega);have e:sN (fun i=>(ix.getD i 0).toNat*(s.getD i 0).toNat) (j+1)=sN (fun i=>(ix.getD i 0).toNat*(s.getD i 0).toNat) j+b*a:=(by simp only[sN];rw[c,l]);have hm:=IS (show b<=8 by omega) (show a<=1048576 by omega);dsimp only;rw[bL eD,fC,fC,g,m];simp only[bt];rw[e,zaB b a];rw[zaB b a] at hm;rw[tK (by rw[<-zat];omega) (by rw[<-zat];omega),<-zat,ez,ez];rfl);simp only[cN,OF];cases h
theorem aqO (x:T3×Int) (y:Int) (h:xY x=some y):TI aP x=some y:=by obtain⟨⟨L,D,A⟩,v⟩:=x;simp only[xY] at h;split at h;rename_i a;rw[<-h];(try dsimp only at a);simp only[TI];unfold tg;by_cases hp:bA L v<L.length;rw[ah hp];rw[gw (r:=IT ((bA L v:Nat):Int)) (fun j=>(v,L,(L.length:Int),(j:Int))) (bA L v) ?a1 ?a2 ?a3 eZ];(case a3=>rfl);(case a2=>dsimp only;rw[bL eD,fC,MY hp];simp only[bt];rw[bL (by simp[bq])]);(case a1=>intro j hj;dsimp only;rw[bL eD,fC,so (by omega)];simp only[bt];rw[aZ (by have:=MZ hj;rw[so (by omega)] at this;simp only[bq,beq_eq_false_iff_ne,ne_eq];exact fun e=>this (congrArg some e)),ez];rfl);simp only[cN,OF];rw[ak hp];have mF:bA L v=L.length:=(by have:=Q9 L v;omega);rw[gw (r:=AN ()) (fun j=>(v,L,(L.length:Int),(j:Int))) L.length ?a1 ?a2 ?a3 eZ];(case a3=>rfl);(case a2=>dsimp only;rw[aZ d7]);(case a1=>intro j hj;dsimp only;rw[bL eD,fC,so (by omega)];simp only[bt];rw[aZ (by have:=MZ (l:=L) (v:=v) (j:=j) (by omega);rw[so (by omega)] at this;simp only[bq,beq_eq_false_iff_ne,ne_eq];exact fun e=>this (congrArg some e)),ez];rfl);simp only[cN,OF];cases h
theorem aq3 (x:Rg×T3×Int) (y:U) (h:wI x=some y):T1 aP x=some y:=by obtain⟨⟨k,p,m⟩,⟨L,D,A⟩,n⟩:=x;simp only[wI,JY] at h;split at h;rename_i f;rw[<-h];obtain⟨hr,d,c,g⟩:=f;dsimp only at hr d c g;obtain⟨n,rfl⟩:=jc d;have e:=ku hr;simp only[wt] at c⊢;have m9:(n+1)*az (k,p,m)=n*az (k,p,m)+az (k,p,m):=(by rw[zab,zag]);have hn:n+1<=1048576:=(by have:=Nat.le_mul_of_pos_right (n+1) (show 0<az (k,p,m) by omega);omega);simp only[T1,ov,bt];rw[e.1,ez,show(n:Int)+1=((n+1:Nat):Int) by push_cast;rfl];rw[MD (a:=n) (b:=az (k,p,m)) (by omega)];rw[MD (a:=n+1) (b:=az (k,p,m)) (by omega)];rw[show jg ((n*az (k,p,m):Nat):Int) (((n+1)*az (k,p,m):Nat):Int) (ae A)=some (n*az (k,p,m),az (k,p,m)) by unfold jg ae;rw[ah ⟨by omega,by omega,by omega⟩];congr 2;omega];simp only[bt];cases h
abbrev Bk:=U×U×U×U
def sU (of:U) (x:Int):Nat->U
 |0=>[]
 |n+1=>if of.getD n 0=x then sU of x n++[(n:Int)] else sU of x n
def vals (of:U) (x:Int):U:=sU of x of.length
def Oj (V:List U) (ix:U):U:=dL ix.length fun i=>(V.getD i []).getD (ix.getD i 0).toNat 0
def UR (V:List U) (ix:U):Prop:=ix.length<=12/\∀i,i<ix.length->i<V.length/\0<=ix.getD i 0/\(ix.getD i 0).toNat<(V.getD i []).length
instance (V:List U) (ix:U):Decidable (UR V ix):=by unfold UR;infer_instance
def NW (R:List U) (ch:U):List U:=(zaa ch.length).map fun i=>vals (R.getD i []) (ch.getD i 0)
def kz (R:List U) (ch:U):U:=dL ch.length fun i=>((vals (R.getD i []) (ch.getD i 0)).length:Int)
def Ga (R:List U) (ch:U) (n:Nat):U:=Oj (NW R ch) (bi (kz R ch) n)
def ai5 (D:U) (R:List U) (ch:U) (n:Nat):Nat:=jD D (Ga R ch n) D.length
def pM (R:List U) (ch:U):Prop:=ch.length=R.length/\∀i,i<R.length->ch.getD i 0∈R.getD i []
instance (R:List U) (ch:U):Decidable (pM R ch):=by unfold pM;infer_instance
def acx (x:T3×qj×Bk):Prop:=Vf (x.1,x.2.1)=true/\pM x.2.1.2 x.2.2.1/\x.2.2.2.2.1=kz x.2.1.2 x.2.2.1
instance (x:T3×qj×Bk):Decidable (acx x):=by unfold acx;infer_instance
theorem avr {X Y:Type} {f:X->Option (X⊕Y)} {r:Y} (n:Nat) (a:Nat->X) (hn:1<=n) (h:∀k,k<n->f (a k)=some (if k+1<n then .inl (a (k+1)) else .inr r)) {b:X} (c:b=a 0) {N:Nat} (hN:n<=N):cL N f b=some r:= gw a (n - 1) (fun k hk=>by rw[h k (by omega),ah (by omega)]) (by rw[h (n - 1) (by omega),ak (by omega)]) c (by omega)
theorem ann (of:U) (x:Int):∀n,(sU of x n).length<=n
 |0=>zae 0
 |n+1=>by have ih:=ann of x n;simp only[sU];split;rw[AT,zal];omega;omega
theorem NV (of:U) (x:Int):∀n v,v∈sU of x n->∃i:Nat,i<n/\v=(i:Int)/\of.getD i 0=x
 |0,v,h=>by cases h
 |n+1,v,h=>by simp only[sU] at h;split at h;rename_i e;rcases zao.1 h with h|h;obtain⟨i,b,a⟩:=NV of x n v h;exact⟨i,by omega,a⟩;exact⟨n,by omega,zai.1 h,e⟩;obtain⟨i,b,a⟩:=NV of x n v h;exact⟨i,by omega,a⟩
theorem abt {of:U} {x:Int}:∀{n i:Nat},i<n->of.getD i 0=x->(i:Int)∈sU of x n
 |n+1,i,h,e=>by by_cases hi:i=n;subst hi;simp only[sU,ah e];simp;have a:=abt (of:=of) (x:=x) (show i<n by omega) e;simp only[sU];split;exact za9 _ a;exact a
theorem anq {of:U} {x:Int} (h:x∈of):0<(vals of x).length:=by obtain⟨i,hi,e⟩:=zba.1 h;exact zbv (abt (of:=of) (x:=x) hi (by rw[co,so hi];exact e))
theorem anp (of:U) (x:Int):(vals of x).length<=of.length:=ann of x of.length
def gL {α:Type} (n:Nat) (f:Nat->α):List α:=(zaa n).map f
theorem afn {α:Type} (n:Nat) (f:Nat->α):(gL n f).length=n:=by simp[gL]
theorem afm {α:Type} {n j:Nat} (f:Nat->α) (h:j<n):(gL n f)[j]? =some (f j):=by simp[gL,zbd h]
theorem afl {α:Type} {n:Nat} {f g:Nat->α} (h:∀j,j<n->f j=g j):gL n f=gL n g:=zar fun j hj=>h j (By.1 hj)
theorem art {α:Type} {n j:Nat} (f:Nat->α) (d:α) (h:j<n):(gL n f).getD j d=f j:=by rw[co,afm f h];rfl
theorem Zy:∀{A B:U},A.length=B.length->(∀i,i<A.length->(A.getD i 0).toNat<=(B.getD i 0).toNat)->aU A<=aU B
 |[],[],_,_=>zae _
 |a::A,b::B,hl,h=>by have d:=h 0 (by simp);have c:=Zy (A:=A) (B:=B) (by simpa using hl) fun i hi=>(by simpa using h (i+1) (by simp;omega));simp only[aU];exact IS (by simpa using d) c
structure ot (D:U) (m:Int) (R:List U):Prop where
 m1:1<=m
 m12:m<=12
 de:D.length<=12
 d8:∀x∈D,1<=x/\x<=8
 g:jl D
 p1:1<=aU D
 p4:aU D<=4096
 rl:R.length=D.length
 row:∀i,i<D.length->((R.getD i []).length:Int)=D.getD i 0
 al:∀i,i<D.length->∀v∈R.getD i [],0<=v/\v<m
section
variable {D:U} {m:Int} {R:List U}
theorem ot.yo (H:ot D m R) {i:Nat} (hi:i<D.length):1<=D.getD i 0/\D.getD i 0<=8:=H.d8 _ (fR hi)
theorem apG (R:List U) (ch:U):(kz R ch).length=ch.length:=gK _ _
theorem adz {ch:U} {i:Nat} (h:i<ch.length:=by omega):(kz R ch).getD i 0=((vals (R.getD i []) (ch.getD i 0)).length:Int):=by rw[co,kz,qd _ h];rfl
structure BkF (D:U) (R:List U) (ch:U):Prop where
 cl:ch.length=D.length
 bl:(kz R ch).length=D.length
 b:∀i,i<D.length->1<=(kz R ch).getD i 0/\(kz R ch).getD i 0<=D.getD i 0
 b8:∀x∈kz R ch,1<=x/\x<=8
 g:jl (kz R ch)
 p1:1<=aU (kz R ch)
 pD:aU (kz R ch)<=aU D
theorem ot.blk (H:ot D m R) {ch:U} (d:pM R ch):BkF D R ch:=by obtain⟨h1,f⟩:=d;have HX:=H.rl;have hb:∀i,i<D.length->1<=(kz R ch).getD i 0/\(kz R ch).getD i 0<=D.getD i 0:=fun i hi=>(by rw[adz];have c:=anq (f i (by omega));have b:=anp (R.getD i []) (ch.getD i 0);have a3:=H.row i hi;omega);have hl:(kz R ch).length=D.length:=(by rw[apG];omega);have a:∀x∈kz R ch,1<=x/\x<=8:=fun x hx=>(by obtain⟨i,hi,rfl⟩:=zba.1 hx;have e:(kz R ch)[i]=(kz R ch).getD i 0:=(by rw[co,so hi];rfl);have c:=hb i (by omega);have b:=H.yo (i:=i) (by omega);rw[e];omega);have Xe:=H.de;exact⟨by omega,hl,hb,a,⟨by omega,fun x hx=>by have:=a x hx;omega⟩,AW fun x hx=>(a x hx).1,Zy hl fun i hi=>by have:=hb i (by omega);omega⟩
theorem ano {ch:U} {i:Nat} (h:i<ch.length):(NW R ch).getD i []=vals (R.getD i []) (ch.getD i 0):=art _ _ h
theorem ot.at (H:ot D m R) {ch:U} (e:pM R ch) (n:Nat):UR (NW R ch) (bi (kz R ch) n):=by
 have B:=H.blk e;have Xe:=H.de;have xm:(bi (kz R ch) n).length=D.length:=(gK _ _).trans B.bl;refine⟨by omega,fun i hi=>?_⟩;have a:i<D.length:=by omega
 have cP:=B.cl;obtain⟨d,d1,f,b,d4,d5⟩:=OZ B.g (i:=i) (by rw[B.bl];exact a);have c:(bi (kz R ch) n).getD i 0=((n/eR (kz R ch) (i+1)%d:Nat):Int):=by rw[xu (by rw[B.bl];exact a)];unfold fY;rw[b]
 have cu:=zbb (n/eR (kz R ch) (i+1)) (show 0<d by omega);rw[adz] at f;have qI:(NW R ch).length=ch.length:=afn _ _;rw[c,wt,ano (by omega)];exact⟨by omega,by omega,by omega⟩
theorem ot.whole (H:ot D m R) {ch:U} (b:pM R ch) (n:Nat):(Ga R ch n).length=D.length/\∀k,k<D.length->0<=(Ga R ch n).getD k 0/\(Ga R ch n).getD k 0<D.getD k 0:=by have B:=H.blk b;have f:=H.at b n;have c:(bi (kz R ch) n).length=D.length:=(gK _ _).trans B.bl;refine⟨(gK _ _).trans c,fun k d=>?_⟩;obtain⟨h1,h2,a⟩:=f.2 k (by omega);have cP:=B.cl;have e:(Ga R ch n).getD k 0=((NW R ch).getD k []).getD ((bi (kz R ch) n).getD k 0).toNat 0:=(by rw[co,Ga,Oj,qd _ (by omega)];rfl);rw[ano (by omega)] at a e;obtain⟨i,i1,i2,_⟩:=NV (R.getD k []) (ch.getD k 0) _ _ (fR a);have:=H.row k d;have i2:(vals (R.getD k []) (ch.getD k 0)).getD ((bi (kz R ch) n).getD k 0).toNat 0=(i:Int):=i2;rw[e,i2];omega
theorem ot.ai6 (H:ot D m R) {ch:U} (a:pM R ch) (n:Nat):ai5 D R ch n<aU D:=by obtain⟨h1,c⟩:=H.whole a n;have:=QX (D:=D) (ix:=Ga R ch n) (fun k b=>by have:=c k b;omega) D.length (zae _);rw[xO] at this;unfold ai5;omega
end
def zp (of:U):Nat->U
 |0=>[]
 |n+1=>if(n:Int)∈of then zp of n++[(n:Int)] else zp of n
def iM (m:Int) (of:U):U:=zp of m.toNat
def vi (m:Int) (R:List U):List U:=R.foldl (fun K of=>K.flatMap fun l=>(iM m of).map fun x=>l++[x]) [[]]
def Jm (l:U):Int:=sm l.length fun i=>l.getD i 0
def okS (m:Int) (l:U):Bool:=decide (Jm l%m=0)
def r7 (m:Int) (R:List U):List U:=(vi m R).filter (okS m)
def avm (R:List U):U:=R.map fun l=>(l.length:Int)
def chB (c:qj):Prop:=(1<=c.1/\c.1<=12)/\c.2.length<=12/\(∀l∈c.2,(1<=l.length/\l.length<=8)/\∀v∈l,0<=v/\v<c.1)/\aU (avm c.2)<=4096
instance (c:qj):Decidable (chB c):=by unfold chB;infer_instance
def gZ (m:Int) (R:List U):U:=R.map fun of=>((iM m of).length:Int)
def xH (m:Int) (R:List U) (ix:U):U:=dL R.length fun i=>(iM m (R.getD i [])).getD (ix.getD i 0).toNat 0
theorem M1 (of:U) (x:Int):∀n,x∈zp of n↔∃i:Nat,i<n/\x=(i:Int)/\x∈of
 |0=>by simp[zp]
 |n+1=>by have b:=M1 of x n;simp only[zp];constructor;intro h;split at h;rename_i hm;rcases zao.1 h with h|h;obtain⟨i,c,a⟩:=b.1 h;exact⟨i,by omega,a⟩;have:=zai.1 h;exact⟨n,by omega,this,by rw[this];exact hm⟩;obtain⟨i,c,a⟩:=b.1 h;exact⟨i,by omega,a⟩;rintro⟨i,c,a,d⟩;by_cases e:i=n;subst e;rw[ah (by rw[<-a];exact d),a];simp;have:=b.2 ⟨i,by omega,a,d⟩;split;exact za9 _ this;exact this
theorem acZ (n:Int):∀l:U,l.countP (fun v=>decide (v<n))+(if n∈l then 1 else 0)<=l.countP (fun v=>decide (v<n+1))
 |[]=>by simp
 |v::l=>by
  have d:=acZ n l;have mono:l.countP (fun v=>decide (v<n))<=l.countP (fun v=>decide (v<n+1)):=by
   have:0<=(if n∈l then 1 else 0):=za0 _
   omega
  simp only[List.countP_cons,zb3,decide_eq_true_eq];by_cases c:n=v
  ·subst c;rw[ak (show¬n<n by omega),ah (show n=n\/n∈l from .inl rfl),ah (show n<n+1 by omega)]
   omega
  ·by_cases b:n∈l
   ·rw[ah b] at d;rw[ah (show n=v\/n∈l from .inr b)]
    by_cases a:v<n
    ·rw[ah a,ah (show v<n+1 by omega)];omega
    ·rw[ak a];omega
   ·rw[ak (show¬(n=v\/n∈l) from fun h=>h.elim c b)]
    by_cases a:v<n
    ·rw[ah a,ah (show v<n+1 by omega)];omega
    ·rw[ak a];omega
theorem ajT (of:U):∀n,(zp of n).length<=of.countP (fun v=>decide (v<(n:Int)))
 |0=>za0 _
 |n+1=>by have ih:=ajT of n;have st:=acZ (n:Int) of;simp only[zp];split;rename_i h;rw[ah h] at st;rw[AT,zal];push_cast;omega;rename_i h;rw[ak h] at st;push_cast;omega
theorem ay0 (m:Int) (of:U):(iM m of).length<=of.length:=zax (ajT of m.toNat) List.countP_le_length
theorem ayZ {m:Int} {of:U} {x:Int} (h:x∈iM m of):x∈of:=by obtain⟨_,_,_,h⟩:=(M1 of x _).1 h;exact h
theorem ay1 {m:Int} {of:U} (a:of≠[]) (b:∀v∈of,0<=v/\v<m):0<(iM m of).length:=by rcases of with _|⟨v,l⟩;exact absurd rfl a;have:=b v (by simp);exact zbv ((M1 (v::l) v _).2 ⟨v.toNat,by omega,by omega,by simp⟩)
theorem Zx:∀(A:U) (q:Int),aU (A++[q])=aU A*q.toNat
 |[],q=>by simp[aU]
 |a::A,q=>by have:=Zx A q;simp only[za7,aU,this,zaU]
theorem apF {P:U} {q:Int} {n i:Nat} (h:i<P.length):fY (P++[q]) n i=fY P (n/q.toNat) i:=by unfold fY eR;rw[zaJ (by omega),Zx,zaB,<-Nat.div_div_eq_div_mul];rw[show(P++[q]).getD i 0=P.getD i 0 by rw[co,zaf h,<-co]]
theorem apD (P:U) (q:Int) (n:Nat):fY (P++[q]) n P.length=((n%q.toNat:Nat):Int):=by unfold fY eR;rw[show(P++[q]).drop (P.length+1)=[] from zaY (by simp),show aU []=1 from rfl,zcf];rw[show(P++[q]).getD P.length 0=q by rw[co,zac (zae _),zaN];rfl]
theorem afo {α:Type} (q:Nat) (f:Nat->α):∀a,gL (a*q) f=(gL a fun x=>gL q fun y=>f (x*q+y)).flatten
 |0=>by simp[gL]
 |a+1=>by have b:=afo q f a;have e:gL (a+1) (fun x=>gL q fun y=>f (x*q+y))=gL a (fun x=>gL q fun y=>f (x*q+y))++[gL q fun y=>f (a*q+y)]:=(by unfold gL;rw[zaV,zaE];rfl);rw[e,List.flatten_append,<-b,zab,zag];unfold gL;rw[zbF,zaE,zb6];simp only[List.flatten_cons,List.flatten_nil,zaj];rfl
theorem aru {α β:Type} (g:α->β) (l:List α) (d:α):gL l.length (fun i=>g (l.getD i d))=l.map g:=by apply zaF;intro i;by_cases h:i<l.length;rw[afm _ h,zad,getD_some d h];rfl;rw[Pd (by rw[afn];omega),Pd (by rw[AI];omega)]
theorem UM (m:Int) (R:List U) (of:U):vi m (R++[of])=(vi m R).flatMap fun l=>(iM m of).map fun x=>l++[x]:=by unfold vi;rw[List.foldl_append];rfl
theorem ayK {m:Int} {R:List U} {of:U} {x y:Nat} (h:y<(iM m of).length): xH m (R++[of]) (bi (gZ m (R++[of])) (x*(iM m of).length+y))=xH m R (bi (gZ m R) x)++[(iM m of).getD y 0]:=by have a:gZ m (R++[of])=gZ m R++[((iM m of).length:Int)]:=(by simp[gZ]);have hl:(gZ m R).length=R.length:=(by simp[gZ]);have b:(x*(iM m of).length+y)/(iM m of).length=x:=(by rw[zbP,Nat.add_mul_div_right _ _ (by omega),zaS h,zau]);have hr:(x*(iM m of).length+y)%(iM m of).length=y:=(by rw[zbP,Nat.add_mul_mod_self_right,zaT h]);unfold xH;rw[AT,zal];rw[show dL (R.length+1) (fun i=>(iM m ((R++[of]).getD i [])).getD ((bi (gZ m (R++[of])) (x*(iM m of).length+y)).getD i 0).toNat 0)=dL R.length (fun i=>(iM m ((R++[of]).getD i [])).getD ((bi (gZ m (R++[of])) (x*(iM m of).length+y)).getD i 0).toNat 0)++[(iM m ((R++[of]).getD R.length [])).getD ((bi (gZ m (R++[of])) (x*(iM m of).length+y)).getD R.length 0).toNat 0] from(azw _ _).symm];congr 1;refine n4 fun i hi=>?_;rw[xu (by rw[a,AT];omega),xu (by omega),a,apF (by omega),wt,b];rw[show(R++[of]).getD i []=R.getD i [] by rw[co,zaf hi,<-co]];rw[xu (by rw[a,AT,zal];omega),a];rw[show R.length=(gZ m R).length from hl.symm,apD];simp only[wt,hr];rw[show(R++[of]).getD (gZ m R).length []=of by rw[hl,co,zac (zae _),zaN];rfl]
theorem adM (m:Int):∀(k:Nat) (R:List U),R.length=k->gL (aU (gZ m R)) (fun n=>xH m R (bi (gZ m R) n))=vi m R
 |0,R,h=>by rw[zav h];rfl
 |k+1,R,h=>by obtain⟨R,of,rfl⟩:∃a of,R=a++[of]:=⟨R.dropLast,R.getLast (by intro e;rw[e] at h;simp at h),(zaw _).symm⟩;have b:=adM m k R (by simpa using h);have c:gZ m (R++[of])=gZ m R++[((iM m of).length:Int)]:=(by simp[gZ]);rw[UM,<-b,show aU (gZ m (R++[of]))=aU (gZ m R)*(iM m of).length by rw[c,Zx,wt],afo,List.flatMap_def];congr 1;rw[show(gL (aU (gZ m R)) fun n=>xH m R (bi (gZ m R) n)).map (fun l=>(iM m of).map fun x=>l++[x])=gL (aU (gZ m R)) (fun n=>(iM m of).map fun x=>xH m R (bi (gZ m R) n)++[x]) by unfold gL;rw[zb6];rfl];refine afl fun x _=>?_;rw[<-aru (fun v=>xH m R (bi (gZ m R) x)++[v]) (iM m of) 0];exact afl fun y hy=>ayK hy
structure PdF (D:U) (m:Int) (R:List U):Prop where
 l:(gZ m R).length=D.length
 get:∀i,i<D.length->(gZ m R).getD i 0=((iM m (R.getD i [])).length:Int)
 b:∀i,i<D.length->1<=(iM m (R.getD i [])).length/\((iM m (R.getD i [])).length:Int)<=D.getD i 0
 g:jl (gZ m R)
 p1:1<=aU (gZ m R)
 pD:aU (gZ m R)<=aU D
section
variable {D:U} {m:Int} {R:List U}
theorem ot.pd (H:ot D m R):PdF D m R:=by have d:=H.rl;have hl:(gZ m R).length=D.length:=(by simp only[gZ,AI];exact d);have a:∀i,i<D.length->(gZ m R).getD i 0=((iM m (R.getD i [])).length:Int):=fun i hi=>(by rw[co,gZ,zad,getD_some [] (show i<R.length by omega)];rfl);have hb:∀i,i<D.length->1<=(iM m (R.getD i [])).length/\((iM m (R.getD i [])).length:Int)<=D.getD i 0:=fun i hi=>(by have b:=H.row i hi;have h2:=H.yo hi;have h3:=ay0 m (R.getD i []);have h4:=ay1 (m:=m) (of:=R.getD i []) (by intro e;rw[e] at b;simp only[zay] at b;omega) (H.al i hi);omega);have c:∀x∈gZ m R,1<=x/\x<=8:=fun x hx=>(by obtain⟨i,hi,rfl⟩:=zba.1 hx;have e:(gZ m R)[i]=(gZ m R).getD i 0:=(by rw[co,so hi];rfl);have a1:=hb i (by omega);have a2:=H.yo (i:=i) (by omega);rw[e,a i (by omega)];omega);have iJ:=H.de;exact⟨hl,a,hb,⟨by omega,fun x hx=>by have:=c x hx;omega⟩,AW fun x hx=>(c x hx).1,Zy hl fun i hi=>by rw[a i (by omega)];have:=hb i (by omega);omega⟩
theorem H5 {P:U} (h:jl P) (n:Nat) {i:Nat} (hi:i<P.length):0<=(bi P n).getD i 0/\(bi P n).getD i 0<P.getD i 0:=by
 obtain⟨d,d1,a,b,d4,d5⟩:=OZ h hi;have c:(bi P n).getD i 0=((n/eR P (i+1)%d:Nat):Int):=by rw[xu hi];unfold fY;rw[b]
 have cu:=zbb (n/eR P (i+1)) (show 0<d by omega);rw[c,a];omega
theorem ot.ix (H:ot D m R) (n:Nat) {i:Nat} (hi:i<D.length):∃k:Nat,(bi (gZ m R) n).getD i 0=(k:Int)/\k<(iM m (R.getD i [])).length:=by have P:=H.pd;have:=H5 P.g n (i:=i) (by have:=P.l;omega);rw[P.get i hi] at this;exact⟨((bi (gZ m R) n).getD i 0).toNat,by omega,by omega⟩
theorem ayJ {ix:U} {i:Nat} (hi:i<R.length):(xH m R ix).getD i 0=(iM m (R.getD i [])).getD (ix.getD i 0).toNat 0:=by rw[co,xH,qd _ hi];rfl
theorem ot.pick (H:ot D m R) (n:Nat):pM R (xH m R (bi (gZ m R) n)):=by refine⟨gK _ _,fun i hi=>?_⟩;have HX:=H.rl;obtain⟨k,a,b⟩:=H.ix n (i:=i) (by omega);rw[ayJ hi,a,wt];exact ayZ (fR b)
end
theorem an3 {m:Int} {S:List U} {l:U} (h:l∈vi m S):∃n,l=xH m S (bi (gZ m S) n):=by rw[<-adM m S.length S rfl] at h;obtain⟨n,_,e⟩:=If.1 h;exact⟨n,e.symm⟩
theorem ary {r:Rg} {L D A:U} (a:gC r (L,D,A)=true) {o:Nat} (d:o<aU D):JY (r,(L,D,A),(o:Int))=some (fG A (o*az r) (az r)):=by obtain⟨hr,_,_,⟨sn,c⟩,hA,_,_,_,_⟩:=xQ a;have b:=ku hr;have hm:(o+1)*az r<=aU D*az r:=Pe _ d;have mD:aU D*az r<=4096*6:=IS c b.2.2;have:=show JY (r,(L,D,A),(o:Int))=_ from ah ⟨hr,by dsimp only;omega,by dsimp only;rw[wt];omega,by dsimp only;omega⟩;rw[this];simp only[wt]
theorem GW {m:Int} {D:U} {R:List U} (H:ot D m R) {ch:U} (h:ch∈r7 m R):pM R ch:=by obtain⟨n,e⟩:=an3 (zap.1 h).1;rw[e];exact H.pick n
section
def u5 (x:U):Nat->U
 |0=>[]
 |n+1=>u5 x n++x
def Hl (D:U):Prop:=D.length<=12/\(∀v∈D,1<=v/\v<=8)/\aU D<=4096
instance (D:U):Decidable (Hl D):=by unfold Hl;infer_instance
def xZ:Rg×U×U×U->Option T3:=fun x=>if x.2.1.length<=1048576/\Hl x.2.2.1/\x.2.2.2.length<=6 then some (x.2.1,x.2.2.1,u5 x.2.2.2 (aU x.2.2.1)) else none
def IC (r:Rg) (L:U) (R:List U) (ch:U) (b:Bk):Prop:=b.1=ch/\gC r b.2=true/\b.2.1=L/\b.2.2.1=kz R ch
instance (r:Rg) (L:U) (R:List U) (ch:U) (b:Bk):Decidable (IC r L R ch b):=by unfold IC;infer_instance
def b0:Bk:=([],[],[],[])
def agn (x:Rg×T3×qj×List Bk):Prop:=OC (x.2.1,x.2.2.1)/\x.2.2.2.length<=1048576/\∀b∈x.2.2.2,b.1.length<=1048576/\b.2.1.length<=1048576/\b.2.2.1.length<=1048576/\b.2.2.2.length<=1048576
instance (x:Rg×T3×qj×List Bk):Decidable (agn x):=by unfold agn;infer_instance
def TQ (NN:Nat):((Int×(Int×Int))×(U×(U×U)))->(Option (U×(U×U))):=
 (fun((i0,i1,i2),l3,l4,l5)=>
 (j7 l3).ab (fun l6=>
 (j7 l4).ab (fun l7=>
 (BE l4).ab (fun i8=>
 (ki (0:Int) (gY .i64 i8 (aM (ae l5))) 8).ab (fun k9=>
 cN ((bh 0 0 (ae (([]:U)))).ab (fun _=>
 (bh 0 0 (ae (([]:U)))).ab (fun _=>
 (bh 0 0 (ae (([]:U)))).ab (fun _=>
 aq l6 (
 aq l7 (
 (bh 0 k9 (ae (cj k9 (0:Int)))).ab (fun _=>
 cL NN (fun((cf,fN,e9),dw,dj,eQ,dn,dk,eG)=>
 aD (cI e9 fN)
 (aq eG (
 (lR (aw (ae eG) (ae cf)) 8).ab (fun _=>
 aq dw (
 aq dj (
 aq eQ (
 aq dn (
 aq dk (
 (bh 0 (aw (ae eG) (ae cf)) (ae (d6 eG cf))).ab (fun _=>
 some (AN ((cf,fN,bC .i64 e9 1),dw,dj,eQ,dn,dk,d6 eG cf)))))))))))
 ((aq dw (
 aq dj (
 aq eQ (
 aq dn (
 aq dk (
 aq eG (
 some (AN (dw,dj,eQ,dn,dk,eG))))))))).ab (fun fE=>
 some (IT fE))))
 ((l5,i8,(0:Int)),([]:U),([]:U),([]:U),l6,l7,cj k9 (0:Int)))))))))
 (fun(iu,eU,dY,gp,h9,gR)=>
 (cB gp (ae gp)).ab (fun iv=>
 (cB h9 (ae h9)).ab (fun ja=>
 (cB gR (ae gR)).ab (fun gX=>
 some (iv,ja,gX))))))))))
theorem akl (x:U):∀n,(u5 x n).length=n*x.length
 |0=>by simp[u5]
 |n+1=>by rw[u5,AT,akl x n,zab,zag]
theorem aqU (x:Rg×U×U×U) (y:T3) (h:xZ x=some y):TQ aP x=some y:=by obtain⟨⟨r1,r2,r3⟩,L,D,x⟩:=x;simp only[xZ] at h;split at h;rename_i d;obtain⟨hL,⟨b,hd,c⟩,hx⟩:=d;rw[<-h];have LC:gH=140737488355328:=rfl;have a:=AV (D:=D) fun v e=>(hd v e).1;have hm:aU D*x.length<=4096*6:=IS c hx;simp only[TQ,aq];rw[show j7 L=some L from ah (by omega)];simp only[bt];rw[show j7 D=some D from ah (by omega)];simp only[bt];rw[show BE D=some (fF D) from ah ⟨.inl b,hd⟩,a];simp only[bt];rw[nl,MD];rw[show ki 0 ((aU D*x.length:Nat):Int) 8=some 0 by unfold ki;rw[ah (by refine⟨by omega,by omega,?_⟩;simp only[gH];omega)];rfl];simp only[bt,bR];rw[show bh 0 0 (ae ([]:U))=some () from rfl,show bh 0 0 (ae (cj 0 (0:Int)))=some () from rfl];simp only[bt];rw[gw (fun i=>((x,((aU D:Nat):Int),(i:Int)),([]:U),([]:U),([]:U),L,D,u5 x i)) (aU D) (r:=AN (([]:U),([]:U),([]:U),L,D,u5 x (aU D))) ?a1 ?a2 ?a3 eZ];(case a1=>intro i hi;have mD:i*x.length<=4096*6:=IS (by omega) hx;dsimp only;rw[bL eD];(try simp only[bt,bR]);rw[w9 (by simp only[aw,ae];rw[akl];omega)];simp only[bt];rw[show bh 0 (aw (ae (u5 x i)) (ae x)) (ae (d6 (u5 x i) x))=some () from lU (by simp[aw,ae,d6])];simp only[bt];rw[ez];rfl);(case a2=>dsimp only;rw[aZ d7];try simp only[bt,bR]);(case a3=>rfl);simp only[cN,OF,gT,bt];cases h
theorem aay {a b n:Nat} (h1:a<=b) (h2:b<=n):jg (a:Int) (b:Int) n=some (a,b - a):=by unfold jg;rw[ah ⟨by omega,by omega,by omega⟩];congr 2;omega
variable {m:Int} {L K R:Nat} {X:fu} {d:U}
end
theorem Dz {w:Nat} {f g:Nat->Int} (h:∀j,j<w->f j=g j):gN w f=gN w g:=zar fun j hj=>h j (By.1 hj)
theorem axB {r:Int×Int×Int} (hr:bc r=true) (a b:Int):jf r a b=jf r b a:=by obtain⟨k,p,n⟩:=r;have e1:∀n:Int,jf (6,0,n) a b=((a.toNat|||b.toNat:Nat):Int)/\jf (6,0,n) b a=((b.toNat|||a.toNat:Nat):Int):=fun n=>⟨rfl,rfl⟩;rcases nk hr with⟨rfl,rfl,rfl⟩|⟨rfl,hp,rfl⟩|⟨rfl,hp,rfl⟩|⟨rfl,hp,rfl⟩|⟨rfl,hp,rfl⟩|⟨rfl,rfl,hn⟩|⟨rfl,hp,hn⟩|⟨rfl,hp,iR,rfl⟩;show((a.toNat|||b.toNat:Nat):Int)=((b.toNat|||a.toNat:Nat):Int);rw[zcg];show(a+b)%p=(b+a)%p;rw[zbi];show min (a+b) p=min (b+a) p;rw[zbi];show min a b=min b a;omega;show max a b=max b a;omega;show((a.toNat|||b.toNat:Nat):Int)=((b.toNat|||a.toNat:Nat):Int);rw[zcg];show(a+b)%p=(b+a)%p;rw[zbi];show(a+b)%p=(b+a)%p;rw[zbi]
theorem axA {r:Int×Int×Int} (hr:bc r=true) {a b c:Int} (ha:0<=a) (hb:0<=b) (hc:0<=c):jf r (jf r a b) c=jf r a (jf r b c):=by obtain⟨k,p,n⟩:=r;have e:((a+b)%p+c)%p=(a+(b+c)%p)%p:=(by rw[Int.emod_add_emod,Int.add_emod_emod,Int.add_assoc]);have d:(((((a.toNat|||b.toNat:Nat):Int).toNat|||c.toNat:Nat)):Int)=((a.toNat|||(((b.toNat|||c.toNat:Nat):Int)).toNat:Nat):Int):=(by rw[wt,wt,Nat.or_assoc]);rcases nk hr with⟨rfl,rfl,rfl⟩|⟨rfl,hp,rfl⟩|⟨rfl,hp,rfl⟩|⟨rfl,hp,rfl⟩|⟨rfl,hp,rfl⟩|⟨rfl,rfl,hn⟩|⟨rfl,hp,hn⟩|⟨rfl,hp,iR,rfl⟩;exact d;exact e;show min (min (a+b) p+c) p=min (a+min (b+c) p) p;omega;show min (min a b) c=min a (min b c);omega;show max (max a b) c=max a (max b c);omega;exact d;exact e;exact e
def z0 (r:Int×Int×Int):Int:=if r.1=4 then r.2.1 else 0
theorem KX {r:Int×Int×Int} (hr:bc r=true) {j:Nat} (hj:j<az r):cE (d9 r) j=z0 r:=by obtain⟨k,p,n⟩:=r;unfold d9 z0;by_cases h:k=4;subst h;have:az (4,p,n)=1:=rfl;have hj:j=0:=(by omega);subst hj;rfl;simp only[ak h];simp[cE,cj,hj]
theorem axD {r:Int×Int×Int} (hr:bc r=true) {a:Int} (ha:0<=a/\a<=cr r):jf r a (z0 r)=a:=by obtain⟨k,p,n⟩:=r;rcases nk hr with⟨rfl,rfl,rfl⟩|⟨rfl,hp,rfl⟩|⟨rfl,hp,rfl⟩|⟨rfl,hp,rfl⟩|⟨rfl,hp,rfl⟩|⟨rfl,rfl,hn⟩|⟨rfl,hp,hn⟩|⟨rfl,hp,iR,rfl⟩;show((a.toNat|||(0:Int).toNat:Nat):Int)=a;rw[show(0:Int).toNat=0 from rfl,zch];omega;have e:cr (2,p,0)=p - 1:=rfl;show(a+0)%p=a;rw[zbQ];exact zaZ ha.1 (by omega);have e:cr (3,p,0)=p:=rfl;show min (a+0) p=a;omega;have e:cr (4,p,0)=p:=rfl;show min a p=a;omega;show max a 0=a;omega;show((a.toNat|||(0:Int).toNat:Nat):Int)=a;rw[show(0:Int).toNat=0 from rfl,zch];omega;have e:cr (7,p,n)=p - 1:=rfl;show(a+0)%p=a;rw[zbQ];exact zaZ ha.1 (by omega);have e:cr (8,p,0)=p - 1:=rfl;show(a+0)%p=a;rw[zbQ];exact zaZ ha.1 (by omega)
theorem add_comm {r:Int×Int×Int} (hr:bc r=true) (x y:U):cA r x y=cA r y x:=Dz fun j _=>axB hr _ _
theorem add_assoc {r:Int×Int×Int} {x y z:U} (hr:bc r=true) (hx:bm r x=true) (hy:bm r y=true) (a:bm r z=true):cA r (cA r x y) z=cA r x (cA r y z):=by refine Dz fun j hj=>?_;rw[show cE (cA r x y) j=_ from vu _ hj,show cE (cA r y z) j=_ from vu _ hj];exact axA hr (vn hx hj).1 (vn hy hj).1 (vn a hj).1
theorem add_zero {r:Int×Int×Int} {x:U} (hr:bc r=true) (hx:bm r x=true):cA r x (d9 r)=x:=by
 have h:cA r x (d9 r)=gN (az r) (cE x):=Dz fun j hj=>by rw[KX hr hj];exact axD hr (vn hx hj)
 rw[h,NI (fJ hx)]
theorem zero_add {r:Int×Int×Int} {x:U} (hr:bc r=true) (hx:bm r x=true):cA r (d9 r) x=x:=by rw[add_comm hr,add_zero hr hx]
theorem anC {r:Int×Int×Int} (hr:bc r=true) (a:¬(r.1=7\/r.1=8)):d9 r=[z0 r]:=by have h:=NI (x:=d9 r) (w:=az r) (fJ (rh hr));rw[wD a] at h;rw[<-h];show[cE (d9 r) 0]=[z0 r];rw[KX hr (by rw[wD a];omega)]
theorem ai9 {r:Int×Int×Int} (hr:bc r=true) (b:¬(r.1=7\/r.1=8)) {a:Int} (ha:0<=a/\a<=cr r):kl r a (z0 r)=z0 r/\kl r (z0 r) a=z0 r:=by obtain⟨k,p,n⟩:=r;simp only at b;rcases nk hr with⟨rfl,rfl,rfl⟩|⟨rfl,hp,rfl⟩|⟨rfl,hp,rfl⟩|⟨rfl,hp,rfl⟩|⟨rfl,hp,rfl⟩|⟨rfl,rfl,hn⟩|⟨rfl,hp,hn⟩|⟨rfl,hp,iR,rfl⟩;constructor;show((a.toNat&&&(0:Int).toNat:Nat):Int)=0;rw[show(0:Int).toNat=0 from rfl,zb7];rfl;show(((0:Int).toNat&&&a.toNat:Nat):Int)=0;rw[show(0:Int).toNat=0 from rfl,zb8];rfl;constructor;show a*0%p=0;rw[zbR,zbs];show 0*a%p=0;rw[zbj,zbs];constructor;show min (a*0) p=0;rw[zbR];omega;show min (0*a) p=0;rw[zbj];omega;constructor;show min (a+p) p=p;omega;show min (p+a) p=p;omega;constructor;show min a 0=0;omega;show min 0 a=0;omega;constructor;show((a.toNat&&&(0:Int).toNat:Nat):Int)=0;rw[show(0:Int).toNat=0 from rfl,zb7];rfl;show(((0:Int).toNat&&&a.toNat:Nat):Int)=0;rw[show(0:Int).toNat=0 from rfl,zb8];rfl;exact absurd (.inl rfl) b;exact absurd (.inr rfl) b
theorem agr {om:Bool} {w:Nat} {x y:Nat->Int} (t:Nat) {i j:Nat} (h:x i=0\/y j=0):kW om x y t i j=0:=by unfold kW;have e:x i*y j=0:=(by rcases h with h|h<;>simp[h]);split;exact e;split;rw[e];rfl;rfl
theorem S2 {r:Int×Int×Int} (hk:r.1=7\/r.1=8):z0 r=0:=by unfold z0;rw[ak (by omega)]
theorem SF {r:Int×Int×Int} (hr:bc r=true):gN (az r) (fun _=>z0 r)=d9 r:=by have h:=NI (x:=d9 r) (w:=az r) (fJ (rh hr));rw[<-h];exact Dz fun j hj=>(KX hr hj).symm
theorem mul_zero {r:Int×Int×Int} {x:U} (hr:bc r=true) (hx:bm r x=true):dg r x (d9 r)=d9 r:=by by_cases a:r.1=7\/r.1=8;rw[uo a,<-SF hr];refine Dz fun t ht=>?_;rw[Dp _ fun i hi=>Dp _ fun j hj=>agr (w:=az r) t (.inr (by rw[SF hr,KX hr hj,S2 a])),S2 a];exact zbs _;have c:=wD a;have b:=zW hx c;rw[b.1,anC hr a,oJ a,(ai9 hr a b.2).1]
theorem zero_mul {r:Int×Int×Int} {x:U} (hr:bc r=true) (hx:bm r x=true):dg r (d9 r) x=d9 r:=by by_cases a:r.1=7\/r.1=8;rw[uo a,<-SF hr];refine Dz fun t ht=>?_;rw[Dp _ fun i hi=>Dp _ fun j hj=>agr (w:=az r) t (.inl (by rw[SF hr,KX hr hi,S2 a])),S2 a];exact zbs _;have c:=wD a;have b:=zW hx c;rw[b.1,anC hr a,oJ a,(ai9 hr a b.2).2]
def Ud (NN:Nat):((U×(U×U))×U)->(Option U):=
 (fun((l0,l1,l2),l3)=>
 (ki (aM (ae l3)) (aM (ae l3)) 8).ab (fun k4=>
 cN ((bh 0 k4 (ae (cj k4 (0:Int)))).ab (fun _=>
 cL NN (fun((l5,i6,i7),(l8,l9,cf),eC)=>
 aD (ic (0:Int) i7)
 (cN (cN (aq eC (
 cL NN (fun((de,gm,ft,eQ,fy,eP),(eG,fE,iu),eU)=>
 aD (cI eP fy)
 ((cV eQ eP).ab (fun kO=>
 (cV eG ft).ab (fun iq=>
 aD (bq kO iq)
 ((cM eP (ae eU)).ab (fun Yu=>
 (bW eU (aw 0 Yu)).ab (fun mI=>
 (bh 0 (ae eU) (ae (be eU (aw 0 Yu) gm))).ab (fun _=>
 some (AN ((de,gm,ft,eQ,fy,bC .i64 eP 1),(eG,fE,iu),be eU (aw 0 Yu) gm))))))
 (aq eU (
 some (AN ((de,gm,ft,eQ,fy,bC .i64 eP 1),(eG,fE,iu),eU)))))))
 ((aq eU (
 some (AN ((gm,ft,de),(eG,fE,iu),eU)))).ab (fun iv=>
 some (IT iv))))
 ((l5,i6,i7,l5,aM (ae l5),(0:Int)),(l8,l9,cf),eC)))
 (fun((iS,pW,iT),(kQ,kE,uU),pj)=>
 (cV kE pW).ab (fun kf=>
 aq pj (
 some (AN ((pW,iT,gY .i64 iS kf),(kQ,kE,uU),pj))))))
 (fun((lA,jw,EP),(nW,tD,qN),jm)=>
 aq jm (
 some (AN ((jw,EP,jE .i64 lA 1),(nW,tD,qN),jm)))))
 ((aq eC (
 some (AN eC))).ab (fun p9=>
 some (IT p9))))
 ((l3,(1:Int),jE .i64 (aM (ae l1)) (1:Int)),(l0,l1,l2),cj k4 (0:Int))))
 (fun jb=>
 (cB jb (ae jb)).ab (fun mK=>
 some mK))))
theorem abj {D:U} (h:jl D) {i:Nat} (hi:i<=D.length):eR D i<=aU D:=by have:=abi (D:=D) (i:=0) (j:=i) (za0 i) hi;rw[SG] at this;exact Nat.le_of_dvd (AW fun x hx=>(h.2 x hx).1) this
theorem aoi {L:U} {v:Int} (hn:L.Nodup) {k:Nat} (a:k<L.length):v=L.getD k 0↔bA L v=k:=by constructor;intro e;rw[e,kR hn a];intro e;have hp:bA L v<L.length:=(by omega);have:=zbB (w:=hp);have c:L[bA L v]=v:=of_decide_eq_true this;have b:L.getD k 0=L[k]:=(by rw[co,so a];rfl);rw[b];subst e;exact c.symm
theorem o9 {l:U} {i:Nat} (h:i<l.length:=by omega):l[i]? =some (l.getD i 0):=by rw[co,so h];rfl
theorem Na (n:Nat):cj n (0:Int)=dL n fun _=>0:=by apply zaF;intro i;by_cases hi:i<n;rw[qd _ hi];show(zan n (0:Int))[i]? =_;rw[zaW,ah hi];rw[Pd (by show(zan n (0:Int)).length<=i;simp;omega),Pd (by rw[gK];omega)]
def oQ (L D S:U) (j q:Nat) (i:Nat):Int:=if(i<q/\bA L (S.getD i 0)+1=D.length - j)\/(D.length - j<=bA L (S.getD i 0)/\bA L (S.getD i 0)<D.length) then((eR D (bA L (S.getD i 0)+1):Nat):Int) else 0
theorem aq9 (x:T3×U) (y:U) (h:vf x=some y):Ud aP x=some y:=by
 obtain⟨⟨L,D,A⟩,S⟩:=x;simp only[vf] at h;split at h
 ·rename_i a;rw[<-h];obtain⟨ha,z,hp⟩:=a
  try dsimp only at ha z hp
  obtain⟨iJ,hl,_⟩:=mA ha;have c:=wS ha;have B:=wT ha;have o:jl D:=⟨by omega,fun x hx=>by have:=c x hx;omega⟩;simp only[Ud,aq];rw[zf (by simp only[ae,gH];omega)]
  try simp only[bt]
  rw[show bh 0 (ae S) (ae (cj (ae S) (0:Int)))=some () from lU (by simp[ae,cj])]
  try simp only[bt]
  rw[gw (r:=AN (qV L D S)) (fun j=>((S,((eR D (D.length - j):Nat):Int),(D.length:Int) - 1 - (j:Int)),(L,D,A),dL S.length (oQ L D S j 0))) D.length ?a1 ?a2 ?a3 eZ]
  case a3=>
   rw[n8 (by show _<=((ae D:Nat):Int) - 1;omega) (by show((ae D:Nat):Int) - 1<=_;unfold ae;omega),Na];rw[show D.length - 0=D.length from rfl,xO]
   rw[show dL S.length (oQ L D S 0 0)=dL (ae S) (fun _=>0) from n4 fun i hi=>by
    unfold oQ;rw[ak (by omega)]]
   show _=((S,((1:Nat):Int),(D.length:Int) - 1 - ((0:Nat):Int)),(L,D,A),_);rw[show(D.length:Int) - 1 - ((0:Nat):Int)=(D.length:Int) - 1 by omega];rfl
  case a2=>
   dsimp only
   rw[show ic (0:Int) ((D.length:Int) - 1 - (D.length:Int))=false from decide_eq_false (by omega),aZ rfl]
   try simp only[bR,bt]
   rw[show dL S.length (oQ L D S D.length 0)=qV L D S from n4 fun i hi=>by
     unfold oQ;by_cases a:bA L (S.getD i 0)<L.length
     ·rw[ah (by omega),ah a]
     ·rw[ak (by omega),ak a]]
  case a1=>
   intro j hj;dsimp only
   rw[bL CW]
   try simp only[bR,bt]
   have w:((D.length:Int) - 1 - (j:Int))=((D.length - 1 - j:Nat):Int):=by omega
   rw[w];have hdk:=c _ (fR (l:=D) (i:=D.length - 1 - j) (by omega));rw[gw (r:=AN ((((eR D (D.length - j):Nat):Int),((D.length - 1 - j:Nat):Int),S),(L,D,A),dL S.length (oQ L D S (j+1) 0))) (fun q=>((S,((eR D (D.length - j):Nat):Int),((D.length - 1 - j:Nat):Int),S,(S.length:Int),(q:Int)),(L,D,A),dL S.length (oQ L D S j q))) S.length ?b1 ?b2 ?b3 eZ]
   case b3=>rfl
   case b2=>
    dsimp only
    rw[aZ d7]
    try simp only[bR,bt]
    rw[show dL S.length (oQ L D S j S.length)=dL S.length (oQ L D S (j+1) 0) from n4 fun i hi=>by
     unfold oQ;by_cases a:(i<S.length/\bA L (S.getD i 0)+1=D.length - j)\/(D.length - j<=bA L (S.getD i 0)/\bA L (S.getD i 0)<D.length)
     ·rw[ah a,ah (by omega)]
     ·rw[ak a,ak (by omega)]]
   case b1=>
    intro q m;dsimp only
    rw[bL eD,fC,fC,o9 m,o9 (l:=L) (i:=D.length - 1 - j) (by omega)]
    try simp only[bt]
    rw[ez];have p:=aoi (v:=S.getD q 0) B (k:=D.length - 1 - j) (by omega);by_cases f:S.getD q 0=L.getD (D.length - 1 - j) 0
    ·have s:=p.1 f;rw[bL (by unfold bq;exact beq_iff_eq.2 f),GX _ m]
     try simp only[bt,mw]
     rw[Ld _ m]
     try simp only[bt]
     rw[Nb,show bh 0 (ae (dL S.length (oQ L D S j q))) (ae (dL S.length fun i=>if i=q then((eR D (D.length - j):Nat):Int) else oQ L D S j q i))=some () from Cb _ _ _]
     try simp only[bt]
     rw[show dL S.length (fun i=>if i=q then((eR D (D.length - j):Nat):Int) else oQ L D S j q i)=dL S.length (oQ L D S j (q+1)) from n4 fun i hi=>by
      by_cases b:i=q
      ·subst b;rw[ah rfl];unfold oQ;rw[ah (by omega),s,show D.length - 1 - j+1=D.length - j by omega]
      ·rw[ak b];unfold oQ;by_cases a:(i<q/\bA L (S.getD i 0)+1=D.length - j)\/(D.length - j<=bA L (S.getD i 0)/\bA L (S.getD i 0)<D.length)
       ·rw[ah a,ah (by omega)]
       ·rw[ak a,ak (by omega)]]
     rfl
    ·have s:bA L (S.getD q 0)≠D.length - 1 - j:=fun e=>f (p.2 e);rw[aZ (by simp only[bq,beq_eq_false_iff_ne,ne_eq];exact f)]
     try simp only[bR,bt]
     rw[show dL S.length (oQ L D S j (q+1))=dL S.length (oQ L D S j q) from n4 fun i hi=>by
      unfold oQ;by_cases a:(i<q/\bA L (S.getD i 0)+1=D.length - j)\/(D.length - j<=bA L (S.getD i 0)/\bA L (S.getD i 0)<D.length)
      ·rw[ah a,ah (by omega)]
      ·rw[ak a,ak (by
        intro C;apply a;rcases C with⟨c1,g⟩|g
        ·left;refine⟨?_,g⟩;have:i≠q:=by intro e;subst e;omega
         omega
        ·exact .inr g)]]
     rfl
   simp only[cN,OF];rw[fC,o9 (l:=D) (i:=D.length - 1 - j) (by omega)]
   try simp only[bt,bR]
   obtain⟨d,d1,u,t,d4,d5⟩:=OZ o (i:=D.length - 1 - j) (by omega);have n:eR D (D.length - 1 - j)=d*eR D (D.length - 1 - j+1):=by rw[F5 (by omega),t]
   rw[show D.length - 1 - j+1=D.length - j by omega] at n;have io:=abj o (i:=D.length - 1 - j) (by omega);rw[u,tK (by rw[<-zat];omega) (by rw[<-zat,zaB,<-n];omega),n8,<-zat,zaB,<-n];show some (AN _)=some (AN ((S,((eR D (D.length - (j+1)):Nat):Int),(D.length:Int) - 1 - ((j+1:Nat):Int)),(L,D,A),dL S.length (oQ L D S (j+1) 0)));rw[show D.length - (j+1)=D.length - 1 - j by omega,show(D.length:Int) - 1 - ((j+1:Nat):Int)=((D.length - 1 - j:Nat):Int) - 1 by omega]
  simp only[cN,OF,gT,bt]
 ·cases h
def ams (s:BQ):Prop:=(0<=s.1/\s.1<=4096)/\(0<=s.2.1/\s.2.1<=4096)/\(0<=s.2.2.1/\s.2.2.1<=4096)
instance (s:BQ):Decidable (ams s):=by unfold ams;infer_instance
def acy (m:Int) (s t:BQ) (x:Int×Int×U):Prop:=x.1=s.2.1*t.2.1/\x.2.1=s.2.1*t.2.1/\s.1*s.2.1<=64/\t.2.1*t.2.2.1<=64
instance (m:Int) (s t:BQ) (x:Int×Int×U):Decidable (acy m s t x):=by unfold acy;infer_instance
section
variable {A1 A2 A3 A4 A5 X Y Z T ρ:Type} {p:Int} {n N k:Nat} {a b:U} {ms:List nv}
theorem aro {α:Type} (l r:List α):bh 0 (aw (ae l) (ae r)) (ae (d6 l r))=some ():=lU (by simp[aw,ae,d6])
end
def T5 (NN:Nat):((Int×(Int×Int))×((U×(U×U))×U))->(Option (U×(U×U))):=
 (fun((i0,i1,i2),(l3,l4,l5),l6)=>
 (j7 l6).ab (fun l7=>
 (ki (aM (ae l6)) (aM (ae l6)) 8).ab (fun k8=>
 cN ((bh 0 0 (ae (([]:U)))).ab (fun _=>
 (bh 0 0 (ae (([]:U)))).ab (fun _=>
 (bh 0 0 (ae (([]:U)))).ab (fun _=>
 aq l7 (
 (bh 0 k8 (ae (cj k8 (0:Int)))).ab (fun _=>
 (bh 0 0 (ae (([]:U)))).ab (fun _=>
 cL NN (fun((l9,cf,fN,e9),(gm,ft,jO),(dn,dk,eG),fE,iu,eU,dY,gp,h9)=>
 aD (cI e9 fN)
 ((cV cf e9).ab (fun mI=>
 (xY ((dn,dk,eG),mI)).ab (fun jv=>
 (cV dk jv).ab (fun iS=>
 (cM e9 (ae gp)).ab (fun tB=>
 (bW gp (aw 0 tB)).ab (fun qK=>
 aq fE (
 aq iu (
 aq eU (
 aq dY (
 (bh 0 (ae gp) (ae (be gp (aw 0 tB) iS))).ab (fun _=>
 aq h9 (
 some (AN ((l9,cf,fN,bC .i64 e9 1),(gm,ft,jO),(dn,dk,eG),fE,iu,eU,dY,be gp (aw 0 tB) iS,h9))))))))))))))
 ((aq fE (
 aq iu (
 aq eU (
 aq dY (
 aq gp (
 aq h9 (
 some (AN (l9,(gm,ft,jO),(dn,dk,eG),fE,iu,eU,dY,gp,h9))))))))).ab (fun kQ=>
 some (IT kQ))))
 ((l6,l6,aM (ae l6),(0:Int)),(i0,i1,i2),(l3,l4,l5),([]:U),([]:U),([]:U),l7,cj k8 (0:Int),([]:U)))))))))
 (fun(kE,(lp,oE,kf),(pn,jw,jZ),nW,tD,qN,jm,p9,jb)=>
 (vf ((pn,jw,jZ),kE)).ab (fun mK=>
 (ki (aM (ae kE)) (aM (ae kE)) 8).ab (fun YC=>
 aq mK (
 (bh 0 YC (ae (cj YC (0:Int)))).ab (fun _=>
 aq nW (
 aq tD (
 aq qN (
 aq jm (
 aq p9 (
 aq jb (
 cL NN (fun((tw,vJ,vK),(xy,sx,rE),qO,rF,xz,xA,uV,tE,rG,sC)=>
 (cg rG 0 (ae rG)).ab (fun xB=>
 (cg sC 0 (ae sC)).ab (fun CR=>
 (wH (xB,CR)).ab (fun vL=>
 (wI ((tw,vJ,vK),(xy,sx,rE),vL)).ab (fun sD=>
 aq tE (
 (lR (aw (ae tE) (ae sD)) 8).ab (fun _=>
 (cg uV 0 (ae uV)).ab (fun l64=>
 aq sC (
 (vd (l64,sC)).ab (fun(b65,Fg)=>
 aD (dz b65)
 (((cB xA (ae xA)).ab (fun xC=>
 (cB uV (ae uV)).ab (fun Ie=>
 (cB (d6 tE sD) (aw (ae tE) (ae sD))).ab (fun Ig=>
 some (xC,Ie,Ig))))).ab (fun((CS,CT,uW):(U×(U×U)))=>
 some (IT (CS,CT,uW))))
 (aq rG (
 (bh 0 (ae sC) (ae Fg)).ab (fun _=>
 aq qO (
 aq rF (
 aq xz (
 aq xA (
 aq uV (
 (bh 0 (aw (ae tE) (ae sD)) (ae (d6 tE sD))).ab (fun _=>
 some (AN ((tw,vJ,vK),(xy,sx,rE),qO,rF,xz,xA,uV,d6 tE sD,rG,Fg)))))))))))))))))))))
 ((lp,oE,kf),(pn,jw,jZ),nW,tD,qN,jm,p9,jb,mK,cj YC (0:Int))))))))))))))))
theorem aBe {r:Rg} {L D A:U} (h:gC r (L,D,A)=true):mz L D=true/\fF D<=4096:=by simp only[gC,GB,decide_eq_true_eq] at h;obtain⟨h1,a,h3,h4⟩:=h;by_cases ha:mz L D=true/\fF D<=4096;exact ha;have e:iF L D= -1:=ak ha;rw[e] at a;exact absurd a (by decide)
theorem acH (r:Rg) (A:U) (off:Nat->Nat):∀n,(wV r A off n).length<=n*az r
 |0=>by simp[wV]
 |n+1=>by have ih:=acH r A off n;unfold wV;rw[AT,zab,zag];have:(fG A (off n*az r) (az r)).length<=az r:=(by unfold fG;rw[IN];omega);omega
theorem axu {L D S:U} (I:mq L D S) (n:Nat):sN (fun i=>((bi (iz L D S) n).getD i 0).toNat*((wv L D S).getD i 0).toNat) (wv L D S).length=oL L D S n:=by rw[show(wv L D S).length=S.length from gK _ _];unfold oL;refine Ng _ fun i hi=>?_;rw[xu (by unfold iz;rw[gK];exact hi)];unfold gP;rw[kR I.nS hi];congr 1;unfold wv;rw[co,qd _ hi];exact wt _
theorem aAV {L D S:U} (I:mq L D S) (hp:aU D<=4096):I7 (wv L D S) 1048576:=by refine⟨by unfold wv;rw[gK,I.Ny];exact I.de,fun x hx=>?_⟩;obtain⟨i,hi,rfl⟩:=If.1 hx;have h1:=I.DW (By.1 hi);have:=abj I.jl (i:=bA L (S.getD i 0)+1) (by have:=I.len;omega);omega
theorem as5 {L D S:U} (I:mq L D S) (n:Nat):I7 (bi (iz L D S) n) 8:=by
 refine⟨by unfold bi iz;rw[gK,gK,I.Ny];exact I.de,fun x hx=>?_⟩;obtain⟨i,hi,rfl⟩:=If.1 hx;have hi:i<S.length:=by have:=By.1 hi;unfold iz at this;rwa[gK] at this
 have h1:=I.ady n hi;have h2:=I.yo _ (fR (l:=D) (i:=bA L (S.getD i 0)) (by have:=I.DW hi;have:=I.len;omega));omega
theorem aop {L D A S:U} (I:mq L D S) {i:Nat} (hi:i<S.length):tg L (S.getD i 0)=((bA L (S.getD i 0):Nat):Int):=ah (I.DW hi)
def Fv (L D S:U) (j:Nat) (i:Nat):Int:=if i<j then D.getD (bA L (S.getD i 0)) 0 else 0
theorem aAU {L D S:U} (I:mq L D S):qV L D S=wv L D S:=n4 fun i hi=>ah (I.DW hi)
theorem aq6 (x:Rg×T3×U) (y:T3) (h:Gu x=some y):T5 aP x=some y:=by
 obtain⟨⟨k,p,m⟩,⟨L,D,A⟩,S⟩:=x;simp only[Gu,abN] at h;split at h
 ·rename_i J;rw[<-h];obtain⟨u,C⟩:=J
  try dsimp only at u C
  have B:=(aBe u).1;have I:=mq.mk' B C;obtain⟨hr,⟨hl,hd⟩,LR,⟨sn,s⟩,hA,hD,lV,hpI,_⟩:=xQ u;have w:=ku hr;have iJ:=I.de;have PJ:=I.len;have jN:=I.Ny;have d:=I.prod;have c:=I.apJ;have E:(iz L D S).length=S.length:=gK _ _;simp only[T5,aq];rw[show j7 S=some S from ah (by omega)]
  simp only[bt];rw[zf (by simp only[ae,gH];omega)];simp only[bt,bR];rw[show bh 0 0 (ae ([]:U))=some () from rfl,show bh 0 (ae S) (ae (cj (ae S) (0:Int)))=some () from lU (by simp[ae,cj])]
  simp only[bt];rw[gw (r:=AN (S,(k,p,m),(L,D,A),([]:U),([]:U),([]:U),S,iz L D S,([]:U))) (fun j=>((S,S,(S.length:Int),(j:Int)),(k,p,m),(L,D,A),([]:U),([]:U),([]:U),S,dL S.length (Fv L D S j),([]:U))) S.length ?a1 ?a2 ?a3 eZ]
  case a3=>
   rw[Na];rfl
  case a2=>
   dsimp only
   rw[aZ d7]
   try simp only[bR,bt]
   rw[show dL S.length (Fv L D S S.length)=iz L D S from n4 fun i hi=>ah hi]
  case a1=>
   intro i hi;dsimp only
   have eN:=I.DW hi;rw[bL eD,fC,o9 hi];simp only[bt];rw[show xY ((L,D,A),S.getD i 0)=some (tg L (S.getD i 0)) from ah (by dsimp only;omega),aop (A:=A) I hi]
   simp only[bt];rw[fC,o9 (l:=D) (i:=bA L (S.getD i 0)) (by omega)];simp only[bt];rw[GX _ hi];simp only[bt,mw];rw[Ld _ hi];simp only[bt,bR];rw[Nb,show bh 0 (ae (dL S.length (Fv L D S i))) (ae (dL S.length fun q=>if q=i then D.getD (bA L (S.getD i 0)) 0 else Fv L D S i q))=some () from Cb _ _ _]
   simp only[bt];rw[ez];rw[show dL S.length (fun q=>if q=i then D.getD (bA L (S.getD i 0)) 0 else Fv L D S i q)=dL S.length (Fv L D S (i+1)) from n4 fun q hq=>by
    unfold Fv;by_cases v:q=i
    ·subst v;rw[ah rfl,ah (by omega)]
    ·rw[ak v];by_cases z:q<i
     ·rw[ah z,ah (by omega)]
     ·rw[ak z,ak (by omega)]]
   rfl
  simp only[cN,OF];rw[show vf ((L,D,A),S)=some (wv L D S) from(ah ⟨B,by dsimp only;have:=I.Ny;have:=I.de;omega,s⟩).trans (congrArg some (aAU I))]
  simp only[bt];rw[zf (by simp only[ae,gH];omega)];simp only[bt,bR];rw[show bh 0 (ae S) (ae (cj (ae S) (0:Int)))=some () from lU (by simp[ae,cj])]
  simp only[bt];have g:cj (ae S) (0:Int)=bi (iz L D S) 0:=by
   have:=as3 c;rw[show ae (iz L D S)=ae S from E] at this
   exact this
  have a:∀n,n<aU D->wH (wv L D S,bi (iz L D S) n)=some ((oL L D S n:Nat):Int)/\wI ((k,p,m),(L,D,A),((oL L D S n:Nat):Int))=some (fG A (oL L D S n*az (k,p,m)) (az (k,p,m)))/\
    lR (aw (ae (wV (k,p,m) A (oL L D S) n)) (ae (fG A (oL L D S n*az (k,p,m)) (az (k,p,m))))) 8=some ()/\vd (iz L D S,bi (iz L D S) n)=some (decide (n+1<aU D),bi (iz L D S) (n+1)):=by
   intro n hn;have K:=I.ai6 n;refine⟨?_,?_,?_,?_⟩
   ·rw[<-axu I n];exact ah ⟨(aAV I s).m,(as5 I n).m,by show(wv L D S).length=(bi (iz L D S) n).length;unfold wv bi;rw[gK,gK,E]⟩
   ·have H:(oL L D S n+1)*az (k,p,m)<=aU D*az (k,p,m):=Pe _ K;have G:aU D*az (k,p,m)<=4096*6:=IS s w.2.2;rw[show wI ((k,p,m),(L,D,A),((oL L D S n:Nat):Int))=_ from ah ⟨hr,by dsimp only;omega,by dsimp only;rw[wt];omega,by dsimp only;omega⟩]
    rfl
   ·have H:=acH (k,p,m) A (oL L D S) n;have G:n*az (k,p,m)<=4096*6:=IS (by omega) w.2.2;have h3:(fG A (oL L D S n*az (k,p,m)) (az (k,p,m))).length<=6:=by unfold fG;rw[IN];omega
    exact w9 (by simp only[aw,ae,gH];omega)
   ·have:=axi c (n:=n) (by rw[d];exact hn) (by rw[d];omega);rw[d] at this;exact this
  rw[g];rw[gw (r:=Q7 (k,p,m) (L,D,A) S) (fun n=>((k,p,m),(L,D,A),([]:U),([]:U),([]:U),S,iz L D S,wV (k,p,m) A (oL L D S) n,wv L D S,bi (iz L D S) n)) (aU D - 1) ?b1 ?b2 ?b3 eZ]
  case b3=>rfl
  case b2=>
   obtain⟨t,e,f,o⟩:=a (aU D - 1) (by omega);dsimp only
   simp only[fP,bR,bt];rw[t];simp only[bt];rw[e];simp only[bt];rw[f];simp only[bt];rw[o];simp only[bt];rw[decide_eq_false (by omega),bL (b:=dz false) rfl];simp only[gT,bt];rw[aA4 (by simp[aw,ae,d6])];simp only[bt];show some (IT (S,iz L D S,wV (k,p,m) A (oL L D S) (aU D - 1)++fG A (oL L D S (aU D - 1)*az (k,p,m)) (az (k,p,m))))=some (IT (S,iz L D S,wV (k,p,m) A (oL L D S) (aU (iz L D S))));rw[d];obtain⟨N,F⟩:∃N,aU D=N+1:=⟨aU D - 1,by omega⟩;rw[F];rfl
  case b1=>
   intro n hn;obtain⟨t,e,f,o⟩:=a n (by omega);dsimp only
   simp only[fP,bR,bt];rw[t];simp only[bt];rw[e];simp only[bt];rw[f];simp only[bt];rw[o];simp only[bt];rw[decide_eq_true (by omega),aZ (b:=dz true) rfl];rw[show bh 0 (ae (bi (iz L D S) n)) (ae (bi (iz L D S) (n+1)))=some () from by unfold bi;exact Cb _ _ _]
   simp only[bt];rw[aro];rfl
 ·cases h
theorem zY {l a:U} (hl:l.length=a.length) (h:∀k,k<l.length->l.getD k 0=a.getD k 0):l=a:= List.ext_getElem hl fun k b c=>by have:=h k b;rw[co,co,so b,so c] at this;exact this
theorem ayS {f:U} {v:Int} (h:bA f v<f.length):f[bA f v]? =some v:=by rw[so h];have:=zbB (w:=h);congr 1;exact of_decide_eq_true this
theorem bz {α β:Type} (x:α) (f:α->Option β):(some x).ab f=f x:=by
 have h:∀o:Option α,o=some x->o.ab f=f x:=by intro o h;subst h;rfl
 exact h _ rfl
theorem mX {α:Type} (x y:α):aD true x y=x:=rfl
theorem mW {α:Type} (x y:α):aD false x y=y:=rfl
def jL (a b:U):U:=a++b.filter fun x=> !decide (x∈a)
def jd (La Da Lb Db:U) (v:Int):Int:=if bA La v<La.length then Da.getD (bA La v) 0 else Db.getD (bA Lb v) 0
theorem xI {l:U} {v:Int}:bA l v<l.length↔v∈l:=by constructor;intro h;exact BY (ayS h);exact gI
theorem AA {a b:U} {v:Int} (h:v∈jL a b):v∈a\/v∈b:=by unfold jL at h;rcases zao.1 h with h|h;exact .inl h;exact .inr (zap.1 h).1
theorem ai1 {D1 D2 i1 i2:U} (h:i1.length=D1.length):∀j,j<=D1.length->jD (D1++D2) (i1++i2) j=jD D1 i1 j
 |0,_=>rfl
 |j+1,hj=>by simp only[jD];rw[ai1 h j (by omega)];simp only[co];rw[zaf (by omega),zaf (by omega)]
theorem ajW (a b:U):aU (a++b)=aU a*aU b:=by induction a with|nil=>simp[aU]|cons x a c=>simp only[za7,aU,c,zaU]
theorem ai0 {D1 D2 i1 i2:U} (h:i1.length=D1.length):∀j,j<=D2.length->jD (D1++D2) (i1++i2) (D1.length+j)=jD D1 i1 D1.length*aU (D2.take j)+jD D2 i2 j
 |0,_=>by rw[zbk,ai1 h _ (zae _)];simp[aU,jD]
 |j+1,hj=>by show jD (D1++D2) (i1++i2) (D1.length+j)*((D1++D2).getD (D1.length+j) 0).toNat+((i1++i2).getD (D1.length+j) 0).toNat=_;rw[ai0 h j (by omega)];have e:D2.take (j+1)=D2.take j++[D2.getD j 0]:=(by rw[zaQ,o9];rfl);have a:(D1++D2).getD (D1.length+j) 0=D2.getD j 0:=(by simp only[co];rw[zac (by omega),zaq]);have b:(i1++i2).getD (D1.length+j) 0=i2.getD j 0:=(by simp only[co];rw[zac (by omega),h,zaq]);rw[e,ajW,a,b];simp only[aU,jD,zbr];rw[zab,zaU,zb4]
def jC (D ix:U):Nat:=jD D ix D.length
theorem aiZ {D1 D2 i1 i2:U} (h:i1.length=D1.length):jC (D1++D2) (i1++i2)=jC D1 i1*aU D2+jC D2 i2:=by unfold jC;rw[AT,ai0 h _ (zae _),zak]
theorem MK (d x:Int):jC [d] [x]=x.toNat:=by show 0*_+_=_;rw[zb9,zau];rfl
theorem ML {D:U} (a:jl D) {n:Nat} (hn:n<aU D):jC D (bi D n)=n:=by unfold jC;rw[Za a hn _ (zae _),xO,zcf]
def lP (J I:U) (v:Int):Int:=I.getD (bA J v) 0
theorem aA0 {L J:U} (hL:L.Nodup) (e:J.Nodup) (hs:∀v∈L,v∈J) {g:Int->Nat} (f:∀v,v∉L->g v=0):(J.map g).sum=(L.map g).sum:=by have d:∀l:U,(l.map g).sum=((l.filter fun v=>decide (v∈L)).map g).sum:=(by intro l;induction l with|nil=>rfl|cons a l c=>by_cases b:a∈L;rw[zaH (by simpa using b),zaP,zbI,zaP,zbI,c];rw[zaI (by simpa using b),zaP,zbI,c,f a b,zau]);rw[d J];refine List.Perm.sum_nat (List.Perm.map g ((zaR (e.filter _) hL).2 fun v=>?_));rw[zap];exact⟨fun h=>by simpa using h.2,fun h=>⟨hs v h,by simpa using h⟩⟩
def lQ (L D J I:U):Nat:=sN (fun i=>(I.getD i 0).toNat*((qV L D J).getD i 0).toNat) (qV L D J).length
theorem Eg {L D J I:U} (hL:L.Nodup) (b:J.Nodup) (hs:∀v∈L,v∈J) (hl:L.length=D.length) (hI:I.length=J.length):lQ L D J I=jC D (L.map (lP J I)):=by
 have a:(qV L D J).length=J.length:=gK _ _;let g:Int->Nat:=fun v=>(lP J I v).toNat*(if bA L v<L.length then eR D (bA L v+1) else 0)
 have d:lQ L D J I=(J.map g).sum:=by
  unfold lQ;rw[a,<-Rr g J];refine Ng _ fun i hi=>?_;show _=(I.getD (bA J (J.getD i 0)) 0).toNat*_;rw[kR b hi];congr 1;unfold qV;rw[co,qd _ hi];show(if bA L (J.getD i 0)<L.length then((eR D (bA L (J.getD i 0)+1):Nat):Int) else 0).toNat=_
  split
  ·exact wt _
  ·rfl
 have e:jC D (L.map (lP J I))=(L.map g).sum:=by
  unfold jC;have:=Zb (D:=D) (ix:=L.map (lP J I)) D.length (zae _);rw[xO,zbr] at this;rw[this,<-Rr g L,<-hl];refine Ng _ fun i hi=>?_;show _=(lP J I (L.getD i 0)).toNat*(if bA L (L.getD i 0)<L.length then eR D (bA L (L.getD i 0)+1) else 0)
  rw[kR hL hi,ah hi];congr 1;rw[co,zad,o9 hi];rfl
 rw[d,e];refine aA0 hL b hs fun v c=>?_;show _*_=0;rw[ak fun h=>c (xI.1 h),zca]
theorem QW {D ix:U} (h:∀k,k<D.length->(ix.getD k 0).toNat<(D.getD k 0).toNat):jC D ix<aU D:=by have:=QX h D.length (zae _);rw[xO,zbr] at this;unfold jC;omega
theorem Qf {a b:U} (ha:a.Nodup) (hb:b.Nodup):(jL a b).Nodup:=by unfold jL;rw[zas];refine⟨ha,hb.filter _,fun x hx y hy=>?_⟩;have:=(zap.1 hy).2;intro e;subst e;simp[hx] at this
theorem yW {a b:U}:∀v∈a,v∈jL a b:=fun v c=>za9 _ c
theorem CK {a b:U}:∀v∈b,v∈jL a b:=fun v c=>by by_cases h:v∈a;exact yW v h;exact List.mem_append_right _ (zap.2 ⟨c,by simp[h]⟩)
structure Sub (L D J DJ:U):Prop where
 nL:L.Nodup
 nJ:J.Nodup
 s:∀v∈L,v∈J
 l:L.length=D.length
 lJ:DJ.length=J.length
 d:∀i,i<L.length->DJ.getD (bA J (L.getD i 0)) 0=D.getD i 0
 pos:∀x∈DJ,1<=x
theorem Sub.lt {L D J a:U} (h:Sub L D J a) (k:Nat):lQ L D J (bi a k)<aU D:=by
 have hl:(bi a k).length=J.length:=by unfold bi;rw[gK,h.lJ]
 rw[Eg h.nL h.nJ h.s h.l hl];refine QW fun i hi=>?_;have b:i<L.length:=by have:=h.l;omega
 have hp:bA J (L.getD i 0)<a.length:=by rw[h.lJ];exact gI (h.s _ (fR b))
 have e:(L.map (lP J (bi a k))).getD i 0=fY a k (bA J (L.getD i 0)):=by
  rw[co,zad,o9 b];exact xu hp
 rw[e,<-h.d i b];unfold fY;rw[wt];refine zbb _ ?_;have:=h.pos _ (fR hp);omega
theorem aBK {α:Type} {xs:List α} {lo n:Nat} (h:lo+n<=ae xs):cg xs lo n=some ((xs.drop lo).take n):=ah h
theorem aA5 {α:Type} {xs:List α} {n:Nat} (h:xs.length=n):cB xs n=some xs:=by subst h;exact gT xs
theorem mZ {l:U} {f:Int->Int} {i:Nat} (hi:i<l.length):(l.map f).getD i 0=f (l.getD i 0):=by rw[co,zad,o9 hi];rfl
theorem ai2 {D ix:U} (h:∀k,k<D.length->(ix.getD k 0).toNat<(D.getD k 0).toNat):∀t i,i+t=D.length->∃q,jD D ix D.length=jD D ix i*eR D i+q/\q<eR D i
 |0,i,hi=>by have:i=D.length:=(by omega);subst this;exact⟨0,by rw[xO];omega,by rw[xO];omega⟩
 |t+1,i,hi=>by obtain⟨q,a,h2⟩:=ai2 h t (i+1) (by omega);have b:=h i (by omega);have hs:=F5 (D:=D) (i:=i) (by omega);refine⟨(ix.getD i 0).toNat*eR D (i+1)+q,?_,?_⟩;rw[a,hs];simp only[jD];rw[zab,zaU,zb4];rw[hs];have:((ix.getD i 0).toNat+1)*eR D (i+1)<=(D.getD i 0).toNat*eR D (i+1):=Pe _ b;rw[zab,zag] at this;omega
theorem ET {D ix:U} (hl:ix.length=D.length) (h:∀k,k<D.length->0<=ix.getD k 0/\ix.getD k 0<D.getD k 0):bi D (jC D ix)=ix:=by
 have h':∀k,k<D.length->(ix.getD k 0).toNat<(D.getD k 0).toNat:=fun k a=>by have:=h k a;omega
 refine zY (by unfold bi;rw[gK,hl]) fun k a=>?_;have a:k<D.length:=by unfold bi at a;rw[gK] at a;exact a
 obtain⟨q,b,c⟩:=ai2 h' (D.length - (k+1)) (k+1) (by omega);rw[xu a];unfold fY jC;rw[b,zaB,zbW (by omega),zaS c,zbk];simp only[jD];have dC:=h k a;rw[zaB,zbX,zaT (h' k a)];omega
theorem axs {D ix a:U} (hx:ix.length=D.length) (hy:a.length=D.length) (h:∀k,k<D.length->0<=ix.getD k 0/\ix.getD k 0<D.getD k 0) (h':∀k,k<D.length->0<=a.getD k 0/\a.getD k 0<D.getD k 0) (e:jC D ix=jC D a):ix=a:=by rw[<-ET hx h,<-ET hy h',e]
def SL (r:Rg) (h:Nat->U):List Nat->U
 |[]=>d9 r
 |k::l=>cA r (h k) (SL r h l)
section
variable {r:Rg} {h g:Nat->U}
theorem qn (hr:bc r=true) (a:∀k,bm r (h k)=true):∀l,bm r (SL r h l)=true
 |[]=>rh hr
 |k::l=>tc hr (a k) (qn hr a l)
theorem DR (hr:bc r=true) (b:∀k,bm r (h k)=true) (a:List Nat):∀l,SL r h (l++a)=cA r (SL r h l) (SL r h a)
 |[]=>(zero_add hr (qn hr b a)).symm
 |k::l=>by show cA r (h k) (SL r h (l++a))=cA r (cA r (h k) (SL r h l)) (SL r h a);rw[DR hr b a l,add_assoc hr (b k) (qn hr b l) (qn hr b a)]
theorem qZ:∀(l:List Nat),(∀k∈l,h k=g k)->SL r h l=SL r g l
 |[],_=>rfl
 |k::l,H=>by show cA r (h k) (SL r h l)=cA r (g k) (SL r g l);rw[H k (by simp),qZ l fun q a=>H q (by simp[a])]
theorem UB (e:Nat->Nat):∀l:List Nat,SL r h (l.map e)=SL r (fun k=>h (e k)) l
 |[]=>rfl
 |k::l=>by show cA r (h (e k)) (SL r h (l.map e))=cA r (h (e k)) (SL r (fun k=>h (e k)) l);rw[UB e l]
theorem Ob (hr:bc r=true):∀(l:List Nat),(∀k∈l,h k=d9 r)->SL r h l=d9 r
 |[],_=>rfl
 |k::l,H=>by show cA r (h k) (SL r h l)=d9 r;rw[H k (by simp),Ob hr l fun q a=>H q (by simp[a]),add_zero hr (rh hr)]
theorem anU (hr:bc r=true) (c:∀k,bm r (h k)=true) {l d:List Nat} (p:l.Perm d):SL r h l=SL r h d:=by induction p with|nil=>rfl|cons k _ e=>show cA r (h k) _=cA r (h k) _;rw[e]|swap a b l=>show cA r (h b) (cA r (h a) (SL r h l))=cA r (h a) (cA r (h b) (SL r h l));have hl:=qn hr c l;rw[<-add_assoc hr (c b) (c a) hl,<-add_assoc hr (c a) (c b) hl,add_comm hr (h b) (h a)]|trans _ _ i1 i2=>rw[i1,i2]
theorem abX (hr:bc r=true) (b:∀k,bm r (h k)=true) (p:Nat->Bool):∀(l:List Nat),(∀k∈l,p k=false->h k=d9 r)->SL r h (l.filter p)=SL r h l
 |[],_=>rfl
 |k::l,H=>by have a:=abX hr b p l fun q c=>H q (by simp[c]);cases hp:p k with|true=>rw[zaH hp];show cA r (h k) _=cA r (h k) _;rw[a]|false=>rw[zaI (by rw[hp];exact Bool.false_ne_true),a];show SL r h l=cA r (h k) (SL r h l);rw[H k (by simp) hp,zero_add hr (qn hr b l)]
theorem anT (hr:bc r=true) (b:∀k,bm r (h k)=true) {L:List Nat} {P:Nat} (hn:L.Nodup) (hl:∀k∈L,k<P) (c:∀k,k<P->k∉L->h k=d9 r):SL r h L=SL r h (zaa P):=by rw[<-abX hr b (fun k=>decide (k∈L)) (zaa P) fun k a hp=>c k (By.1 a) (by simpa using hp)];refine anU hr b ((zaR hn (zaK.filter _)).2 fun k=>?_);rw[zap,By];exact⟨fun a=>⟨hl k a,decide_eq_true a⟩,fun a=>of_decide_eq_true a.2⟩
end
def kK (r:Rg) (f:Nat->U) (oc:Nat->Nat) (n:Nat):Nat->U
 |0=>d9 r
 |k+1=>if oc k=n then cA r (kK r f oc n k) (f k) else kK r f oc n k
def Cl (r:Rg) (f:Nat->U) (oc:Nat->Nat) (n:Nat) (k:Nat):U:=if oc k=n then f k else d9 r
theorem W7 {r:Rg} {f:Nat->U} (hr:bc r=true) (a:∀k,bm r (f k)=true) (b:Nat->Nat) (n k:Nat):bm r (Cl r f b n k)=true:=by unfold Cl;split;exact a k;exact rh hr
theorem Kz {r:Rg} {f:Nat->U} (hr:bc r=true) (b:∀k,bm r (f k)=true) (a:Nat->Nat) (n:Nat):∀k,kK r f a n k=SL r (Cl r f a n) (zaa k)
 |0=>rfl
 |k+1=>by
  have c:=W7 hr b a n;rw[zaV,DR hr c,<-Kz hr b a n k];show(if a k=n then cA r (kK r f a n k) (f k) else kK r f a n k)=cA r _ (cA r (Cl r f a n k) (d9 r))
  rw[add_zero hr (c k)];unfold Cl;split
  ·rfl
  ·rw[add_zero hr];rw[Kz hr b a n k];exact qn hr c _
theorem KA {r:Rg} {f:Nat->U} (hr:bc r=true) (a:∀k,bm r (f k)=true) (b:Nat->Nat) (n k:Nat):bm r (kK r f b n k)=true:=by rw[Kz hr a];exact qn hr (W7 hr a b n) _
def dR (g:Nat->U):Nat->U
 |0=>[]
 |n+1=>dR g n++g n
theorem zO {g:Nat->U} {w:Nat}:∀{n},(∀i,i<n->(g i).length=w)->(dR g n).length=n*w
 |0,_=>by simp[dR]
 |n+1,h=>by rw[dR,AT,zO fun i hi=>h i (by omega),h n (by omega),zab,zag]
theorem Kr {g h:Nat->U}:∀{n},(∀i,i<n->g i=h i)->dR g n=dR h n
 |0,_=>rfl
 |n+1,e=>by rw[dR,dR,Kr fun i hi=>e i (by omega),e n (by omega)]
theorem Sd {g:Nat->U} {w:Nat}:∀{n},(∀i,i<n->(g i).length=w)->∀{i},i<n->fG (dR g n) (i*w) w=g i
 |n+1,h,i,hi=>by have hl:=zO (n:=n) fun i hi=>h i (by omega);unfold fG;by_cases e:i=n;subst e;rw[dR,List.drop_append,zaY (by omega),zaX,hl,zaN,zbZ,zaM (by rw[h i (by omega)];exact zae _)];have hm:(i+1)*w<=n*w:=Pe _ (by omega);rw[zab,zag] at hm;rw[dR,zaJ (by omega),za8 (by rw[zaz];omega)];exact Sd (fun i hi=>h i (by omega)) (by omega)
theorem ZB {g:Nat->U} {w:Nat} {x:U} (hx:x.length=w):∀{n},(∀i,i<n->(g i).length=w)->∀{i},i<n->iC (dR g n) (i*w) x=dR (fun j=>if j=i then x else g j) n
 |n+1,h,i,hi=>by have hl:=zO (n:=n) fun i hi=>h i (by omega);have hn:=h n (by omega);rw[dR,dR];by_cases e:i=n;subst e;rw[ah rfl,Kr (n:=i) (h:=g) fun j hj=>ak (by omega)];unfold iC;rw[<-hl,List.take_left,hx,<-zbG,List.drop_left,<-hn,List.drop_length,zaj];have hm:(i+1)*w<=n*w:=Pe _ (by omega);rw[zab,zag] at hm;rw[ak (zci e),<-ZB hx (fun i hi=>h i (by omega)) (show i<n by omega)];unfold iC;rw[za8 (by omega),zaJ (by rw[hx];omega),zam,zam,zam]
theorem ZH (x:U):∀n,u5 x n=dR (fun _=>x) n
 |0=>rfl
 |n+1=>by rw[u5,dR,ZH x n]
def nC (r:Rg) (A:U) (i:Nat):U:=fG A (i*az r) (az r)
theorem Ej {r:Rg} {L D A:U} (h:gC r (L,D,A)=true) {i:Nat} (hi:i<aU D):bm r (nC r A i)=true:=by obtain⟨hr,_,_,⟨sn,iR⟩,hA,_,_,_,a⟩:=xQ h;have hm:(i+1)*az r<=aU D*az r:=Pe _ hi;rw[zab,zag] at hm;unfold bm;rw[GB,decide_eq_true_eq];refine⟨by unfold nC fG;rw[IN,zaz];omega,zaA.2 fun x hx=>?_⟩;exact zaA.1 a x (zbC (List.mem_of_mem_take hx))
section
variable {J DJ:U} {f:Int->U}
theorem azx {n k:Nat} (f:Nat->Int) (h:k<n):(dL n f).getD k 0=f k:=by rw[co,qd _ h];rfl
def fL (f:Int->U) (v:Int):Int:=((f v).length:Int)
def xT (J:U) (f:Int->U) (I:U):U:=J.map fun v=>(f v).getD (lP J I v).toNat 0
def w5 (J DJ:U) (f:Int->U) (j:Nat):Nat:=jC DJ (xT J f (bi (J.map (fL f)) j))
structure Jn (J DJ:U) (f:Int->U):Prop where
 nJ:J.Nodup
 lJ:DJ.length=J.length
 g:jl DJ
 p:∀v∈J,1<=(f v).length/\(f v).length<=1048576
 nd:∀v∈J,(f v).Nodup
 b:∀i,i<J.length->∀t∈f (J.getD i 0),0<=t/\t<DJ.getD i 0
theorem Jn.gF (h:Jn J DJ f):jl (J.map (fL f)):=by have:=h.g.1;have:=h.lJ;refine⟨by rw[AI];omega,fun x hx=>?_⟩;obtain⟨v,a,rfl⟩:=If.1 hx;have:=h.p v a;unfold fL;omega
theorem Jn.dF (h:Jn J DJ f) {i:Nat} (hi:i<J.length):(J.map (fL f)).getD i 0=((f (J.getD i 0)).length:Int):=by rw[mZ hi];rfl
theorem Jn.ix (h:Jn J DJ f) (j:Nat) {i:Nat} (hi:i<J.length):0<=(bi (J.map (fL f)) j).getD i 0/\((bi (J.map (fL f)) j).getD i 0).toNat<(f (J.getD i 0)).length:=by have:=H5 h.gF j (i:=i) (by rw[AI];exact hi);rw[h.dF hi] at this;omega
theorem Qc (J:U) (f:Int->U) (j:Nat):(bi (J.map (fL f)) j).length=J.length:=by unfold bi;rw[gK,AI]
theorem SX (J:U) (f:Int->U) (I:U):(xT J f I).length=J.length:=AI ..
theorem Jn.w (h:Jn J DJ f) (I:U) {i:Nat} (hi:i<J.length):(xT J f I).getD i 0=(f (J.getD i 0)).getD (I.getD i 0).toNat 0:=by unfold xT;rw[co,zad,getD_some 0 hi];show(f (J.getD i 0)).getD (lP J I (J.getD i 0)).toNat 0=_;unfold lP;rw[kR h.nJ hi]
theorem Jn.aby(h:Jn J DJ f) (j:Nat) {i:Nat} (hi:i<J.length):(xT J f (bi (J.map (fL f)) j)).getD i 0∈f (J.getD i 0):=by rw[h.w _ hi];exact fR (h.ix j hi).2
theorem Jn.w_b (h:Jn J DJ f) (j:Nat):∀i,i<DJ.length->0<=(xT J f (bi (J.map (fL f)) j)).getD i 0/\(xT J f (bi (J.map (fL f)) j)).getD i 0<DJ.getD i 0:=fun i hi=>by
 have a:i<J.length:=by have:=h.lJ;omega
 exact h.b i a _ (h.aby j a)
theorem Jn.idx (h:Jn J DJ f) (j:Nat):bi DJ (w5 J DJ f j)=xT J f (bi (J.map (fL f)) j):=ET (by rw[SX,h.lJ]) (h.w_b j)
theorem Jn.lt (h:Jn J DJ f) (j:Nat):w5 J DJ f j<aU DJ:=QW fun k a=>by have:=h.w_b j k a;omega
theorem Jn.off (h:Jn J DJ f) {L D:U} (hL:L.Nodup) (hs:∀v∈L,v∈J) (hl:L.length=D.length) (j:Nat): lQ L D J (bi DJ (w5 J DJ f j))=jC D (Oj (L.map f) (bi (L.map (fL f)) (lQ L (L.map (fL f)) J (bi (J.map (fL f)) j)))):=by have b:=Qc J f j;rw[h.idx,Eg hL h.nJ hs hl (SX _ _ _),Eg hL h.nJ hs (by rw[AI]) b];have hd:∀k,k<L.length->0<=(L.map (lP J (bi (J.map (fL f)) j))).getD k 0/\(L.map (lP J (bi (J.map (fL f)) j))).getD k 0<(L.map (fL f)).getD k 0:=fun k a=>(by have hp:=gI (hs _ (fR a));have:=h.ix j hp;rw[pw (hs _ (fR a))] at this;rw[mZ a,mZ a];show 0<=(bi (J.map (fL f)) j).getD (bA J (L.getD k 0)) 0/\(bi (J.map (fL f)) j).getD (bA J (L.getD k 0)) 0<((f (L.getD k 0)).length:Int);omega);rw[ET (by rw[AI,AI]) (by rw[AI];exact hd)];congr 1;unfold Oj;refine zY (by rw[AI,gK,AI]) fun k a=>?_;rw[AI] at a;have hp:=gI (hs _ (fR a));rw[mZ a,azx _ (by rw[AI];exact a),mZ a];rw[show(L.map f).getD k []=f (L.getD k 0) by rw[co,zad,getD_some 0 a];rfl];unfold lP;rw[h.w _ hp,pw (hs _ (fR a))]
theorem getD_inj {l:U} (hn:l.Nodup) {i j:Nat} (hi:i<l.length) (hj:j<l.length) (e:l.getD i 0=l.getD j 0):i=j:=by have a:=kR hn hi;have h2:=kR hn hj;rw[e] at a;omega
theorem Jn.inj (h:Jn J DJ f) {j k:Nat} (hj:j<aU (J.map (fL f))) (c:k<aU (J.map (fL f))) (e:w5 J DJ f j=w5 J DJ f k):j=k:=by have d:xT J f (bi (J.map (fL f)) j)=xT J f (bi (J.map (fL f)) k):=(by rw[<-h.idx,<-h.idx,e]);have g:bi (J.map (fL f)) j=bi (J.map (fL f)) k:=zY (by rw[Qc,Qc]) fun i hi=>(by rw[Qc] at hi;have b:=h.ix j hi;have a:=h.ix k hi;have:=getD_inj (h.nd _ (fR hi)) b.2 a.2 (by rw[<-h.w _ hi,<-h.w _ hi,d]);omega);rw[<-ML h.gF hj,g,ML h.gF c]
theorem Jn.sur (h:Jn J DJ f) {k:Nat} (d:k<aU DJ) (hm:∀i,i<J.length->(bi DJ k).getD i 0∈f (J.getD i 0)):∃j,j<aU (J.map (fL f))/\w5 J DJ f j=k:=by let I:U:=dL J.length fun i=>(bA (f (J.getD i 0)) ((bi DJ k).getD i 0):Int);have c:I.length=(J.map (fL f)).length:=(by rw[gK,AI]);have b:∀i,i<J.length->I.getD i 0=(bA (f (J.getD i 0)) ((bi DJ k).getD i 0):Int):=fun i hi=>(by rw[co,qd _ hi];rfl);have a:∀i,i<(J.map (fL f)).length->0<=I.getD i 0/\I.getD i 0<(J.map (fL f)).getD i 0:=fun i hi=>(by rw[AI] at hi;rw[b i hi,h.dF hi];have:=gI (hm i hi);omega);refine⟨jC (J.map (fL f)) I,QW fun i hi=>by have:=a i hi;omega,?_⟩;unfold w5;rw[ET c a];have:xT J f I=bi DJ k:=zY (by rw[SX];unfold bi;rw[gK,h.lJ]) fun i hi=>(by rw[SX] at hi;rw[h.w _ hi,b i hi,wt,pw (hm i hi)]);rw[this,ML h.g d]
end
theorem abr (of:U) (x:Int):∀n,(sU of x n).Nodup
 |0=>zb0
 |n+1=>by simp only[sU];split;rw[zas];refine⟨abr of x n,by simp,fun a ha b hb e=>?_⟩;obtain⟨i,hi,h1,_⟩:=NV of x n a ha;rw[zai] at hb;omega;exact abr of x n
theorem Mz {of:U} {x t:Int}:t∈vals of x↔∃i:Nat,i<of.length/\t=(i:Int)/\of.getD i 0=x:= ⟨NV of x _ t,fun⟨i,a,c,b⟩=>by rw[c];exact abt a b⟩
theorem anm {of b:U} {x y:Int}:∀n,(∀i,i<n->(of.getD i 0=x↔b.getD i 0=y))->sU of x n=sU b y n
 |0,_=>rfl
 |n+1,h=>by simp only[sU];rw[anm n fun i hi=>h i (by omega)];by_cases a:of.getD n 0=x;rw[ah a,ah ((h n (by omega)).1 a)];rw[ak a,ak fun e=>a ((h n (by omega)).2 e)]
theorem aBA {of a:U} {x y:Int} (hl:of.length=a.length) (h:∀i,i<of.length->(of.getD i 0=x↔a.getD i 0=y)):vals of x=vals a y:=by unfold vals;rw[hl];exact anm _ fun i hi=>h i (by omega)
theorem ahk {m a b c:Int} (hb:0<=b/\b<m) (hc:0<=c/\c<m) (d:(a+b)%m=0) (g:(a+c)%m=0):b=c:=by
 obtain⟨x,hx⟩:=zbt d;obtain⟨y,hy⟩:=zbt g;have e:b - c=m*(x - y):=by rw[Int.mul_sub];omega
 have hm:0<m:=by omega
 have h3:x - y<1:=zbm (a:=m) (by omega) (by omega);have h4: -1<x - y:=zbm (a:=m) (by omega) (by omega);have f:x - y=0:=by omega
 rw[f,zbR] at e;omega
theorem Zw (of:U):∀n,(zp of n).Nodup
 |0=>zb0
 |n+1=>by simp only[zp];split;rw[zas];refine⟨Zw of n,by simp,fun a ha b hb e=>?_⟩;obtain⟨i,hi,h1,_⟩:=(M1 of a n).1 ha;rw[zai] at hb;omega;exact Zw of n
theorem ab8 (m:Int):∀(k:Nat) (R:List U),R.length=k->(vi m R).Nodup/\∀l∈vi m R,l.length=R.length
 |0,R,h=>by rw[zav h];exact⟨by simp[vi],fun l hl=>by simp[vi] at hl;rw[hl];rfl⟩
 |k+1,R,h=>by obtain⟨R,of,rfl⟩:∃g of,R=g++[of]:=⟨R.dropLast,R.getLast (by intro e;rw[e] at h;simp at h),(zaw _).symm⟩;obtain⟨i1,i2⟩:=ab8 m k R (by simpa using h);rw[UM];refine⟨?_,fun l hl=>?_⟩;rw[zck,za3];refine⟨fun a ha=>?_,zaG (fun{a b} ha hb d=>?_) i1⟩;rw[zbM];refine zcl (fun{x y} c e=>c ?_) (Zw of m.toNat);have:=List.append_cancel_left e;simpa using this;intro x hx y hy e;obtain⟨u,_,rfl⟩:=If.1 hx;obtain⟨w,_,f⟩:=If.1 hy;rw[<-f] at e;exact d (List.append_inj_left e (by rw[i2 a ha,i2 b hb]));obtain⟨a,ha,hl⟩:=zaL.1 hl;obtain⟨u,_,rfl⟩:=If.1 hl;rw[AT,AT,i2 a ha];rfl
theorem ab7 (m:Int):∀(k:Nat) (R:List U),R.length=k->∀l:U,l.length=R.length->(∀i,i<R.length->l.getD i 0∈iM m (R.getD i []))->l∈vi m R
 |0,R,h,l,hl,hm=>by rw[zav h] at hl⊢;rw[zav hl];simp[vi]
 |k+1,R,h,l,hl,hm=>by obtain⟨R,of,rfl⟩:∃a of,R=a++[of]:=⟨R.dropLast,R.getLast (by intro e;rw[e] at h;simp at h),(zaw _).symm⟩;rw[AT,zal] at hl;obtain⟨l,x,rfl⟩:∃b x,l=b++[x]:=⟨l.dropLast,l.getLast (by intro e;rw[e] at hl;simp at hl),(zaw _).symm⟩;rw[AT,zal] at hl;rw[AT,zal] at hm;rw[UM];refine zaL.2 ⟨l,ab7 m k R (by simpa using h) l (by omega) fun i hi=>?_,If.2 ⟨x,?_,rfl⟩⟩;have:=hm i (by omega);rw[co,co,zaf (by omega),zaf (by omega),<-co,<-co] at this;exact this;have:=hm R.length (by omega);rw[co,co,zac (by omega),zac (by omega),zaN,show R.length - l.length=0 by omega] at this;exact this
theorem acI (m:Int) (R:List U):(r7 m R).Nodup:=(ab8 m R.length R rfl).1.filter _
theorem ahd {D:U} {m:Int} {R:List U} (H:ot D m R) {ch:U} (b:pM R ch) (hs:Jm ch%m=0):ch∈r7 m R:=by refine zap.2 ⟨ab7 m R.length R rfl ch b.1 fun i hi=>?_,decide_eq_true hs⟩;have a:=b.2 i hi;have h2:=H.al i (by have:=H.rl;omega) _ a;exact(M1 _ _ _).2 ⟨(ch.getD i 0).toNat,by omega,by omega,a⟩
structure gD (La Da:U) (Ra:List U) (Lb Db:U) (Rb:List U) (m:Int):Prop where
 HA:ot Da m Ra
 HB:ot Db m Rb
 na:La.Nodup
 nb:Lb.Nodup
 la:La.length=Da.length
 lb:Lb.length=Db.length
 Zf:∀v,v∈La->v∈Lb->Da.getD (bA La v) 0=Db.getD (bA Lb v) 0/\∀t,t<(Ra.getD (bA La v) []).length->((Ra.getD (bA La v) []).getD t 0+(Rb.getD (bA Lb v) []).getD t 0)%m=0
def AJ (La Lb:U) (m:Int) (x y:U):Prop:=∀v∈La,v∈Lb->(x.getD (bA La v) 0+y.getD (bA Lb v) 0)%m=0
instance (La Lb:U) (m:Int) (x y:U):Decidable (AJ La Lb m x y):=by unfold AJ;infer_instance
def uA (La:U) (Ra:List U) (Lb:U) (Rb:List U) (x y:U) (v:Int):U:=
 if v∈La then vals (Ra.getD (bA La v) []) (x.getD (bA La v) 0) else vals (Rb.getD (bA Lb v) []) (y.getD (bA Lb v) 0)
def dm (La Da Lb Db:U):U:=(jL La Lb).map (jd La Da Lb Db)
def rb (L:U) (R:List U) (J K:U):U:=dL L.length fun i=>(R.getD i []).getD (K.getD (bA J (L.getD i 0)) 0).toNat 0
theorem D6 (L:U) (R:List U) (J K:U):(rb L R J K).length=L.length:=gK _ _
theorem zR {L:U} {R:List U} {J K:U} {i:Nat} (hi:i<L.length:=by omega):(rb L R J K).getD i 0=(R.getD i []).getD (K.getD (bA J (L.getD i 0)) 0).toNat 0:=by rw[co,rb,qd _ hi];rfl
section
variable {La Da:U} {Ra:List U} {Lb Db:U} {Rb:List U} {m:Int}
theorem gD.EZ (H:gD La Da Ra Lb Db Rb m) {v:Int} (a:v∈La):jd La Da Lb Db v=Da.getD (bA La v) 0:=ah (gI a)
theorem gD.Md (H:gD La Da Ra Lb Db Rb m) {v:Int} (a:v∈Lb):jd La Da Lb Db v=Db.getD (bA Lb v) 0:=by by_cases h:v∈La;rw[H.EZ h,(H.Zf v h a).1];exact ak fun q=>h (xI.1 q)
theorem gD.dv (H:gD La Da Ra Lb Db Rb m) {v:Int} (a:v∈jL La Lb):1<=jd La Da Lb Db v/\jd La Da Lb Db v<=8:=by have h1:=H.la;have h2:=H.lb;rcases AA a with h|h;rw[H.EZ h];exact H.HA.yo (by have:=gI h;omega);rw[H.Md h];exact H.HB.yo (by have:=gI h;omega)
theorem gD.nJ (H:gD La Da Ra Lb Db Rb m):(jL La Lb).Nodup:=Qf H.na H.nb
theorem Qe (La Lb:U):(jL La Lb).length<=La.length+Lb.length:=by unfold jL;rw[AT];have:=zaC (fun x=> !decide (x∈La)) Lb;omega
theorem gD.lJ (H:gD La Da Ra Lb Db Rb m):(jL La Lb).length<=24:=by have:=Qe La Lb;have:=H.la;have:=H.lb;have:=H.HA.de;have:=H.HB.de;omega
theorem gD.gJ (H:gD La Da Ra Lb Db Rb m):jl (dm La Da Lb Db):=by have:=H.lJ;refine⟨by unfold dm;rw[AI];omega,fun x hx=>?_⟩;obtain⟨v,a,rfl⟩:=If.1 hx;have:=H.dv a;omega
theorem gD.xL (H:gD La Da Ra Lb Db Rb m):Sub La Da (jL La Lb) (dm La Da Lb Db):= ⟨H.na,H.nJ,yW,H.la,AI ..,fun i hi=>by have a:=yW (b:=Lb) _ (fR hi);unfold dm;rw[mZ (gI a),pw a,H.EZ (fR hi),kR H.na hi],fun x hx=>by obtain⟨v,a,rfl⟩:=If.1 hx;exact(H.dv a).1⟩
theorem gD.Dw (H:gD La Da Ra Lb Db Rb m):Sub Lb Db (jL La Lb) (dm La Da Lb Db):= ⟨H.nb,H.nJ,CK,H.lb,AI ..,fun i hi=>by have b:=CK (a:=La) _ (fR hi);unfold dm;rw[mZ (gI b),pw b,H.Md (fR hi),kR H.nb hi],fun x hx=>by obtain⟨v,b,rfl⟩:=If.1 hx;exact(H.dv b).1⟩
theorem gD.kb (H:gD La Da Ra Lb Db Rb m) (k:Nat) {v:Int} (a:v∈jL La Lb):0<=(bi (dm La Da Lb Db) k).getD (bA (jL La Lb) v) 0/\(bi (dm La Da Lb Db) k).getD (bA (jL La Lb) v) 0<jd La Da Lb Db v:=by have hp:=gI a;have:=H5 H.gJ k (i:=bA (jL La Lb) v) (by unfold dm;rw[AI];exact hp);rw[show(dm La Da Lb Db).getD (bA (jL La Lb) v) 0=jd La Da Lb Db v by unfold dm;rw[mZ hp,pw a]] at this;exact this
theorem gD.acT (H:gD La Da Ra Lb Db Rb m) (k:Nat):pM Ra (rb La Ra (jL La Lb) (bi (dm La Da Lb Db) k)):=by have h1:=H.la;have h2:=H.HA.rl;refine⟨by rw[D6];omega,fun i hi=>?_⟩;rw[zR];have a:La.getD i 0∈La:=fR (by omega);have:=H.kb k (yW (b:=Lb) _ a);rw[H.EZ a,kR H.na (by omega)] at this;have:=H.HA.row i (by omega);exact fR (by omega)
theorem gD.acU (H:gD La Da Ra Lb Db Rb m) (k:Nat):pM Rb (rb Lb Rb (jL La Lb) (bi (dm La Da Lb Db) k)):=by have h1:=H.lb;have h2:=H.HB.rl;refine⟨by rw[D6];omega,fun i hi=>?_⟩;rw[zR];have b:Lb.getD i 0∈Lb:=fR (by omega);have:=H.kb k (CK (a:=La) _ b);rw[H.Md b,kR H.nb (by omega)] at this;have:=H.HB.row i (by omega);exact fR (by omega)
theorem gD.acV (H:gD La Da Ra Lb Db Rb m) (k:Nat):AJ La Lb m (rb La Ra (jL La Lb) (bi (dm La Da Lb Db) k)) (rb Lb Rb (jL La Lb) (bi (dm La Da Lb Db) k)):=fun v ha hb=>by rw[zR (gI ha),zR (gI hb),pw ha,pw hb];have a:=H.kb k (yW (b:=Lb) _ ha);rw[H.EZ ha] at a;have:=H.HA.row (bA La v) (by have:=gI ha;have:=H.la;omega);exact(H.Zf v ha hb).2 _ (by omega)
section
variable {x y:U}
theorem gD.f_b (H:gD La Da Ra Lb Db Rb m) (hx:pM Ra x) (hy:pM Rb y) (hm:AJ La Lb m x y) {v:Int} (c:v∈Lb):uA La Ra Lb Rb x y v=vals (Rb.getD (bA Lb v) []) (y.getD (bA Lb v) 0):=by unfold uA;by_cases ha:v∈La;rw[ah ha];have p1:=gI ha;have p2:=gI c;have l1:=H.la;have l2:=H.lb;have l3:=H.HA.rl;have l4:=H.HB.rl;have r1:=H.HA.row (bA La v) (by omega);have r2:=H.HB.row (bA Lb v) (by omega);obtain⟨o1,j⟩:=H.Zf v ha c;have b:=hm v ha c;have f:=H.HA.al _ (by omega) _ (hx.2 (bA La v) (by omega));have g:=H.HB.al _ (by omega) _ (hy.2 (bA Lb v) (by omega));refine aBA (by omega) fun i hi=>?_;have a:=j i hi;have d:=H.HA.al _ (by omega) _ (fR hi);have h:=H.HB.al _ (by omega) _ (fR (l:=Rb.getD (bA Lb v) []) (i:=i) (by omega));constructor;intro e;rw[e] at a;exact ahk h g a b;intro e;rw[e] at a;rw[zbi] at a b;exact ahk d f a b;rw[ak ha]
theorem gD.jn (H:gD La Da Ra Lb Db Rb m) (hx:pM Ra x) (hy:pM Rb y) (hm:AJ La Lb m x y):Jn (jL La Lb) (dm La Da Lb Db) (uA La Ra Lb Rb x y):=by have l1:=H.la;have l2:=H.lb;have l3:=H.HA.rl;have l4:=H.HB.rl;have e:∀v∈jL La Lb,∃of c,uA La Ra Lb Rb x y v=vals of c/\c∈of/\(of.length:Int)=jd La Da Lb Db v:=fun v a=>(by by_cases ha:v∈La;have p1:=gI ha;exact⟨_,_,ah ha,hx.2 _ (by omega),by rw[H.EZ ha];exact H.HA.row _ (by omega)⟩;have hb:=(AA a).resolve_left ha;have p1:=gI hb;exact⟨_,_,ak ha,hy.2 _ (by omega),by rw[H.Md hb];exact H.HB.row _ (by omega)⟩);refine⟨H.nJ,AI ..,H.gJ,fun v a=>?_,fun v a=>?_,fun i hi t f=>?_⟩;obtain⟨of,c,b,d,g⟩:=e v a;rw[b];have:=H.dv a;have:=anq d;have:=anp of c;omega;obtain⟨of,c,b,d,g⟩:=e v a;rw[b];exact abr _ _ _;obtain⟨of,c,b,d,g⟩:=e _ (fR hi);rw[b] at f;obtain⟨q,q1,q2,_⟩:=Mz.1 f;have:(dm La Da Lb Db).getD i 0=jd La Da Lb Db ((jL La Lb).getD i 0):=(by unfold dm;rw[mZ hi]);omega
theorem gD.aoX (H:gD La Da Ra Lb Db Rb m) (hx:pM Ra x) (hy:pM Rb y) (hm:AJ La Lb m x y) (j:Nat): rb La Ra (jL La Lb) (bi (dm La Da Lb Db) (w5 (jL La Lb) (dm La Da Lb Db) (uA La Ra Lb Rb x y) j))=x/\rb Lb Rb (jL La Lb) (bi (dm La Da Lb Db) (w5 (jL La Lb) (dm La Da Lb Db) (uA La Ra Lb Rb x y) j))=y:=by have N:=H.jn hx hy hm;have l1:=H.la;have l2:=H.lb;have l3:=H.HA.rl;have l4:=H.HB.rl;have h1:=hx.1;have h2:=hy.1;rw[N.idx];constructor;refine zY (by rw[D6];omega) fun i hi=>?_;rw[D6] at hi;have d:La.getD i 0∈La:=fR hi;have c:=N.aby j (gI (yW (b:=Lb) _ d));rw[pw (yW _ d)] at c;rw[show uA La Ra Lb Rb x y (La.getD i 0)=_ from ah d,kR H.na hi] at c;obtain⟨q,g,e,f⟩:=Mz.1 c;rw[zR hi,e,wt,f];refine zY (by rw[D6];omega) fun i hi=>?_;rw[D6] at hi;have d:Lb.getD i 0∈Lb:=fR hi;have c:=N.aby j (gI (CK (a:=La) _ d));rw[pw (CK _ d)] at c;rw[H.f_b hx hy hm d,kR H.nb hi] at c;obtain⟨q,g,e,f⟩:=Mz.1 c;rw[zR hi,e,wt,f]
end
theorem gD.auD (H:gD La Da Ra Lb Db Rb m) (k:Nat) {i:Nat} (hi:i<(jL La Lb).length): (bi (dm La Da Lb Db) k).getD i 0∈uA La Ra Lb Rb (rb La Ra (jL La Lb) (bi (dm La Da Lb Db) k)) (rb Lb Rb (jL La Lb) (bi (dm La Da Lb Db) k)) ((jL La Lb).getD i 0):=by have b:=fR hi;have a:=H.kb k b;rw[kR H.nJ hi] at a;have l1:=H.la;have l2:=H.lb;unfold uA;by_cases ha:(jL La Lb).getD i 0∈La;rw[ah ha];have p1:=gI ha;have:=H.HA.row _ (show bA La ((jL La Lb).getD i 0)<Da.length by omega);rw[H.EZ ha] at a;refine Mz.2 ⟨((bi (dm La Da Lb Db) k).getD i 0).toNat,by omega,by omega,?_⟩;rw[zR p1,pw ha,kR H.nJ hi];rw[ak ha];have hb:=(AA b).resolve_left ha;have p1:=gI hb;have:=H.HB.row _ (show bA Lb ((jL La Lb).getD i 0)<Db.length by omega);rw[H.Md hb] at a;refine Mz.2 ⟨((bi (dm La Da Lb Db) k).getD i 0).toNat,by omega,by omega,?_⟩;rw[zR p1,pw hb,kR H.nJ hi]
def K9 (La Da:U) (Ra:List U) (Lb Db:U) (Rb:List U) (m:Int) (x y:U):List Nat:=
 if AJ La Lb m x y then(zaa (aU ((jL La Lb).map (fL (uA La Ra Lb Rb x y))))).map (w5 (jL La Lb) (dm La Da Lb Db) (uA La Ra Lb Rb x y)) else[]
def Wv (La Da:U) (Ra:List U) (Lb Db:U) (Rb:List U) (m:Int) (Y:List U) (x:U):List Nat:=Y.flatMap (K9 La Da Ra Lb Db Rb m x)
def BL (La Da:U) (Ra:List U) (Lb Db:U) (Rb:List U) (m:Int) (X Y:List U):List Nat:=X.flatMap (Wv La Da Ra Lb Db Rb m Y)
theorem ahc {X Y:List U} {k:Nat}:k∈BL La Da Ra Lb Db Rb m X Y↔∃x∈X,∃y∈Y,AJ La Lb m x y/\∃j,j<aU ((jL La Lb).map (fL (uA La Ra Lb Rb x y)))/\w5 (jL La Lb) (dm La Da Lb Db) (uA La Ra Lb Rb x y) j=k:=by unfold BL;rw[zaL];refine exists_congr fun x=>and_congr_right fun _=>?_;unfold Wv;rw[zaL];refine exists_congr fun y=>and_congr_right fun _=>?_;unfold K9;by_cases h:AJ La Lb m x y;rw[ah h,If];simp only[By];exact⟨fun⟨j,a,b⟩=>⟨h,j,a,b⟩,fun⟨_,j,a,b⟩=>⟨j,a,b⟩⟩;rw[ak h];exact⟨fun h=>(List.not_mem_nil h).elim,fun⟨h',_⟩=>absurd h' h⟩
theorem gD.anK (H:gD La Da Ra Lb Db Rb m) {k:Nat} (h:k∈BL La Da Ra Lb Db Rb m (r7 m Ra) (r7 m Rb)):k<aU (dm La Da Lb Db):=by obtain⟨x,hx,y,hy,hm,j,_,rfl⟩:=ahc.1 h;exact(H.jn (GW H.HA hx) (GW H.HB hy) hm).lt j
theorem gD.anL (H:gD La Da Ra Lb Db Rb m):(BL La Da Ra Lb Db Rb m (r7 m Ra) (r7 m Rb)).Nodup:=by unfold BL;rw[zck,za3];have one:∀x∈r7 m Ra,∀y∈r7 m Rb,∀k∈K9 La Da Ra Lb Db Rb m x y,rb La Ra (jL La Lb) (bi (dm La Da Lb Db) k)=x/\rb Lb Rb (jL La Lb) (bi (dm La Da Lb Db) k)=y:=fun x hx y hy k c=>(by unfold K9 at c;split at c;rename_i hm;obtain⟨j,_,rfl⟩:=If.1 c;exact H.aoX (GW H.HA hx) (GW H.HB hy) hm j;cases c);refine⟨fun x hx=>?_,zaG (fun{a b} ha hb d=>?_) (acI m Ra)⟩;unfold Wv;rw[za3];refine⟨fun y hy=>?_,zaG (fun{a b} ha hb d=>?_) (acI m Rb)⟩;unfold K9;split;rename_i hm;rw[zbM];have N:=H.jn (GW H.HA hx) (GW H.HB hy) hm;exact zaG (fun{a b} ha hb d e=>d (N.inj (By.1 ha) (By.1 hb) e)) zaK;exact zcm;intro k c l hl e;have g:=(one x hx a ha k c).2;have f:=(one x hx b hb l hl).2;rw[<-e] at f;exact d (g.symm.trans f);intro k c l hl e;obtain⟨y,hy,c⟩:=zaL.1 c;obtain⟨z,h,hl⟩:=zaL.1 hl;have g:=(one a ha y hy k c).1;have f:=(one b hb z h l hl).1;rw[<-e] at f;exact d (g.symm.trans f)
theorem gD.anJ (H:gD La Da Ra Lb Db Rb m) {k:Nat} (b:k<aU (dm La Da Lb Db)) (hn:k∉BL La Da Ra Lb Db Rb m (r7 m Ra) (r7 m Rb)): ¬Jm (rb La Ra (jL La Lb) (bi (dm La Da Lb Db) k))%m=0\/¬Jm (rb Lb Rb (jL La Lb) (bi (dm La Da Lb Db) k))%m=0:=by rw[<-Decidable.not_and_iff_or_not];rintro⟨a,c⟩;refine hn (ahc.2 ⟨_,ahd H.HA (H.acT k) a,_,ahd H.HB (H.acU k) c,H.acV k,?_⟩);exact(H.jn (H.acT k) (H.acU k) (H.acV k)).sur b fun i hi=>H.auD k hi
end
theorem amp {f g:Nat->Int}:∀n,(∀i,i<n->f i=g i)->sm n f=sm n g
 |0,_=>rfl
 |n+1,h=>by simp only[sm];rw[amp n fun i hi=>h i (by omega),h n (by omega)]
theorem ac7 {r:Rg} {L D A:U} {m:Int} {R:List U} (h:KB r (L,D,A) (m,R)=true) {n:Nat} (hn:n<aU D) (hb:DY D (m,R) n=true):nC r A n=d9 r:=by obtain⟨a,h2,b⟩:=of_decide_eq_true h;obtain⟨hr,_,_,_,c,_,_,_,_⟩:=xQ a;exact(ape hr c).1 b n hn hb
theorem acW {L D J a:U} {R:List U} (S:Sub L D J a) (hR:R.length=D.length) (gJ:jl a) (k:Nat): sm D.length (Ks R (bi D (lQ L D J (bi a k))))=Jm (rb L R J (bi a k)):=by have c:(bi a k).length=J.length:=(by unfold bi;rw[gK,S.lJ]);have hl:=S.l;have hd:∀i,i<D.length->0<=(L.map (lP J (bi a k))).getD i 0/\(L.map (lP J (bi a k))).getD i 0<D.getD i 0:=fun i hi=>(by have e:=S.s _ (fR (l:=L) (i:=i) (by omega));have hp:=gI e;have b:=H5 gJ k (i:=bA J (L.getD i 0)) (by rw[S.lJ];exact hp);rw[S.d i (by omega)] at b;rw[mZ (by omega)];exact b);rw[Eg S.nL S.nJ S.s S.l c,ET (by rw[AI];exact S.l) hd];unfold Jm;rw[D6,hl];refine amp _ fun i hi=>?_;rw[zR];unfold Ks;rw[mZ (by omega)];rfl
def NP (r:Rg) (A B:U) (oa ob:Nat->Nat) (k:Nat):U:=dg r (nC r A (oa k)) (nC r B (ob k))
def wB (r:Rg) (La Da A Lb Db B:U):Nat->U:=NP r A B (fun k=>lQ La Da (jL La Lb) (bi (dm La Da Lb Db) k)) (fun k=>lQ Lb Db (jL La Lb) (bi (dm La Da Lb Db) k))
def C1 (La Da Lb Db S DS:U) (k:Nat):Nat:=lQ S DS (jL La Lb) (bi (dm La Da Lb Db) k)
section
variable {r:Rg} {La Da A Lb Db B:U} {Ra Rb:List U} {m:Int}
theorem SM (b:Sub La Da (jL La Lb) (dm La Da Lb Db)) (SB:Sub Lb Db (jL La Lb) (dm La Da Lb Db)) (a:gC r (La,Da,A)=true) (tb:gC r (Lb,Db,B)=true) (k:Nat):bm r (wB r La Da A Lb Db B k)=true:= td (xQ a).1 (Ej a (b.lt k)) (Ej tb (SB.lt k))
theorem gD.aBh (H:gD La Da Ra Lb Db Rb m) (a:KB r (La,Da,A) (m,Ra)=true) (c:KB r (Lb,Db,B) (m,Rb)=true) {k:Nat} (d:k<aU (dm La Da Lb Db)) (hn:k∉BL La Da Ra Lb Db Rb m (r7 m Ra) (r7 m Rb)):wB r La Da A Lb Db B k=d9 r:=by have b:=(of_decide_eq_true a).1;have tb:=(of_decide_eq_true c).1;have hr:=(xQ b).1;unfold wB NP;rcases H.anJ d hn with h|h;rw[ac7 a (H.xL.lt k) (decide_eq_true (by rw[acW H.xL H.HA.rl H.gJ k];exact h)),zero_mul hr (Ej tb (H.Dw.lt k))];rw[ac7 c (H.Dw.lt k) (decide_eq_true (by rw[acW H.Dw H.HB.rl H.gJ k];exact h)),mul_zero hr (Ej b (H.xL.lt k))]
theorem gD.sum (H:gD La Da Ra Lb Db Rb m) (c:KB r (La,Da,A) (m,Ra)=true) (f:KB r (Lb,Db,B) (m,Rb)=true) (b:Nat->Nat) (n:Nat): SL r (Cl r (wB r La Da A Lb Db B) b n) (BL La Da Ra Lb Db Rb m (r7 m Ra) (r7 m Rb))=kK r (wB r La Da A Lb Db B) b n (aU (dm La Da Lb Db)):=by have d:=(of_decide_eq_true c).1;have tb:=(of_decide_eq_true f).1;have hr:=(xQ d).1;have e:=SM H.xL H.Dw d tb;rw[Kz hr e];refine anT hr (W7 hr e b n) H.anL (fun k a=>H.anK a) fun k a hn=>?_;unfold Cl;split;exact H.aBh c f a hn;rfl
end
theorem anu {α:Type} (x:α):cg [x] 0 1=some [x]:=rfl
theorem VW {P:Int->Bool} (l:U) (i:Nat):((l.take i).filter P).length<=l.length:=by have:=zaC P (l.take i);rw[IN] at this;omega
theorem VX {P:Int->Bool} {l:U} {i:Nat} (h:i<l.length):(l.take (i+1)).filter P=if P (l.getD i 0)=true then(l.take i).filter P++[l.getD i 0] else(l.take i).filter P:=by have e:l.take (i+1)=l.take i++[l.getD i 0]:=(by rw[zaQ,o9 h];rfl);rw[e,List.filter_append];clear e;generalize l.getD i 0=x;cases hp:P x with|true=>rw[ah rfl];simp[zcj,hp]|false=>rw[ak (by simp)];simp[zcj,hp]
theorem avD {La a Lb b:U} (hn:La.Nodup) (hl:La.length=a.length):La.map (jd La a Lb b)=a:=by refine zY (by rw[AI,hl]) fun i hi=>?_;rw[AI] at hi;rw[mZ hi];unfold jd;rw[kR hn hi,ah hi]
theorem azC {n:Nat} (f:Nat->Int) (i:Nat) (x:Int) (hx:x=f i):be (dL n (fun q=>if q<i then f q else 0)) i x=dL n (fun q=>if q<i+1 then f q else 0):=by rw[Nb];refine n4 fun q _=>?_;by_cases e:q=i;rw[ah e,ah (by omega),hx,e];rw[ak e];by_cases a:q<i;rw[ah a,ah (by omega)];rw[ak a,ak (by omega)]
def TV (NN:Nat):(U×U)->(Option U):=
 (fun(l0,l1)=>
 cN ((bh 0 0 (ae (([]:U)))).ab (fun _=>
 cL NN (fun((l2,l3,i4,i5),l6)=>
 aD (cI i5 i4)
 ((cV l3 i5).ab (fun i7=>
 (pF (l2,i7)).ab (fun b8=>
 aD (b8)
 (aq l6 (
 (cg ((i7::[])) 0 1).ab (fun l9=>
 (lR (aw (ae l6) (ae l9)) 8).ab (fun _=>
 (bh 0 (aw (ae l6) (ae l9)) (ae (d6 l6 l9))).ab (fun _=>
 some (AN ((l2,l3,i4,bC .i64 i5 1),d6 l6 l9)))))))
 (aq l6 (
 some (AN ((l2,l3,i4,bC .i64 i5 1),l6)))))))
 ((aq l6 (
 some (AN l6))).ab (fun cf=>
 some (IT cf))))
 ((l1,l0,aM (ae l0),(0:Int)),([]:U))))
 (fun eC=>
 (cB eC (ae eC)).ab (fun de=>
 some de)))
def JL:=TV aP
theorem auZ (l keep:U) (h:l.length<=1000) (hk:keep.length<=1000):JL (l,keep)=some (l.filter fun x=>decide (x∈keep)):=by simp only[JL,TV,aq];rw[show bh 0 0 (ae ([]:U))=some () from rfl];(try simp only[bz]);rw[gw (fun i=>((keep,l,aM (ae l),(i:Int)),(l.take i).filter fun x=>decide (x∈keep))) l.length ?a1 ?a2 ?a3 eZ];(case a1=>intro i hi;dsimp only;have hlen:=VW (P:=fun x=>decide (x∈keep)) l i;rw[bL (eD (by show(i:Int)<(l.length:Int);omega)),fC,o9 hi];(try simp only[bz]);rw[show pF (keep,l.getD i 0)=some (decide (l.getD i 0∈keep)) from ah (by dsimp only;omega),VX hi,wQ];(try simp only[bz]);by_cases a:l.getD i 0∈keep;rw[decide_eq_true a,mX,ah rfl];(try simp only[bR,bz]);rw[anu];(try simp only[bz]);rw[w9 (by simp only[aw,ae,zah,zay,gH];omega)];(try simp only[bz]);rw[Wu];rfl;rw[decide_eq_false a,mW,ak (by simp)];try simp only[bR,bz]);(case a2=>dsimp only;rw[aZ (d7 (by show(l.length:Int)<=(l.length:Int);omega)),zak];(try simp only[bR,bz]);try rfl);(case a3=>rfl);simp only[cN,OF,gT,bz]
def TU (NN:Nat):(U×U)->(Option U):=
 (fun(l0,l1)=>
 (j7 l0).ab (fun l2=>
 cN (aq l2 (
 cL NN (fun((l3,l4,i5,i6),l7)=>
 aD (cI i6 i5)
 ((cV l4 i6).ab (fun i8=>
 (pF (l3,i8)).ab (fun b9=>
 aD (dz b9)
 (aq l7 (
 (cg ((i8::[])) 0 1).ab (fun cf=>
 (lR (aw (ae l7) (ae cf)) 8).ab (fun _=>
 (bh 0 (aw (ae l7) (ae cf)) (ae (d6 l7 cf))).ab (fun _=>
 some (AN ((l3,l4,i5,bC .i64 i6 1),d6 l7 cf)))))))
 (aq l7 (
 some (AN ((l3,l4,i5,bC .i64 i6 1),l7)))))))
 ((aq l7 (
 some (AN l7))).ab (fun eC=>
 some (IT eC))))
 ((l0,l1,aM (ae l1),(0:Int)),l2)))
 (fun de=>
 (cB de (ae de)).ab (fun dw=>
 some dw))))
def Gs:=TU aP
theorem ago (a b:U) (h:a.length<=1000) (hb:b.length<=1000):Gs (a,b)=some (jL a b):=by simp only[Gs,TU,aq];rw[show j7 a=some a from ah (by omega)];(try simp only[bz,bR]);rw[gw (fun i=>((a,b,aM (ae b),(i:Int)),a++(b.take i).filter fun x=> !decide (x∈a))) b.length ?a1 ?a2 ?a3 eZ];(case a1=>intro i hi;dsimp only;have hlen:=VW (P:=fun x=> !decide (x∈a)) b i;rw[bL (eD (by show(i:Int)<(b.length:Int);omega)),fC,o9 hi];(try simp only[bz]);rw[show pF (a,b.getD i 0)=some (decide (b.getD i 0∈a)) from ah (by dsimp only;omega),VX hi,wQ];(try simp only[bz]);by_cases c:b.getD i 0∈a;rw[decide_eq_true c,show dz true=false from rfl,mW,ak (by simp)];(try simp only[bR,bz]);rw[decide_eq_false c,show dz false=true from rfl,mX,ah (show(!false)=true from rfl)];(try simp only[bR,bz]);rw[anu];(try simp only[bz]);rw[w9 (by simp only[aw,ae,zah,zay,AT,gH];omega)];(try simp only[bz]);rw[Wu];simp only[bz,d6,zam]);(case a2=>dsimp only;rw[aZ (d7 (by show(b.length:Int)<=(b.length:Int);omega)),zak];(try simp only[bR,bz]);try rfl);(case a3=>rw[zbH,List.filter_nil,zaj];rfl);simp only[cN,OF,gT,bz];try rfl
def TT (NN:Nat):((U×(U×U))×(U×(U×U)))->(Option (U×(U×Bool))):=
 (fun((l0,l1,l2),l3,l4,l5)=>
 (Gs (l0,l3)).ab (fun l6=>
 (ki (aM (ae l6)) (aM (ae l6)) 8).ab (fun k7=>
 cN (aq l6 (
 (bh 0 k7 (ae (cj k7 (0:Int)))).ab (fun _=>
 aq l6 (
 cL NN (fun((i8,i9),(cf,eC,de),(dw,dj,eQ),dn,dk)=>
 aD (cI i9 i8)
 ((cM i9 (ae dn)).ab (fun AB=>
 (bW dn (aw 0 AB)).ab (fun fZ=>
 (xY ((cf,eC,de),fZ)).ab (fun eF=>
 (xY ((dw,dj,eQ),fZ)).ab (fun f0=>
 aD (ic (0:Int) eF)
 (aD (ic (0:Int) f0)
 ((cV eC eF).ab (fun kO=>
 (cV dj f0).ab (fun iq=>
 aD (jA kO iq)
 (some (IT (IT (([]:U),([]:U),false))))
 (aD (ic (0:Int) eF)
 ((cV eC eF).ab (fun fO=>
 (cM i9 (ae dk)).ab (fun AE=>
 (bW dk (aw 0 AE)).ab (fun jv=>
 aq dn (
 (bh 0 (ae dk) (ae (be dk (aw 0 AE) fO))).ab (fun _=>
 aq dn (
 some (AN ((i8,bC .i64 i9 1),(cf,eC,de),(dw,dj,eQ),dn,be dk (aw 0 AE) fO)))))))))
 ((cV dj f0).ab (fun iS=>
 (cM i9 (ae dk)).ab (fun tB=>
 (bW dk (aw 0 tB)).ab (fun qK=>
 aq dn (
 (bh 0 (ae dk) (ae (be dk (aw 0 tB) iS))).ab (fun _=>
 aq dn (
 some (AN ((i8,bC .i64 i9 1),(cf,eC,de),(dw,dj,eQ),dn,be dk (aw 0 tB) iS)))))))))))))
 (aD (ic (0:Int) eF)
 ((cV eC eF).ab (fun lm=>
 (cM i9 (ae dk)).ab (fun AF=>
 (bW dk (aw 0 AF)).ab (fun lp=>
 aq dn (
 (bh 0 (ae dk) (ae (be dk (aw 0 AF) lm))).ab (fun _=>
 aq dn (
 some (AN ((i8,bC .i64 i9 1),(cf,eC,de),(dw,dj,eQ),dn,be dk (aw 0 AF) lm)))))))))
 ((cV dj f0).ab (fun oE=>
 (cM i9 (ae dk)).ab (fun Mg=>
 (bW dk (aw 0 Mg)).ab (fun lA=>
 aq dn (
 (bh 0 (ae dk) (ae (be dk (aw 0 Mg) oE))).ab (fun _=>
 aq dn (
 some (AN ((i8,bC .i64 i9 1),(cf,eC,de),(dw,dj,eQ),dn,be dk (aw 0 Mg) oE)))))))))))
 (aD (ic (0:Int) eF)
 ((cV eC eF).ab (fun sq=>
 (cM i9 (ae dk)).ab (fun xw=>
 (bW dk (aw 0 xw)).ab (fun tu=>
 aq dn (
 (bh 0 (ae dk) (ae (be dk (aw 0 xw) sq))).ab (fun _=>
 aq dn (
 some (AN ((i8,bC .i64 i9 1),(cf,eC,de),(dw,dj,eQ),dn,be dk (aw 0 xw) sq)))))))))
 ((cV dj f0).ab (fun tv=>
 (cM i9 (ae dk)).ab (fun Yz=>
 (bW dk (aw 0 Yz)).ab (fun sr=>
 aq dn (
 (bh 0 (ae dk) (ae (be dk (aw 0 Yz) tv))).ab (fun _=>
 aq dn (
 some (AN ((i8,bC .i64 i9 1),(cf,eC,de),(dw,dj,eQ),dn,be dk (aw 0 Yz) tv)))))))))))))))
 ((aq dn (
 aq dk (
 some (AN (dn,dk))))).ab (fun p9=>
 some (IT p9))))
 ((aM (ae l6),(0:Int)),(l0,l1,l2),(l3,l4,l5),l6,cj k7 (0:Int))))))
 (fun(jb,mK)=>
 (cB jb (ae jb)).ab (fun vR=>
 (cB mK (ae mK)).ab (fun CQ=>
 some (vR,CQ,true)))))))
def Gr:=TT aP
theorem atq {La b A Lb a B:U} (ha:La.length=b.length) (hb:Lb.length=a.length) (iJ:La.length<=12) (aBZ:Lb.length<=12) (s:∀v,v∈La->v∈Lb->b.getD (bA La v) 0=a.getD (bA Lb v) 0):
  Gr ((La,b,A),Lb,a,B)=some (jL La Lb,(jL La Lb).map (jd La b Lb a),true):=by
 simp only[Gr,TT,aq];rw[ago La Lb (by omega) (by omega)]
 try simp only[bz]
 have hl:(jL La Lb).length<=24:=by
  unfold jL;rw[AT];have:=zaC (fun x=> !decide (x∈La)) Lb;omega
 have p:∀q,q<(jL La Lb).length->(jL La Lb).getD q 0∈La\/(jL La Lb).getD q 0∈Lb:=fun q j=>AA (fR j);generalize jL La Lb=S at hl p;rw[zf (by simp only[ae,gH];omega)]
 try simp only[bz,bR]
 rw[show bh 0 (ae S) (ae (cj (ae S) (0:Int)))=some () from lU (by simp[ae,cj])]
 try simp only[bz]
 rw[gw (fun i=>((aM (ae S),(i:Int)),(La,b,A),(Lb,a,B),S,dL S.length (fun q=>if q<i then jd La b Lb a (S.getD q 0) else 0))) S.length ?a1 ?a2 ?a3 eZ]
 case a1=>
  intro i hi;dsimp only
  rw[bL (eD (by show(i:Int)<(S.length:Int);omega)),kI (by show i<S.length;omega)]
  try simp only[bz]
  rw[mw,show bW S i=some (S.getD i 0) from o9 hi]
  try simp only[bz]
  generalize hv:S.getD i 0=v;rw[show xY ((La,b,A),v)=some (tg La v) from ah (by dsimp only;omega),show xY ((Lb,a,B),v)=some (tg Lb v) from ah (by dsimp only;omega)]
  try simp only[bz]
  have l:∀x,x=jd La b Lb a v->be (dL S.length (fun q=>if q<i then jd La b Lb a (S.getD q 0) else 0)) (aw 0 i) x=dL S.length (fun q=>if q<i+1 then jd La b Lb a (S.getD q 0) else 0):=fun x hx=>by
   rw[mw];exact azC (fun q=>jd La b Lb a (S.getD q 0)) i x (by rw[hx,hv])
  have k:∀x:Int,bW (dL S.length (fun q=>if q<i then jd La b Lb a (S.getD q 0) else 0)) (aw 0 i)=some (if i<i then jd La b Lb a (S.getD i 0) else 0):=fun _=>by rw[mw];exact Ld _ hi
  have hm:=p i hi;rw[hv] at hm;by_cases g:v∈La
  ·have p1:=xI.2 g;have n:tg La v=((bA La v:Nat):Int):=ah p1;have o:cV b ((bA La v:Nat):Int)=some (b.getD (bA La v) 0):=by rw[fC,o9]
   have hj:jd La b Lb a v=b.getD (bA La v) 0:=ah p1;have r:ic 0 ((bA La v:Nat):Int)=true:=CW;rw[n,r,mX];by_cases d:v∈Lb
   ·have c:=xI.2 d;have f:tg Lb v=((bA Lb v:Nat):Int):=ah c;have m:cV a ((bA Lb v:Nat):Int)=some (a.getD (bA Lb v) 0):=by rw[fC,o9]
    rw[f,show ic 0 ((bA Lb v:Nat):Int)=true from CW,mX,o]
    try simp only[bz]
    rw[m]
    try simp only[bz]
    rw[aZ (sJ (s v g d)),mX,GX _ hi]
    try simp only[bz]
    rw[k 0]
    try simp only[bz]
    rw[l _ hj.symm,Cb]
    try simp only[bz,bR]
    rw[wQ]
   ·have c:¬bA Lb v<Lb.length:=fun h=>d (xI.1 h);have f:tg Lb v= -1:=ak c;rw[f,show ic 0 (-1:Int)=false from rfl,mW,mX,o]
    try simp only[bz]
    rw[GX _ hi]
    try simp only[bz]
    rw[k 0]
    try simp only[bz]
    rw[l _ hj.symm,Cb]
    try simp only[bz,bR]
    rw[wQ]
  ·have p1:¬bA La v<La.length:=fun h=>g (xI.1 h);have n:tg La v= -1:=ak p1;have d:v∈Lb:=hm.resolve_left g;have c:=xI.2 d;have f:tg Lb v=((bA Lb v:Nat):Int):=ah c;have m:cV a ((bA Lb v:Nat):Int)=some (a.getD (bA Lb v) 0):=by rw[fC,o9]
   have hj:jd La b Lb a v=a.getD (bA Lb v) 0:=ak p1;rw[n,f,show ic 0 (-1:Int)=false from rfl,mW,mW,m]
   try simp only[bz]
   rw[GX _ hi]
   try simp only[bz]
   rw[k 0]
   try simp only[bz]
   rw[l _ hj.symm,Cb]
   try simp only[bz,bR]
   rw[wQ]
 case a2=>
  dsimp only
  rw[aZ (d7 (by show(S.length:Int)<=(S.length:Int);omega))]
  try simp only[bR,bz]
  try rfl
 case a3=>
  rw[Na];rfl
 have e:dL S.length (fun q=>if q<S.length then jd La b Lb a (S.getD q 0) else 0)=S.map (jd La b Lb a):=by
  rw[<-ZM];exact n4 fun q j=>ah j
 rw[e];simp only[cN,OF,gT,bz]
theorem ayI {D:U} (h:∀x∈D,1<=x/\x<=8) (hl:D.length<=1000) (hp:aU D<=1073741824):BE D=some (aU D:Int):=by rw[<-AV (D:=D) fun x hx=>(h x hx).1];exact ah ⟨.inr ⟨hl,hp⟩,h⟩
theorem ajY {f:Int->Int} {p:Int->Bool}:∀{l:U},(∀v∈l,1<=f v)->aU ((l.filter p).map f)<=aU (l.map f)
 |[],_=>zae _
 |v::l,h=>by
  have a:=ajY (f:=f) (p:=p) (l:=l) fun v b=>h v (by simp[b]);have h1:=h v (by simp);cases hp:p v with
  |true=>rw[zaH hp];simp only[zaP,aU];exact Nat.mul_le_mul_left _ a
  |false=>
   rw[zaI (by rw[hp];decide)];simp only[zaP,aU]
   calc aU ((l.filter p).map f)<=aU (l.map f):=a
    _=1*aU (l.map f):=(zag _).symm
    _<=(f v).toNat*aU (l.map f):=Pe _ (by omega)
structure kZ (La Da Lb Db:U):Prop where
 xa:mz La Da=true
 xb:mz Lb Db=true
 pa:aU Da<=4096
 pb:aU Db<=4096
 c:∀v,v∈La->v∈Lb->Da.getD (bA La v) 0=Db.getD (bA Lb v) 0
section
variable {La Da Lb Db:U}
theorem kZ.dv (H:kZ La Da Lb Db) {v:Int} (a:v∈jL La Lb):1<=jd La Da Lb Db v/\jd La Da Lb Db v<=8:=by have l1:=(mA H.xa).2.1;have l2:=(mA H.xb).2.1;unfold jd;by_cases ha:v∈La;have:=gI ha;rw[ah this];exact wS H.xa _ (fR (by omega));have:=gI ((AA a).resolve_left ha);rw[ak fun q=>ha (xI.1 q)];exact wS H.xb _ (fR (by omega))
theorem kZ.d8 (H:kZ La Da Lb Db):∀x∈dm La Da Lb Db,1<=x/\x<=8:=fun x hx=>by obtain⟨v,a,rfl⟩:=If.1 hx;exact H.dv a
theorem kZ.h9 (H:kZ La Da Lb Db):(jL La Lb).length<=24:=by have:=Qe La Lb;have:=(mA H.xa).1;have:=(mA H.xb).1;omega
theorem H9 (La b Lb a:U):(dm La b Lb a).length=(jL La Lb).length:=AI ..
theorem kZ.p24 (H:kZ La Da Lb Db):aU (dm La Da Lb Db)<=16777216:=by have l1:=(mA H.xa).2.1;have l2:=(mA H.xb).2.1;have e:dm La Da Lb Db=La.map (jd La Da Lb Db)++((Lb.filter fun x=> !decide (x∈La)).map (jd La Da Lb Db)):=(by unfold dm jL;rw[zaE]);rw[e,ajW,avD (wT H.xa) l1];have c:(Lb.filter fun x=> !decide (x∈La)).map (jd La Da Lb Db)=(Lb.filter fun x=> !decide (x∈La)).map fun v=>Db.getD (bA Lb v) 0:=zar fun v a=>(by have:=(zap.1 a).2;unfold jd;rw[ak fun q=>by simp[xI.1 q] at this]);have d:Lb.map (fun v=>Db.getD (bA Lb v) 0)=Db:=(by refine zY (by rw[AI];exact l2) fun i hi=>?_;rw[AI] at hi;rw[mZ hi,kR (wT H.xb) hi]);have b:=ajY (f:=fun v=>Db.getD (bA Lb v) 0) (p:=fun x=> !decide (x∈La)) (l:=Lb) fun v a=>(wS H.xb _ (fR (by have:=gI a;omega))).1;rw[d] at b;rw[c];have:=IS H.pa (zax b H.pb);omega
theorem kZ.as6 (H:kZ La Da Lb Db) (A B:U):Gr ((La,Da,A),Lb,Db,B)=some (jL La Lb,dm La Da Lb Db,true):= atq (mA H.xa).2.1 (mA H.xb).2.1 (mA H.xa).1 (mA H.xb).1 H.c
end
def ahb (La Lb:U) (m:Int) (x y:U) (i:Nat):Prop:=La.getD i 0∈Lb->(x.getD i 0+y.getD (bA Lb (La.getD i 0)) 0)%m=0
instance (La Lb:U) (m:Int) (x y:U):DecidablePred (ahb La Lb m x y):=fun i=>by unfold ahb;infer_instance
section
variable {La Da Lb Db x y:U} {Ra Rb:List U} {m:Int}
end
def aja (La Da:U) (Ra:List U) (Lb Db:U) (Rb:List U) (m:Int) (i:Nat):Prop:=
 La.getD i 0∈Lb->Da.getD i 0=Db.getD (bA Lb (La.getD i 0)) 0/\∀t,t<(Ra.getD i []).length->((Ra.getD i []).getD t 0+(Rb.getD (bA Lb (La.getD i 0)) []).getD t 0)%m=0
instance (La Da:U) (Ra:List U) (Lb Db:U) (Rb:List U) (m:Int):DecidablePred (aja La Da Ra Lb Db Rb m):=fun i=>by unfold aja;infer_instance
section
variable {La Da Lb Db:U} {Ra Rb:List U} {m:Int}
end
def acs:aF:=[(.agg,[.int .i64,.int .i64,.int .i64]),(.one,[.list [.int .i64]]),(.one,[.list [.int .i64]])]
def BK (NN:Nat):(Int×(Int×((Int×(Int×Int))×(U×U))))->(Option U):=
 (fun(i0,i1,(i2,i3,i4),l5,l6)=>
 (jg i0 i1 (ae l5)).ab (fun(k7,k8)=>
 cN (aD (bq i2 (1:Int))
 (some (AN ((true,i2,(k7,k8),l6),l5,i2,i3,i4)))
 (some (AN ((bq i2 (5:Int),i2,(k7,k8),l6),l5,i2,i3,i4))))
 (fun((b9,gd,(mJ,pZ),dw),dj,jO,fy,eP)=>
 aD (b9)
 ((cM (0:Int) pZ).ab (fun AB=>
 (bW dj (aw mJ AB)).ab (fun fZ=>
 (cV dw (0:Int)).ab (fun eF=>
 (cM (0:Int) pZ).ab (fun AD=>
 (bW dj (aw mJ AD)).ab (fun kO=>
 (qT (ae (be dj (aw mJ AD) (nX fZ eF))) (ae l5)).ab (fun _=>
 some (be dj (aw mJ AD) (nX fZ eF)))))))))
 (aD (bq gd (3:Int))
 ((cM (0:Int) pZ).ab (fun Mf=>
 (bW dj (aw mJ Mf)).ab (fun fO=>
 (cV dw (0:Int)).ab (fun mI=>
 (cM (0:Int) pZ).ab (fun Yv=>
 (bW dj (aw mJ Yv)).ab (fun iS=>
 (qT (ae (be dj (aw mJ Yv) (iw (bC .i64 fO mI) fy))) (ae l5)).ab (fun _=>
 some (be dj (aw mJ Yv) (iw (bC .i64 fO mI) fy)))))))))
 (aD (bq gd (4:Int))
 ((cM (0:Int) pZ).ab (fun tB=>
 (bW dj (aw mJ tB)).ab (fun qK=>
 (cV dw (0:Int)).ab (fun lm=>
 (cM (0:Int) pZ).ab (fun AF=>
 (bW dj (aw mJ AF)).ab (fun lp=>
 (qT (ae (be dj (aw mJ AF) (iw qK lm))) (ae l5)).ab (fun _=>
 some (be dj (aw mJ AF) (iw qK lm)))))))))
 (aD (bq gd (6:Int))
 ((cM (0:Int) pZ).ab (fun vO=>
 (bW dj (aw mJ vO)).ab (fun kf=>
 (cV dw (0:Int)).ab (fun lA=>
 (cM (0:Int) pZ).ab (fun Yy=>
 (bW dj (aw mJ Yy)).ab (fun EP=>
 (qT (ae (be dj (aw mJ Yy) (ID .i64 kf lA))) (ae l5)).ab (fun _=>
 some (be dj (aw mJ Yy) (ID .i64 kf lA)))))))))
 (cL NN (fun(((Qi,Mh),qN,sr,xt),jb,Aw,Ax,tw)=>
 aD (cI xt sr)
 ((cM xt Mh).ab (fun k47=>
 (bW jb (aw Qi k47)).ab (fun vK=>
 (cV qN xt).ab (fun EQ=>
 (nj (bC .i64 vK EQ) Ax).ab (fun X7=>
 (cM xt Mh).ab (fun k51=>
 (bW jb (aw Qi k51)).ab (fun i52=>
 some (AN (((Qi,Mh),qN,sr,bC .i64 xt 1),be jb (aw Qi k51) X7,Aw,Ax,tw)))))))))
 (((qT (ae jb) (ae l5)).ab (fun _=>
 some jb)).ab (fun rF=>
 some (IT rF))))
 (((mJ,pZ),dw,aM pZ,(0:Int)),dj,jO,fy,eP))))))))
def mU:=BK aP
theorem afq {xs u:U} {o i:Nat} (ho:o+u.length<=xs.length) (hi:i<u.length):bW (iC xs o u) (aw o i)=some (u.getD i 0):=by show(iC xs o u)[o+i]? =_;unfold iC;rw[zam,zac (by rw[IN];omega),IN,zbe (by omega),zaq,zaf hi,getD_some 0 hi]
theorem al6 {xs u:U} {o i:Nat} (ho:o+u.length<=xs.length) (hi:i<u.length) (v:Int):be (iC xs o u) (aw o i) v=iC xs o (be u i v):=by show(iC xs o u).set (o+i) v=iC xs o (u.set i v);unfold iC;rw[zam,zbw _ _ (by rw[IN];omega),IN,zbe (by omega),zaq,List.set_append_left _ _ hi,zaO,zam]
theorem azf {xs:U} {o w:Nat} (ho:o+w<=xs.length):iC xs o (fG xs o w)=xs:=by
 have hl:(fG xs o w).length=w:=by unfold fG;rw[IN,zaz];omega
 unfold iC;rw[hl];unfold fG;rw[zam,<-zbG,za2,za2]
theorem aze {xs u:U} {o:Nat} (ho:o+u.length<=xs.length):(iC xs o u).length=xs.length:=by unfold iC;rw[AT,AT,IN,zaz];omega
theorem UK {r:Rg} {xs y:U} {lo:Nat} (hr:bc r=true) (q:lo+az r<=xs.length) (hx:bm r (fG xs lo (az r))=true) (hy:bm r y=true): mU ((lo:Int),((lo+az r:Nat):Int),r,xs,y)=some (iC xs lo (cA r (fG xs lo (az r)) y)):=by obtain⟨k,p,n⟩:=r;have D:=zz hr;have x:=azf (xs:=xs) (o:=lo) (w:=az (k,p,n)) q;have B:=fJ hx;have one:az (k,p,n)=1->∃a b,fG xs lo (az (k,p,n))=[a]/\y=[b]/\(0<=a/\a<=cr (k,p,n))/\(0<=b/\b<=cr (k,p,n))/\xs[lo]? =some a/\∀v,iC xs lo [v]=be xs lo v:=(by intro z;obtain⟨c,m⟩:=zW hx z;obtain⟨d,t⟩:=zW hy z;have g:=afq (xs:=xs) (u:=fG xs lo (az (k,p,n))) (o:=lo) (i:=0) (by omega) (by omega);rw[x,aw] at g;refine⟨_,_,c,d,m,t,?_,fun v=>?_⟩;have:(fG xs lo (az (k,p,n))).getD 0 0=cE (fG xs lo (az (k,p,n))) 0:=(by unfold cE;rfl);rw[<-this];exact g;have s:=al6 (xs:=xs) (u:=fG xs lo (az (k,p,n))) (o:=lo) (i:=0) (by omega) (by omega) v;rw[x] at s;have:be (fG xs lo (az (k,p,n))) 0 v=[v]:=(by rw[c];rfl);rw[this] at s;exact s.symm);have l:jg (lo:Int) ((lo+az (k,p,n):Nat):Int) (ae xs)=some (lo,az (k,p,n)):=(by rw[aay (by omega) (by show lo+az (k,p,n)<=xs.length;omega),zaq]);have loop:∀k,(k=2\/k=7\/k=8)->kg p=true->bc (k,p,n)=true->jg (lo:Int) ((lo+az (k,p,n):Nat):Int) (ae xs)=some (lo,az (k,p,n))->lo+az (k,p,n)<=xs.length->iC xs lo (fG xs lo (az (k,p,n)))=xs-> bm (k,p,n) (fG xs lo (az (k,p,n)))=true->bm (k,p,n) y=true->mU ((lo:Int),((lo+az (k,p,n):Nat):Int),(k,p,n),xs,y)=some (iC xs lo (cA (k,p,n) (fG xs lo (az (k,p,n))) y)):=(by intro k hk hp hr l q x hx hy;have hm:=me hp;have B:=fJ hx;have Xl:=fJ hy;have z:=ku hr;have D:=zz hr;have A:∀a b,jf (k,p,n) a b=(a+b)%p:=(by intro a b;simp only[jf];rw[ak (by omega),ak (by omega),ak (by omega),ak (by omega)]);have xr:cr (k,p,n)=p - 1:=(by simp only[cr];rw[ak (by omega),ak (by omega),ak (by omega)]);generalize hX:fG xs lo (az (k,p,n))=X at*;simp only[mU,BK,yi];rw[l];simp only[bz];rw[ak (by omega),te (a:=k) (b:=5) (by omega),fU];simp only;rw[aZ rfl,ak (by omega),ak (by omega),ak (by omega)];have tl:∀f,(gN (az (k,p,n)) f).length=az (k,p,n):=fun f=>ze _ f;have E:∀f,(iC xs lo (gN (az (k,p,n)) f)).length=xs.length:=fun f=>aze (by rw[tl];exact q);rw[gw (fun i=>(((lo,az (k,p,n)),y,aM (az (k,p,n)),(i:Int)),iC xs lo (gN (az (k,p,n)) (xR (fun j=>jf (k,p,n) (cE X j) (cE y j)) (cE X) i)),k,p,n)) (az (k,p,n)) ?a1 ?a2 ?a3 eZ];(case a3=>rw[aBk,NI B,x];rfl);(case a2=>simp only;rw[aZ (d7 (by simp only[aM];omega)),aBm];rw[xJ (show ae (iC xs lo _)=ae xs from E _),bz,bz];rfl);case a1=>intro i hi;have m:=vn hx hi;have t:=vn hy hi;simp only;have C:bW (iC xs lo (gN (az (k,p,n)) (xR (fun j=>jf (k,p,n) (cE X j) (cE y j)) (cE X) i))) (aw lo i)=some (cE X i):=(by rw[afq (by rw[tl];exact q) (by rw[tl];exact hi)];have:=afs (w:=az (k,p,n)) (xR (fun j=>jf (k,p,n) (cE X j) (cE y j)) (cE X) i) hi;rw[aBl,mw] at this;have e:bW (gN (az (k,p,n)) (xR (fun j=>jf (k,p,n) (cE X j) (cE y j)) (cE X) i)) i=some ((gN (az (k,p,n)) (xR (fun j=>jf (k,p,n) (cE X j) (cE y j)) (cE X) i)).getD i 0):=getD_some 0 (by rw[tl];exact hi);rw[<-e,this]);rw[bL (eD (by simp only[aM];omega)),kI hi,bz,C,bz,Ww,bz,ez,vZ,bz,bz,C,bz];have hn:=aBn (f:=fun j=>jf (k,p,n) (cE X j) (cE y j)) (g:=cE X) (w:=az (k,p,n)) (i:=i);rw[mw] at hn;rw[<-A,al6 (by rw[tl];exact q) (by rw[tl];exact hi),hn,ez];rfl);rcases nk hr with⟨rfl,rfl,rfl⟩|⟨rfl,hp,rfl⟩|⟨rfl,hp,rfl⟩|⟨rfl,hp,rfl⟩|⟨rfl,hp,rfl⟩|⟨rfl,rfl,hn⟩|⟨rfl,hp,hn⟩|⟨rfl,hp,iR,rfl⟩;obtain⟨a,b,c,d,m,t,g,hs⟩:=one rfl;rw[c,d,Ke rfl,hs];have h:mU ((lo:Int),((lo+1:Nat):Int),((1:Int),(0:Int),(0:Int)),xs,[b])=some (be xs lo (nX a b)):=(by simp only[mU,BK];rw[show jg (lo:Int) ((lo+1:Nat):Int) (ae xs)=some (lo,1) from l];simp only[bz];rw[show bq (1:Int) 1=true from rfl,mX];simp only[cN,OF,mX];rw[show cM (0:Int) 1=some 0 from rfl];simp only[bz];rw[show bW xs (aw lo 0)=some a from g,show cV [b] (0:Int)=some b from rfl];simp only[bz];rw[xJ (by show(be xs (aw lo 0) _).length=_;simp[be,ae])];rfl);rw[show az ((1:Int),(0:Int),(0:Int))=1 from rfl] at*;rw[h,avE m t];rfl;exact loop 2 (.inl rfl) hp hr l q x hx hy;obtain⟨a,b,c,d,m,t,g,hs⟩:=one rfl;rw[c,d,Ke rfl,hs];have h:mU ((lo:Int),((lo+1:Nat):Int),((3:Int),p,(0:Int)),xs,[b])=some (be xs lo (iw (bC .i64 a b) p)):=(by simp only[mU,BK];rw[show jg (lo:Int) ((lo+1:Nat):Int) (ae xs)=some (lo,1) from l];simp only[bz];rw[show bq (3:Int) 1=false from rfl,mW];simp only[cN,OF];rw[show bq (3:Int) 5=false from rfl,mW,show bq (3:Int) 3=true from rfl,mX];rw[show cM (0:Int) 1=some 0 from rfl];simp only[bz];rw[show bW xs (aw lo 0)=some a from g,show cV [b] (0:Int)=some b from rfl];simp only[bz];rw[xJ (by show(be xs (aw lo 0) _).length=_;simp[be,ae])];rfl);rw[show az ((3:Int),p,(0:Int))=1 from rfl] at*;rw[h,ez,AK];rfl;obtain⟨a,b,c,d,m,t,g,hs⟩:=one rfl;rw[c,d,Ke rfl,hs];have h:mU ((lo:Int),((lo+1:Nat):Int),((4:Int),p,(0:Int)),xs,[b])=some (be xs lo (iw a b)):=(by simp only[mU,BK];rw[show jg (lo:Int) ((lo+1:Nat):Int) (ae xs)=some (lo,1) from l];simp only[bz];rw[show bq (4:Int) 1=false from rfl,mW];simp only[cN,OF];rw[show bq (4:Int) 5=false from rfl,mW,show bq (4:Int) 3=false from rfl,mW,show bq (4:Int) 4=true from rfl,mX];rw[show cM (0:Int) 1=some 0 from rfl];simp only[bz];rw[show bW xs (aw lo 0)=some a from g,show cV [b] (0:Int)=some b from rfl];simp only[bz];rw[xJ (by show(be xs (aw lo 0) _).length=_;simp[be,ae])];rfl);rw[show az ((4:Int),p,(0:Int))=1 from rfl] at*;rw[h,AK];rfl;obtain⟨a,b,c,d,m,t,g,hs⟩:=one rfl;rw[c,d,Ke rfl,hs];have h:mU ((lo:Int),((lo+1:Nat):Int),((5:Int),p,(0:Int)),xs,[b])=some (be xs lo (nX a b)):=(by simp only[mU,BK];rw[show jg (lo:Int) ((lo+1:Nat):Int) (ae xs)=some (lo,1) from l];simp only[bz];rw[show bq (5:Int) 1=false from rfl,mW];simp only[cN,OF];rw[show bq (5:Int) 5=true from rfl,mX];rw[show cM (0:Int) 1=some 0 from rfl];simp only[bz];rw[show bW xs (aw lo 0)=some a from g,show cV [b] (0:Int)=some b from rfl];simp only[bz];rw[xJ (by show(be xs (aw lo 0) _).length=_;simp[be,ae])];rfl);rw[show az ((5:Int),p,(0:Int))=1 from rfl] at*;rw[h,QG];rfl;obtain⟨a,b,c,d,m,t,g,hs⟩:=one rfl;rw[c,d,Ke rfl,hs];have h:mU ((lo:Int),((lo+1:Nat):Int),((6:Int),(0:Int),n),xs,[b])=some (be xs lo (ID .i64 a b)):=(by simp only[mU,BK];rw[show jg (lo:Int) ((lo+1:Nat):Int) (ae xs)=some (lo,1) from l];simp only[bz];rw[show bq (6:Int) 1=false from rfl,mW];simp only[cN,OF];rw[show bq (6:Int) 5=false from rfl,mW,show bq (6:Int) 3=false from rfl,mW,show bq (6:Int) 4=false from rfl,mW,show bq (6:Int) 6=true from rfl,mX];rw[show cM (0:Int) 1=some 0 from rfl];simp only[bz];rw[show bW xs (aw lo 0)=some a from g,show cV [b] (0:Int)=some b from rfl];simp only[bz];rw[xJ (by show(be xs (aw lo 0) _).length=_;simp[be,ae])];rfl);rw[show az ((6:Int),(0:Int),n)=1 from rfl] at*;rw[h,axL];rfl;exact loop 7 (.inr (.inl rfl)) hp hr l q x hx hy;exact loop 8 (.inr (.inr rfl)) hp hr l q x hx hy
def Tj (NN:Nat):((Int×(Int×Int))×((U×(U×U))×((U×(U×U))×U)))->(Option ((U×(U×U))×Bool)):=
 (fun((i0,i1,i2),(l3,l4,l5),(l6,l7,l8),l9)=>
 (qX ((i0,i1,i2),l3,l4,l5)).ab (fun ra=>
 aD (dz ra)
 (some ((([]:U),([]:U),([]:U)),false))
 ((qX ((i0,i1,i2),l6,l7,l8)).ab (fun DX=>
 aD (dz DX)
 (some ((([]:U),([]:U),([]:U)),false))
 ((Gr ((l3,l4,l5),l6,l7,l8)).ab (fun(de,dw,b14)=>
 aD (dz b14)
 (some ((([]:U),([]:U),([]:U)),false))
 ((cg dw 0 (ae dw)).ab (fun eQ=>
 (BE eQ).ab (fun fy=>
 aD (cI (65536:Int) fy)
 (some ((([]:U),([]:U),([]:U)),false))
 ((cg de 0 (ae de)).ab (fun dk=>
 (JL (dk,l9)).ab (fun eG=>
 (ki (aM (ae eG)) (aM (ae eG)) 8).ab (fun Yt=>
 cN (aq de (
 aq dw (
 aq eG (
 (bh 0 0 (ae (([]:U)))).ab (fun _=>
 (bh 0 0 (ae (([]:U)))).ab (fun _=>
 (bh 0 0 (ae (([]:U)))).ab (fun _=>
 aq eG (
 (bh 0 Yt (ae (cj Yt (0:Int)))).ab (fun _=>
 (bh 0 0 (ae (([]:U)))).ab (fun _=>
 cL NN (fun((eF,f0),(kO,iq,fO),(gR,iv,ja),(gX,iT,kQ),kE,uU,pj,sv,pn,jw,jZ,nW)=>
 aD (cI f0 eF)
 (cN ((cM f0 (ae sv)).ab (fun Mh=>
 (bW sv (aw 0 Mh)).ab (fun rB=>
 aq jZ (
 aq nW (
 aq sv (
 aq jZ (
 aq kE (
 aq uU (
 aq pj (
 aq sv (
 aq pn (
 aq jw (
 cL NN (fun((sr,xt,Av,Aw,Ax,tw),(vJ,vK,EQ),(sx,rE,qO),(rF,xz,xA),uV,tE,rG,sC,xB,CR,y6,sD)=>
 aD (cI tw Ax)
 ((cM tw (ae y6)).ab (fun k64=>
 (bW y6 (aw 0 k64)).ab (fun Ay=>
 aD (bq Ay xt)
 ((cM tw (ae sD)).ab (fun k66=>
 (bW sD (aw 0 k66)).ab (fun i67=>
 (cM sr (ae xB)).ab (fun YD=>
 (bW xB (aw 0 YD)).ab (fun L5=>
 aq y6 (
 aq sD (
 aq sC (
 aq y6 (
 aq uV (
 aq tE (
 aq rG (
 aq sC (
 (bh 0 (ae xB) (ae (be xB (aw 0 YD) i67))).ab (fun _=>
 aq CR (
 some (AN ((sr,xt,Av,Aw,Ax,bC .i64 tw 1),(vJ,vK,EQ),(sx,rE,qO),(rF,xz,xA),uV,tE,rG,sC,be xB (aw 0 YD) i67,CR,y6,sD)))))))))))))))))
 (aq y6 (
 aq sD (
 aq sC (
 aq y6 (
 aq uV (
 aq tE (
 aq rG (
 aq sC (
 aq xB (
 aq CR (
 some (AN ((sr,xt,Av,Aw,Ax,bC .i64 tw 1),(vJ,vK,EQ),(sx,rE,qO),(rF,xz,xA),uV,tE,rG,sC,xB,CR,y6,sD))))))))))))))))
 ((aq y6 (
 aq sD (
 aq sC (
 aq uV (
 aq tE (
 aq rG (
 aq sC (
 aq xB (
 aq CR (
 some (AN ((Aw,Av),(vJ,vK,EQ),(sx,rE,qO),(rF,xz,xA),uV,tE,rG,sC,xB,CR,y6,sD)))))))))))).ab (fun CS=>
 some (IT CS))))
 ((f0,rB,eF,f0,aM (ae jZ),(0:Int)),(kO,iq,fO),(gR,iv,ja),(gX,iT,kQ),kE,uU,pj,sv,pn,jw,jZ,nW))))))))))))))
 (fun((i71,i72),(i73,HZ,H4),(YH,YI,y7),(y8,sE,y9),uY,tF,uZ,sF,l86,zd,CU,CV)=>
 aq CU (
 aq CV (
 aq sF (
 aq uY (
 aq tF (
 aq uZ (
 aq sF (
 aq l86 (
 aq zd (
 some (AN ((i72,bC .i64 i71 1),(i73,HZ,H4),(YH,YI,y7),(y8,sE,y9),uY,tF,uZ,sF,l86,zd,CU,CV)))))))))))))
 ((aq jZ (
 aq nW (
 aq kE (
 aq uU (
 aq pj (
 aq sv (
 aq pn (
 aq jw (
 some (AN ((kO,iq,fO),(gR,iv,ja),(gX,iT,kQ),kE,uU,pj,sv,pn,jw,jZ,nW))))))))))).ab (fun YJ=>
 some (IT YJ))))
 ((aM (ae eG),(0:Int)),(i0,i1,i2),(l3,l4,l5),(l6,l7,l8),([]:U),([]:U),([]:U),eG,cj Yt (0:Int),([]:U),de,dw)))))))))))
 (fun((CF,CG,CH),(Qz,l95,l96),(l97,Mq,Fh),yX,Mj,Mk,E2,E3,E4,uR,CM)=>
 (cg E2 0 (ae E2)).ab (fun E5=>
 (cg E3 0 (ae E3)).ab (fun E6=>
 (cg E4 0 (ae E4)).ab (fun au0=>
 (zB (E5,E6,au0)).ab (fun XW=>
 aD (bq XW ((-1:Int)))
 (some ((([]:U),([]:U),([]:U)),false))
 ((ve (CF,CG,CH)).ab (fun E7=>
 (cg E2 0 (ae E2)).ab (fun agv=>
 (cg E3 0 (ae E3)).ab (fun Qk=>
 (cg E7 0 (ae E7)).ab (fun Ql=>
 (xZ ((CF,CG,CH),agv,Qk,Ql)).ab (fun(E8,E9,yY)=>
 (cg uR 0 (ae uR)).ab (fun Fa=>
 (vf ((Qz,l95,l96),Fa)).ab (fun CN=>
 (cg uR 0 (ae uR)).ab (fun Fb=>
 (vf ((l97,Mq,Fh),Fb)).ab (fun agw=>
 (cg E8 0 (ae E8)).ab (fun Qm=>
 (cg E9 0 (ae E9)).ab (fun Qn=>
 (cg yY 0 (ae yY)).ab (fun Qo=>
 (cg uR 0 (ae uR)).ab (fun Ia=>
 (vf ((Qm,Qn,Qo),Ia)).ab (fun Ml=>
 (ki (aM (ae uR)) (aM (ae uR)) 8).ab (fun Yp=>
 (ov (CF,CG,CH)).ab (fun PZ=>
 (ki PZ PZ 8).ab (fun Yq=>
 aq CM (
 aq CN (
 aq agw (
 aq Ml (
 (bh 0 Yp (ae (cj Yp (0:Int)))).ab (fun _=>
 (bh 0 Yq (ae (cj Yq (0:Int)))).ab (fun _=>
 aq yX (
 aq Mj (
 aq Mk (
 aq E8 (
 aq E9 (
 aq yY (
 cL NN (fun((Cy,CA,yQ),(agy,agz,agA),(Qp,Qq,agB),Mm,Mn,Mo,vP,uS,vQ,Fc,Ib,Qr,Qs,AG,Qt)=>
 (cg Ib 0 (ae Ib)).ab (fun au4=>
 (cg AG 0 (ae AG)).ab (fun au5=>
 (wH (au4,au5)).ab (fun L4=>
 (wI ((Cy,CA,yQ),(agy,agz,agA),L4)).ab (fun agC=>
 (cg Qr 0 (ae Qr)).ab (fun Qu=>
 (cg AG 0 (ae AG)).ab (fun xx=>
 (wH (Qu,xx)).ab (fun asZ=>
 (wI ((Cy,CA,yQ),(Qp,Qq,agB),asZ)).ab (fun uT=>
 aq Qt (
 (BD ((Cy,CA,yQ),Qt,agC,uT)).ab (fun yZ=>
 (cg Qs 0 (ae Qs)).ab (fun CP=>
 (cg AG 0 (ae AG)).ab (fun au6=>
 (wH (CP,au6)).ab (fun as0=>
 (cg vP 0 (ae vP)).ab (fun Qv=>
 (cg uS 0 (ae uS)).ab (fun YF=>
 aq vQ (
 (zC ((Cy,CA,yQ),(Qv,YF,vQ),as0)).ab (fun(as1,as2)=>
 (jg as1 as2 (ae vQ)).ab (fun(Qh,agq)=>
 (bW vQ Qh).ab (fun aCc=>
 (cg vQ Qh agq).ab (fun Ic=>
 aq vQ (
 (cg yZ 0 (ae Qt)).ab (fun Fe=>
 (mU (aM Qh,aM (aw Qh agq),(Cy,CA,yQ),vQ,Fe)).ab (fun AH=>
 (cg Fc 0 (ae Fc)).ab (fun YG=>
 aq AG (
 (vd (YG,AG)).ab (fun(aor,agG)=>
 aD (dz aor)
 (((cB vP (ae vP)).ab (fun au9=>
 (cB uS (ae uS)).ab (fun ava=>
 (cB AH (ae vQ)).ab (fun avb=>
 some ((au9,ava,avb),true))))).ab (fun(((avc,agH,agI),aos):((U×(U×U))×Bool))=>
 some (IT ((avc,agH,agI),aos))))
 (aq Fc (
 aq Ib (
 aq Qr (
 aq Qs (
 (bh 0 (ae AG) (ae agG)).ab (fun _=>
 (bh 0 (ae Qt) (ae yZ)).ab (fun _=>
 aq Mm (
 aq Mn (
 aq Mo (
 aq vP (
 aq uS (
 (bh 0 (ae vQ) (ae AH)).ab (fun _=>
 some (AN ((Cy,CA,yQ),(agy,agz,agA),(Qp,Qq,agB),Mm,Mn,Mo,vP,uS,AH,Fc,Ib,Qr,Qs,agG,yZ))))))))))))))))))))))))))))))))))))))))))
 ((CF,CG,CH),(Qz,l95,l96),(l97,Mq,Fh),yX,Mj,Mk,E8,E9,yY,CM,CN,agw,Ml,cj Yp (0:Int),cj Yq (0:Int))))))))))))))))))))))))))))))))))))))))))))))))))
def Bx:=Tj aP
def s8 (J DS S:U) (k i q:Nat):Int:=if q<k\/(q=k/\bA J (S.getD k 0)<i) then DS.getD q 0 else 0
def Mi (La Lb keep:U):U:=(jL La Lb).filter fun x=>decide (x∈keep)
def yj (r:Rg) (La Da A Lb Db B S:U):T3:=(S,S.map (jd La Da Lb Db),dR (fun n=>kK r (wB r La Da A Lb Db B) (C1 La Da Lb Db S (S.map (jd La Da Lb Db))) n (aU (dm La Da Lb Db))) (aU (S.map (jd La Da Lb Db))))
def OS (r:Rg) (La Da A Lb Db B S:U):T3×Bool:=
 if aU (dm La Da Lb Db)<=65536/\0<=iF S (S.map (jd La Da Lb Db)) then(yj r La Da A Lb Db B S,true) else(([],[],[]),false)
theorem kZ.xL {La a Lb c:U} (H:kZ La a Lb c):Sub La a (jL La Lb) (dm La a Lb c):=by have na:=wT H.xa;refine⟨na,Qf na (wT H.xb),yW,(mA H.xa).2.1,H9 ..,fun i hi=>?_,fun x hx=>(H.d8 x hx).1⟩;have d:=yW (b:=Lb) _ (fR hi);unfold dm;rw[mZ (gI d),pw d];unfold jd;rw[kR na hi,ah hi]
theorem kZ.Dw {La d Lb b:U} (H:kZ La d Lb b):Sub Lb b (jL La Lb) (dm La d Lb b):=by have na:=wT H.xa;have nb:=wT H.xb;refine⟨nb,Qf na nb,CK,(mA H.xb).2.1,H9 ..,fun i hi=>?_,fun x hx=>(H.d8 x hx).1⟩;have e:=CK (a:=La) _ (fR hi);unfold dm;rw[mZ (gI e),pw e];unfold jd;by_cases h:Lb.getD i 0∈La;rw[ah (gI h),H.c _ h (fR hi),kR nb hi];rw[ak (fun q=>h (xI.1 q)),kR nb hi]
theorem kZ.aa4 {La b Lb c:U} (H:kZ La b Lb c) (p:Int->Bool):Sub ((jL La Lb).filter p) (((jL La Lb).filter p).map (jd La b Lb c)) (jL La Lb) (dm La b Lb c):=by have nJ:=Qf (wT H.xa) (wT H.xb);refine⟨nJ.filter _,nJ,fun v a=>(zap.1 a).1,(AI ..).symm,H9 ..,fun i hi=>?_,fun x hx=>(H.d8 x hx).1⟩;have a:=(zap.1 (fR hi)).1;unfold dm;rw[mZ (gI a),pw a,mZ hi]
theorem kZ.gJ {La a Lb b:U} (H:kZ La a Lb b):jl (dm La a Lb b):=⟨by have:=H.h9;rw[H9];omega,fun x hx=>by have:=H.d8 x hx;omega⟩
theorem kZ.dot {La a Lb b:U} (H:kZ La a Lb b) {L D:U} (h1:aU D<=4096) (e:∀x∈D,1<=x/\x<=8) (hs:Sub L D (jL La Lb) (dm La a Lb b)) (k:Nat): wH (qV L D (jL La Lb),bi (dm La a Lb b) k)=some ((lQ L D (jL La Lb) (bi (dm La a Lb b) k):Nat):Int):=by have h9:=H.h9;have f:=H.d8;have c:=H9 La a Lb b;have d:jl D:=⟨by have:=hs.l;have:=List.Nodup.length_le_of_subset hs.nL (l₂:=jL La Lb) hs.s;omega,fun x hx=>by have:=e x hx;omega⟩;refine ah ⟨⟨by show(dL (jL La Lb).length _).length<=24;rw[gK];omega,fun x hx=>?_⟩,⟨by unfold bi;rw[gK];omega,fun x hx=>?_⟩,by unfold qV bi;rw[gK,gK,c]⟩;obtain⟨i,hi,rfl⟩:=If.1 hx;(try dsimp only);split;rename_i h;have:=abj d (i:=bA L ((jL La Lb).getD i 0)+1) (by have:=hs.l;omega);omega;omega;obtain⟨i,hi,rfl⟩:=If.1 hx;have hi:=By.1 hi;have:=f _ (fR (l:=dm La a Lb b) hi);have h3:((dm La a Lb b).getD i 0).toNat<=8:=(by omega);have h4:=zbb (k/eR (dm La a Lb b) (i+1)) (show((dm La a Lb b).getD i 0).toNat>0 by omega);unfold fY;omega
theorem kZ.next {La a Lb b:U} (H:kZ La a Lb b) (hp:aU (dm La a Lb b)<=65536) {k:Nat} (c:k<aU (dm La a Lb b)):vd (dm La a Lb b,bi (dm La a Lb b) k)=some (decide (k+1<aU (dm La a Lb b)),bi (dm La a Lb b) (k+1)):=by have e:jD (dm La a Lb b) (bi (dm La a Lb b) k) (dm La a Lb b).length=k:=ML H.gJ c;have:=show vd (dm La a Lb b,bi (dm La a Lb b) k)=_ from ah ⟨H.gJ,by rw[e],by rw[e];exact c,by show aU (dm La a Lb b)<=1048576;omega⟩;rw[this,e]
theorem ang {S DS:U} (h:0<=iF S DS):mz S DS=true/\aU DS<=4096/\(∀x∈DS,1<=x/\x<=8)/\iF S DS=(aU DS:Int):=by unfold iF at h;split at h;rename_i a;have b:=AV (D:=DS) fun x hx=>(wS a.1 x hx).1;exact⟨a.1,by omega,wS a.1,by rw[<-b];exact ah a⟩;omega
theorem aBi {S DS:U} (h:¬0<=iF S DS):iF S DS= -1:=by unfold iF at h⊢;split at h;rename_i a;have hI:=AV (D:=DS) fun x hx=>(wS a.1 x hx).1;omega;rename_i a;exact ak a
theorem adG {r:Rg} {L D A:U} (a:gC r (L,D,A)=true) {o:Nat} (b:o<aU D):JY (r,(L,D,A),(o:Int))=some (nC r A o):=ary a b
theorem apb {r:Rg} {f:Nat->U} {a:Nat->Nat} (hr:bc r=true) (b:∀k,bm r (f k)=true) {N k:Nat} (c:a k<N):
  iC (dR (fun n=>kK r f a n k) N) (a k*az r) (cA r (kK r f a (a k) k) (f k))=dR (fun n=>kK r f a n (k+1)) N:=by
 rw[ZB (fJ (tc hr (KA hr b a _ k) (b k))) (fun i _=>fJ (KA hr b a i k)) c];refine Kr fun n _=>?_;show(if n=a k then _ else _)=if a k=n then _ else _
 by_cases e:n=a k
 ·rw[ah e,ah e.symm,e]
 ·rw[ak e,ak (zci e)]
set_option maxHeartbeats 4000000 in
theorem ac2 {r:Rg} {La d A Lb c f keep S:U} (ha:gC r (La,d,A)=true) (hb:gC r (Lb,c,f)=true) (H:kZ La d Lb c) (V:keep.length<=1000) (hS:Mi La Lb keep=S):
  Bx (r,(La,d,A),(Lb,c,f),keep)=some (OS r La d A Lb c f S):=by
 obtain⟨o,⟨a12,ad⟩,hta,⟨ap1,UP⟩,hA,aG,aT⟩:=xQ ha;obtain⟨hrb,⟨Om,bd⟩,htb,⟨bp1,U7⟩,hB,bG,bT⟩:=xQ hb;have O:=ku o;have lea:=(mA H.xa).2.1;have leb:=(mA H.xb).2.1;have F:=H.h9;have KF:=H.d8;have P:=H9 La d Lb c;have E:=H.xL;have I:=H.Dw;have t:=H.aa4 fun x=>decide (x∈keep);rw[show(jL La Lb).filter (fun x=>decide (x∈keep))=S from hS] at t
 have nJ:=E.nJ;have aB3:∀v∈S,v∈jL La Lb:=t.s;have B:=SM E I ha hb;simp only[Bx,Tj,aq];obtain⟨r1,r2,r3⟩:=r;generalize hrr:(r1,r2,r3)=r at*
 have hAl:A.length<=24576:=by rw[hA];exact zax (IS UP O.2.2) (by omega)
 have hBl:f.length<=24576:=by rw[hB];exact zax (IS U7 O.2.2) (by omega)
 rw[show qX (r,La,d,A)=some (gC r (La,d,A)) from ah ⟨by dsimp only;omega,by dsimp only;omega,by dsimp only;omega⟩,ha]
 try simp only[bz]
 rw[show dz true=false from rfl,mW,show qX (r,Lb,c,f)=some (gC r (Lb,c,f)) from ah ⟨by dsimp only;omega,by dsimp only;omega,by dsimp only;omega⟩,hb]
 try simp only[bz]
 rw[show dz true=false from rfl,mW,H.as6]
 try simp only[bz,fP]
 rw[show dz true=false from rfl,mW,ayI KF (by rw[P];omega) (by have:=H.p24;omega)]
 try simp only[bz,fP]
 unfold OS;by_cases R:aU (dm La d Lb c)<=65536
 rotate_left
 ·rw[bL eD,ak fun q=>R q.1]
 have hSl:S.length<=24:=by
  rw[<-hS];exact zax (zaC _ _) F
 rw[aZ d7,auZ (jL La Lb) keep (by omega) V,show(jL La Lb).filter (fun x=>decide (x∈keep))=S from hS]
 try simp only[bz,fP,bR]
 rw[zf (by simp only[ae,gH];omega)]
 try simp only[bz,bR]
 rw[show bh 0 0 (ae ([]:U))=some () from rfl,show bh 0 (ae S) (ae (cj (ae S) (0:Int)))=some () from lU (by simp[ae,cj])]
 try simp only[bz,bR]
 obtain⟨J,l⟩:∃J,jL La Lb=J:=⟨_,rfl⟩;obtain⟨a,m⟩:∃a,dm La d Lb c=a:=⟨_,rfl⟩;obtain⟨DS,N⟩:∃DS,S.map (jd La d Lb c)=DS:=⟨_,rfl⟩;have WW:∀{L D:U},aU D<=4096->(∀x∈D,1<=x/\x<=8)->Sub L D J a->∀k,wH (qV L D J,bi a k)=some ((lQ L D J (bi a k):Nat):Int):=by
  rw[<-l,<-m];exact fun y h2 hs k=>H.dot y h2 hs k
 have Ai:∀k,k<aU a->vd (a,bi a k)=some (decide (k+1<aU a),bi a (k+1)):=by
  rw[<-m];exact fun k V=>H.next R V
 have X:∀v,v∈J->a.getD (bA J v) 0=jd La d Lb c v:=fun v u=>by
  rw[<-m,<-l];unfold dm;rw[mZ (gI (by rw[l];exact u)),pw (by rw[l];exact u)]
 have arF:∀q,q<S.length->DS.getD q 0=jd La d Lb c (S.getD q 0):=fun q g=>by rw[<-N,mZ g]
 have leS:S.length=DS.length:=by rw[<-N,AI]
 have W:=t.s;have C:wB r La d A Lb c f=NP r A f (fun k=>lQ La d J (bi a k)) (fun k=>lQ Lb c J (bi a k)):=by
  unfold wB;rw[l,m]
 have hfC:C1 La d Lb c S DS=fun k=>lQ S DS J (bi a k):=by
  unfold C1;rw[l,m]
 rw[N] at t⊢;rw[l] at P F nJ W⊢;rw[m] at P R KF⊢;rw[l,m] at E I t;rw[gw (fun k=>(((S.length:Int),(k:Int)),r,(La,d,A),(Lb,c,f),([]:U),([]:U),([]:U),S,dL S.length (s8 J DS S k 0),([]:U),J,a)) S.length ?a1 ?a2 ?a3 eZ]
 case a1=>
  intro k p;dsimp only
  rw[bL eD,kI (by show k<S.length;omega)]
  try simp only[bz]
  rw[mw,show bW S k=some (S.getD k 0) from o9 p]
  try simp only[bz,bR]
  have gV:=gI (W _ (fR p));rw[gw (fun i=>(((k:Int),S.getD k 0,(S.length:Int),(k:Int),(J.length:Int),(i:Int)),r,(La,d,A),(Lb,c,f),([]:U),([]:U),([]:U),S,dL S.length (s8 J DS S k i),([]:U),J,a)) J.length ?b1 ?b2 ?b3 eZ]
  case b1=>
   intro i hi;dsimp only
   rw[bL eD,kI (by show i<J.length;omega)]
   try simp only[bz]
   rw[mw,show bW J i=some (J.getD i 0) from o9 hi]
   try simp only[bz]
   by_cases u:J.getD i 0=S.getD k 0
   ·have gk:bA J (S.getD k 0)=i:=by rw[<-u];exact kR nJ hi
    rw[bL (tf u),kI (by show i<a.length;omega)]
    try simp only[bz]
    rw[mw,show bW a i=some (a.getD i 0) from o9]
    try simp only[bz]
    rw[GX _ p]
    try simp only[bz]
    rw[mw,Ld _ p]
    try simp only[bz]
    have uM:be (dL S.length (s8 J DS S k i)) k (a.getD i 0)=dL S.length (s8 J DS S k (i+1)):=by
     rw[Nb];refine n4 fun q g=>?_;unfold s8;by_cases e:q=k
     ·subst e;rw[ah rfl,ah (.inr ⟨rfl,by omega⟩),arF q g,<-X _ (W _ (fR g)),gk]
     ·rw[ak e];exact H6 ⟨fun h=>h.imp id fun h=>absurd h.1 e,fun h=>h.imp id fun h=>absurd h.1 e⟩ _ _
    rw[uM,Cb]
    try simp only[bz,bR]
    rw[wQ]
   ·rw[aZ (te u)]
    try simp only[bz,bR]
    rw[wQ];have:dL S.length (s8 J DS S k i)=dL S.length (s8 J DS S k (i+1)):=n4 fun q g=>by
     unfold s8;refine H6 ⟨fun h=>h.imp id fun h=>⟨h.1,by omega⟩,fun h=>h.imp id fun h=>⟨h.1,?_⟩⟩ _ _;have aJ:bA J (S.getD k 0)≠i:=fun e=>u (by rw[<-e];exact pw (W _ (fR p)));have:=h.2;omega
    rw[this]
  case b2=>
   dsimp only
   rw[aZ d7]
   try simp only[bz,bR]
   try rfl
  case b3=>rfl
  simp only[cN,OF]
  try simp only[bz,bR]
  rw[wQ];have:dL S.length (s8 J DS S k J.length)=dL S.length (s8 J DS S (k+1) 0):=n4 fun q g=>by
   unfold s8;exact H6 ⟨fun h=>.inl (by rcases h with h|h<;>omega),fun h=>by
    rcases h with h|h
    ·by_cases e:q=k
     ·exact .inr ⟨e,gV⟩
     ·exact .inl (by omega)
    ·omega⟩ _ _
  rw[this]
 case a2=>
  dsimp only
  rw[aZ d7]
  try simp only[bz,bR]
  try rfl
 case a3=>
  rw[Na];have:dL (ae S) (fun _=>(0:Int))=dL S.length (s8 J DS S 0 0):=n4 fun q _=>by
   unfold s8;rw[ak (by omega)]
  rw[this];rfl
 have PG:dL S.length (s8 J DS S S.length 0)=DS:=by
  refine zY (by rw[gK];exact leS) fun q g=>?_;rw[gK] at g;rw[co,qd _ g];exact ah (.inl g)
 rw[PG];simp only[cN,OF]
 try simp only[bz,fP]
 rw[show zB (S,DS,([]:U))=some (iF S DS) from ah ⟨by show S.length<=_;omega,by show DS.length<=_;omega⟩]
 try simp only[bz,fP]
 by_cases K:0<=iF S DS
 rotate_left
 ·rw[bL (tf (aBi K)),ak fun q=>K q.2]
 rw[ah ⟨R,K⟩];obtain⟨xs,M,dS,LR⟩:=ang K;have s12:=(mA xs).1;have aB1:1<=aU DS:=AW fun x hx=>(dS x hx).1;rw[aZ te,show ve r=some (d9 r) from ah o]
 try simp only[bz,fP]
 have hzl:=fJ (rh o);rw[show xZ (r,S,DS,d9 r)=some (S,DS,u5 (d9 r) (aU DS)) from ah ⟨by dsimp only;omega,⟨by dsimp only;omega,dS,M⟩,by dsimp only;omega⟩]
 try simp only[bz,fP]
 rw[show vf ((La,d,A),J)=some (qV La d J) from ah ⟨H.xa,by show J.length<=_;omega,UP⟩]
 try simp only[bz,fP]
 rw[show vf ((Lb,c,f),J)=some (qV Lb c J) from ah ⟨H.xb,by show J.length<=_;omega,U7⟩]
 try simp only[bz,fP]
 rw[show vf ((S,DS,u5 (d9 r) (aU DS)),J)=some (qV S DS J) from ah ⟨xs,by show J.length<=_;omega,M⟩]
 try simp only[bz,fP]
 rw[zf (by simp only[ae,gH];omega)]
 try simp only[bz,fP]
 rw[show ov r=some (kt r) from rfl,O.1]
 try simp only[bz,fP]
 rw[show ki ((az r:Nat):Int) ((az r:Nat):Int) 8=some (az r) from zf (by simp only[gH];omega)]
 try simp only[bz,bR]
 rw[show bh 0 (ae J) (ae (cj (ae J) (0:Int)))=some () from lU (by simp[ae,cj]),show bh 0 (az r) (ae (cj (az r) (0:Int)))=some () from lU (by simp[ae,cj])]
 try simp only[bz,bR]
 have arG:1<=aU a:=AW fun x hx=>(KF x hx).1;have oa:∀k,lQ La d J (bi a k)<aU d:=fun k=>E.lt k;have ob:∀k,lQ Lb c J (bi a k)<aU c:=fun k=>I.lt k;have G:∀k,lQ S DS J (bi a k)<aU DS:=fun k=>t.lt k;have da:=WW UP ad E;have db:=WW U7 bd I;have dc:=WW M dS t;unfold yj;rw[N,C,hfC,m];rw[C] at B;generalize hoa:(fun k=>lQ La d J (bi a k))=w at*
 generalize hob:(fun k=>lQ Lb c J (bi a k))=z at*
 generalize LI:(fun k=>lQ S DS J (bi a k))=b at*
 have eoa:∀k,lQ La d J (bi a k)=w k:=fun k=>by rw[<-hoa]
 have eob:∀k,lQ Lb c J (bi a k)=z k:=fun k=>by rw[<-hob]
 have eoc:∀k,lQ S DS J (bi a k)=b k:=fun k=>by rw[<-LI]
 simp only[eoa] at da oa;simp only[eob] at db ob;simp only[eoc] at dc G;generalize hT:NP r A f w z=T at*
 have eT:∀k,dg r (nC r A (w k)) (nC r f (z k))=T k:=fun k=>by rw[<-hT];rfl
 have Vp:=fun n k=>KA o B b n k;have j:∀k,(dR (fun n=>kK r T b n k) (aU DS)).length=aU DS*az r:=fun k=>zO fun n _=>fJ (Vp n k);have hm:∀k,(b k+1)*az r<=aU DS*az r:=fun k=>Pe _ (G k);have mD:aU DS*az r<=4096*6:=IS M O.2.2;have ru:∀k,mU (aM (b k*az r),aM (aw (b k*az r) (az r)),r,dR (fun n=>kK r T b n k) (aU DS),T k)=some (dR (fun n=>kK r T b n (k+1)) (aU DS)):=by
  intro k;have y:=hm k;rw[zab,zag] at y;have hs:=Sd (fun i _=>fJ (Vp i k)) (G k);rw[show aM (b k*az r)=((b k*az r:Nat):Int) from rfl,show aM (aw (b k*az r) (az r))=((b k*az r+az r:Nat):Int) from rfl,UK o (by rw[j];omega) (by rw[hs];exact Vp _ _) (B k),hs,apb o B (G k)]
 have lg:∀k,zC (r,(S,DS,dR (fun n=>kK r T b n k) (aU DS)),((b k:Nat):Int))=some (((b k*az r:Nat):Int),(((b k+1)*az r:Nat):Int)):=fun k=>by
  have:=show zC (r,(S,DS,dR (fun n=>kK r T b n k) (aU DS)),((b k:Nat):Int))=_ from ah ⟨o,by dsimp only;omega,by dsimp only;rw[wt,j];exact hm k,by dsimp only;rw[j];omega⟩
  rw[this];simp only[wt]
 have Y:∀k,wI (r,(La,d,A),((w k:Nat):Int))=some (nC r A (w k)):=fun k=>adG ha (oa k);have hgb:∀k,wI (r,(Lb,c,f),((z k:Nat):Int))=some (nC r f (z k)):=fun k=>adG hb (ob k);have Xn:∀k (x:U),x.length=az r->BD (r,x,nC r A (w k),nC r f (z k))=some (T k):=fun k x hx=>by
  rw[<-eT];exact ah ⟨o,hx,Ej ha (oa k),Ej hb (ob k)⟩
 have WB:∀k,(T k).length=az r:=fun k=>fJ (B k);have Z:∀k,(if k=0 then cj (az r) (0:Int) else T (k - 1)).length=az r:=fun k=>by
  split
  ·simp[cj]
  ·exact WB _
 have arK:∀k,k<aU a->jg ((b k*az r:Nat):Int) (((b k+1)*az r:Nat):Int) (ae (dR (fun n=>kK r T b n k) (aU DS)))=some (b k*az r,az r)/\
   (∃v,bW (dR (fun n=>kK r T b n k) (aU DS)) (b k*az r)=some v)/\(∃v,cg (dR (fun n=>kK r T b n k) (aU DS)) (b k*az r) (az r)=some v)/\
   cg (T k) 0 (ae (if k=0 then cj (az r) (0:Int) else T (k - 1)))=some (T k):=fun k V=>by
  have y:=hm k;have h2:=y;rw[zab,zag] at y;refine⟨?_,⟨_,getD_some 0 (by rw[j];omega)⟩,⟨_,aBK (by show _<=(dR _ _).length;rw[j];omega)⟩,?_⟩
  ·rw[aay (by rw[zab,zag];omega) (by show _<=(dR _ _).length;rw[j];omega),zab,zag,zaq]
  ·rw[show ae (if k=0 then cj (az r) (0:Int) else T (k - 1))=ae (T k) from(Z k).trans (WB k).symm]
   exact fP _
 subst hrr
 try dsimp only
 rw[avr (aU a) (fun k=>((r1,r2,r3),(La,d,A),(Lb,c,f),([]:U),([]:U),([]:U),S,DS,dR (fun n=>kK (r1,r2,r3) T b n k) (aU DS),a,qV La d J,qV Lb c J,qV S DS J,bi a k,if k=0 then cj (az (r1,r2,r3)) (0:Int) else T (k - 1))) arG ?c1 ?c3 (zbS eZ)]
 case c1=>
  intro k p;dsimp only
  obtain⟨q1,⟨v1,q2⟩,⟨v2,q3⟩,q4⟩:=arK k (by omega);simp only[bz,fP,bR,da k,Y k,db k,hgb k,Xn k _ (Z k),dc k,lg k,q1,q2,q3,q4,ru k,Ai k p];by_cases Q:k+1<aU a
  ·rw[ah Q,decide_eq_true Q,show dz true=false from rfl,mW]
   rw[show bh 0 (ae (bi a k)) (ae (bi a (k+1)))=some () from Cb _ _ _,show bh 0 (ae (if k=0 then cj (az (r1,r2,r3)) (0:Int) else T (k - 1))) (ae (T k))=some () from lU ((Z k).trans (WB k).symm)]
   rw[show bh 0 (ae (dR (fun n=>kK (r1,r2,r3) T b n k) (aU DS))) (ae (dR (fun n=>kK (r1,r2,r3) T b n (k+1)) (aU DS)))=some () from lU ((j _).trans (j _).symm)]
   try simp only[bz]
   rw[ak (show k+1≠0 by omega),zbJ]
  ·rw[ak Q,decide_eq_false Q,show dz false=true from rfl,mX]
   try simp only[gT,bz]
   rw[show cB (dR (fun n=>kK (r1,r2,r3) T b n (k+1)) (aU DS)) (ae (dR (fun n=>kK (r1,r2,r3) T b n k) (aU DS)))=some (dR (fun n=>kK (r1,r2,r3) T b n (k+1)) (aU DS)) from aA5 ((j _).trans (j _).symm)]
   try simp only[bz]
   rw[show k+1=aU a by omega]
   try rfl
 case c3=>
  rw[Na];have e0:bi a 0=dL (ae J) fun _=>0:=by
   unfold bi;rw[P];refine n4 fun i _=>?_;unfold fY;rw[Nat.zero_div,Nat.zero_mod];rfl
  rw[<-e0,ZH];rfl
 try rfl
theorem axG {r:Int×Int×Int} (hr:bc r=true) (c:¬(r.1=7\/r.1=8)) (a b:Int):kl r a b=kl r b a:=by obtain⟨k,p,n⟩:=r;simp only at c;rcases nk hr with⟨rfl,rfl,rfl⟩|⟨rfl,hp,rfl⟩|⟨rfl,hp,rfl⟩|⟨rfl,hp,rfl⟩|⟨rfl,hp,rfl⟩|⟨rfl,rfl,hn⟩|⟨rfl,hp,hn⟩|⟨rfl,hp,iR,rfl⟩;show((a.toNat&&&b.toNat:Nat):Int)=((b.toNat&&&a.toNat:Nat):Int);rw[zcb];show a*b%p=b*a%p;rw[zbT];show min (a*b) p=min (b*a) p;rw[zbT];show min (a+b) p=min (b+a) p;omega;show min a b=min b a;omega;show((a.toNat&&&b.toNat:Nat):Int)=((b.toNat&&&a.toNat:Nat):Int);rw[zcb];omega;omega
theorem ats (om:Bool) (x y:Nat->Int) (t i j:Nat):kW om x y t i j=kW om y x t j i:=by unfold kW;rw[zbP j i,zbT (x i)]
theorem Sh (f g:Nat->Int):∀n,sm n (fun t=>f t+g t)=sm n f+sm n g
 |0=>rfl
 |n+1=>by simp only[sm];rw[Sh f g n];omega
theorem amr (f:Nat->Nat->Int) (m:Nat):∀n,sm n (fun i=>sm m (fun j=>f i j))=sm m (fun j=>sm n (fun i=>f i j))
 |0=>(Dp m fun _ _=>rfl).symm
 |n+1=>by simp only[sm];rw[amr f m n,<-Sh]
theorem aoF (om:Bool) (w:Nat) (x y:Nat->Int) (t:Nat):cS om w x y t=cS om w y x t:=by unfold cS;rw[amr];exact Bg fun i hi=>Bg fun j hj=>ats om x y t j i
theorem aoD (om:Bool) (w:Nat) (x y z:Nat->Int) (t:Nat):cS om w x (fun j=>y j+z j) t=cS om w x y t+cS om w x z t:=by unfold cS;rw[<-Sh];refine Bg fun i hi=>?_;rw[<-Sh];refine Bg fun j hj=>?_;unfold kW;split;rw[zbc];split;rw[zbc];omega;rfl
theorem mul_comm {r:Int×Int×Int} {x y:U} (hr:bc r=true) (hx:bm r x=true) (hy:bm r y=true):dg r x y=dg r y x:=by by_cases c:r.1=7\/r.1=8;rw[uo c,uo c,zS,zS];exact Dz fun t ht=>(by rw[aoF]);obtain⟨a,b,rfl,rfl,ha,hb⟩:=vo hx hy (wD c);rw[oJ c,oJ c,axG hr c]
theorem axE {r:Int×Int×Int} (hr:bc r=true) (i:¬(r.1=7\/r.1=8)) {a b c:Int} (ha:0<=a/\a<=cr r) (hb:0<=b/\b<=cr r) (g:0<=c/\c<=cr r):kl r a (jf r b c)=jf r (kl r a b) (kl r a c):=by obtain⟨k,p,n⟩:=r;simp only at i;have d:((a.toNat&&&(((b.toNat|||c.toNat:Nat):Int)).toNat:Nat):Int)=((((a.toNat&&&b.toNat:Nat):Int).toNat|||((a.toNat&&&c.toNat:Nat):Int).toNat:Nat):Int):=(by rw[wt,wt,wt,Nat.and_or_distrib_left]);rcases nk hr with⟨rfl,rfl,rfl⟩|⟨rfl,hp,rfl⟩|⟨rfl,hp,rfl⟩|⟨rfl,hp,rfl⟩|⟨rfl,hp,rfl⟩|⟨rfl,rfl,hn⟩|⟨rfl,hp,hn⟩|⟨rfl,hp,iR,rfl⟩;exact d;show a*((b+c)%p)%p=(a*b%p+a*c%p)%p;rw[<-zbx,<-zbc,zcc,zb5,<-zcc];show min (a*min (b+c) p) p=min (min (a*b) p+min (a*c) p) p;have h1:=zb1 ha.1 hb.1;have h2:=zb1 ha.1 g.1;by_cases h:b+c<=p;rw[show min (b+c) p=b+c by omega,zbc];omega;rw[show min (b+c) p=p by omega];by_cases f:a=0;subst f;rw[zbj,zbj,zbj];omega;have h3:1*p<=a*p:=za4 (by omega) (by omega);have e:1*(b+c)<=a*(b+c):=za4 (by omega) (by omega);rw[zbc a b c] at e;omega;show min (a+min b c) p=min (min (a+b) p) (min (a+c) p);omega;show min a (max b c)=max (min a b) (min a c);omega;exact d;omega;omega
theorem mul_add {r:Int×Int×Int} {x y z:U} (hr:bc r=true) (hx:bm r x=true) (hy:bm r y=true) (l:bm r z=true):dg r x (cA r y z)=cA r (dg r x y) (dg r x z):=by by_cases d:r.1=7\/r.1=8;rw[uo d,uo d,uo d,zS];refine Dz fun t h=>?_;rw[zS,zS,vu _ h,vu _ h];have g:∀a b:Int,jf r a b=(a+b)%r.2.1:=(by intro a b;obtain⟨k,p,n⟩:=r;simp only at d;simp only[jf];rw[ak (by omega),ak (by omega),ak (by omega),ak (by omega)]);rw[g,<-zbx,<-aoD];exact Vb (fun _ _=>rfl) fun j hj=>(by rw[show cE (cA r y z) j=_ from vu _ hj,g,zb5]);have f:=wD d;obtain⟨a,b,rfl,rfl,ha,hb⟩:=vo hx hy f;obtain⟨_,c,e,rfl,_,m⟩:=vo hx l f;have i:∀u v:Int,cA r [u] [v]=[jf r u v]:=fun u v=>(by unfold cA gN;rw[f];rfl);rw[i,oJ d,oJ d,oJ d,i,axE hr d ha hb m]
theorem one_mul {r:Int×Int×Int} {x:U} (hr:bc r=true) (hx:bm r x=true):dg r (cH r) x=x:=by rw[mul_comm hr (kA hr) hx,mul_one hr hx]
theorem add_mul {r:Int×Int×Int} {x y z:U} (hr:bc r=true) (hx:bm r x=true) (hy:bm r y=true) (a:bm r z=true):dg r (cA r x y) z=cA r (dg r x z) (dg r y z):=by rw[mul_comm hr (tc hr hx hy) a,mul_add hr a hx hy,mul_comm hr a hx,mul_comm hr a hy]
section
variable {r:Rg}
theorem an1 (hr:bc r=true) {a b c d:U} (ha:bm r a=true) (hb:bm r b=true) (e:bm r c=true) (hd:bm r d=true):cA r (cA r a b) (cA r c d)=cA r (cA r a c) (cA r b d):=by rw[add_assoc hr ha hb (tc hr e hd),<-add_assoc hr hb e hd,add_comm hr b c,add_assoc hr e hb hd,<-add_assoc hr ha e (tc hr hb hd)]
theorem UA (hr:bc r=true) {g h:Nat->U} (a:∀k,bm r (g k)=true) (b:∀k,bm r (h k)=true):∀l,SL r (fun k=>cA r (g k) (h k)) l=cA r (SL r g l) (SL r h l)
 |[]=>(add_zero hr (rh hr)).symm
 |k::l=>by show cA r (cA r (g k) (h k)) (SL r _ l)=cA r (cA r (g k) (SL r g l)) (cA r (h k) (SL r h l));rw[UA hr a b l,an1 hr (a k) (b k) (qn hr a l) (qn hr b l)]
theorem abZ (hr:bc r=true) {f:Nat->Nat->U} (b:∀i j,bm r (f i j)=true) (a:List Nat):∀l,SL r (fun i=>SL r (fun j=>f i j) a) l=SL r (fun j=>SL r (fun i=>f i j) l) a
 |[]=>(Ob hr a fun _ _=>rfl).symm
 |k::l=>by show cA r (SL r (fun j=>f k j) a) (SL r _ l)=SL r (fun j=>cA r (f k j) (SL r (fun i=>f i j) l)) a;rw[abZ hr b a l,UA hr (b k) fun j=>qn hr (fun i=>b i j) l]
theorem N9 (hr:bc r=true) {g:Nat->U} {c:U} (a:∀k,bm r (g k)=true) (b:bm r c=true):∀l,SL r (fun k=>dg r (g k) c) l=dg r (SL r g l) c
 |[]=>(zero_mul hr b).symm
 |k::l=>by show cA r (dg r (g k) c) (SL r _ l)=dg r (cA r (g k) (SL r g l)) c;rw[N9 hr a b l,add_mul hr (a k) (qn hr a l) b]
theorem Oa (hr:bc r=true) {g:Nat->U} (c:∀k,bm r (g k)=true) {a:Nat}:∀{l:List Nat},l.Nodup->a∈l->(∀k∈l,k≠a->g k=d9 r)->SL r g l=g a
 |k::l,hn,ha,hz=>by obtain⟨d,f⟩:=zby.1 hn;show cA r (g k) (SL r g l)=g a;by_cases h:k=a;subst h;rw[Ob hr l fun q b=>hz q (by simp[b]) (fun e=>d (e▸b)),add_zero hr (c _)];rw[hz k (by simp) h,zero_add hr (qn hr c l)];exact Oa hr c f (by simpa[zci h] using ha) fun q b=>hz q (by simp[b])
theorem abW (hr:bc r=true) {h:Nat->U} (a:∀k,bm r (h k)=true) (P:Nat):∀q,SL r h (zaa (q*P))=SL r (fun i=>SL r (fun k=>h (i*P+k)) (zaa P)) (zaa q)
 |0=>by rw[zb9];rfl
 |q+1=>by rw[Nat.succ_mul,zbF,DR hr a,abW hr a P q,zaV,DR hr fun i=>qn hr (fun k=>a _) _,UB];show _=cA r _ (cA r _ (d9 r));rw[add_zero hr (qn hr (fun k=>a _) _)]
def jF (τ:Int->Nat) (v:Int) (i:Nat):Int->Nat:=fun u=>if u=v then i else τ u
def nQ (r:Rg) (q:Nat):U->((Int->Nat)->U)->(Int->Nat)->U
 |[],f,τ=>f τ
 |v::J,f,τ=>SL r (fun i=>nQ r q J f (jF τ v i)) (zaa q)
theorem F7 (τ:Int->Nat) (v:Int) (i:Nat):jF τ v i v=i:=ah rfl
theorem Bn (τ:Int->Nat) {v u:Int} (i:Nat) (h:u≠v):jF τ v i u=τ u:=ak h
theorem aBo (τ:Int->Nat) (v:Int):jF τ v (τ v)=τ:=by funext u;unfold jF;split;rename_i h;rw[h];rfl
theorem aBp (τ:Int->Nat) {v u:Int} (i j:Nat) (h:u≠v):jF (jF τ v i) u j=jF (jF τ u j) v i:=by funext w;unfold jF;by_cases b:w=u;subst b;rw[ah rfl,ak h,ah rfl];rw[ak b];by_cases a:w=v;rw[ah a,ah a];rw[ak a,ak a,ak b]
variable {q:Nat}
theorem Fo (hr:bc r=true) {f:(Int->Nat)->U} (a:∀τ,bm r (f τ)=true):∀(J:U) (τ:Int->Nat),bm r (nQ r q J f τ)=true
 |[],τ=>a τ
 |v::J,τ=>qn hr (fun i=>Fo hr a J _) _
theorem Y4 (f:(Int->Nat)->U) (a:U):∀(J:U) (τ:Int->Nat),nQ r q (J++a) f τ=nQ r q J (nQ r q a f) τ
 |[],τ=>rfl
 |v::J,τ=>qZ _ fun i _=>Y4 f a J _
theorem AL {f g:(Int->Nat)->U}:∀(J:U) {τ:Int->Nat},(∀τ,(∀u,τ u<q)->f τ=g τ)->(∀u,τ u<q)->nQ r q J f τ=nQ r q J g τ
 |[],τ,h,ht=>h τ ht
 |v::J,τ,h,ht=>qZ _ fun i hi=>AL J h fun u=>by unfold jF;split;exact By.1 hi;exact ht u
theorem aiQ (hr:bc r=true) {f:(Int->Nat)->U} (b:∀τ,bm r (f τ)=true) {J a:U} (p:J.Perm a):∀τ,nQ r q J f τ=nQ r q a f τ:=by induction p with|nil=>exact fun _=>rfl|cons v _ c=>exact fun τ=>qZ _ fun i _=>c _|swap u v J=>intro τ;by_cases h:u=v;subst h;rfl;show SL r (fun i=>SL r (fun j=>nQ r q J f (jF (jF τ v i) u j)) _) _=SL r (fun j=>SL r (fun i=>nQ r q J f (jF (jF τ u j) v i)) _) _;rw[abZ hr fun i j=>Fo hr b J _];exact qZ _ fun j _=>qZ _ fun i _=>by rw[aBp τ i j h]|trans _ _ i1 i2=>exact fun τ=>(i1 τ).trans (i2 τ)
theorem aiN (hr:bc r=true) {f g:(Int->Nat)->U} (b:∀τ,bm r (f τ)=true) (a:∀τ,bm r (g τ)=true):∀(J:U) (τ:Int->Nat),nQ r q J (fun τ=>cA r (f τ) (g τ)) τ=cA r (nQ r q J f τ) (nQ r q J g τ)
 |[],τ=>rfl
 |v::J,τ=>by show SL r _ _=cA r (SL r _ _) (SL r _ _);rw[<-UA hr (fun i=>Fo hr b J _) fun i=>Fo hr a J _];exact qZ _ fun i _=>aiN hr b a J _
theorem Y6 (hr:bc r=true) {f c:(Int->Nat)->U} (a:∀τ,bm r (f τ)=true) (b:∀τ,bm r (c τ)=true):∀(J:U) (τ:Int->Nat),(∀v∈J,∀τ i,c (jF τ v i)=c τ)->nQ r q J (fun τ=>dg r (f τ) (c τ)) τ=dg r (nQ r q J f τ) (c τ)
 |[],τ,_=>rfl
 |v::J,τ,h=>by show SL r _ _=dg r (SL r _ _) _;rw[<-N9 hr (fun i=>Fo hr a J _) (b τ)];refine qZ _ fun i _=>?_;rw[Y6 hr a b J _ fun u d=>h u (by simp[d]),h v (by simp)]
theorem SP {τ:Int->Nat} (h:∀u,τ u<q) {v:Int} {i:Nat} (hi:i∈zaa q):∀u,jF τ v i u<q:=fun u=>by unfold jF;split;exact By.1 hi;exact h u
theorem aiS (hr:bc r=true) {f:(Int->Nat)->U}:∀(J:U) (τ:Int->Nat),(∀u,τ u<q)->(∀a,(∀u,a u<q)->(∀u,u∉J->a u=τ u)->f a=d9 r)->nQ r q J f τ=d9 r
 |[],τ,ht,h=>h τ ht fun _ _=>rfl
 |v::J,τ,ht,h=>Ob hr _ fun i hi=>aiS hr J _ (SP ht hi) fun a d c=>h a d fun u b=>by rw[c u fun hj=>b (by simp[hj]),Bn _ _ fun e=>b (by simp[e])]
theorem Y5 (hr:bc r=true) {F:(Int->Nat)->U} (j:∀τ,bm r (F τ)=true) {S:U} {σ:Int->Nat} {g:(Int->Nat)->U} (e:∀τ,bm r (g τ)=true) (d:∀τ,(∀v∈S,τ v=σ v)->g τ=F τ) (c:∀τ,(∀u,τ u<q)->(∃v∈S,τ v≠σ v)->g τ=d9 r): ∀(J:U) (τ:Int->Nat),J.Nodup->(∀u,τ u<q)->(∀v∈S,τ v=σ v)->nQ r q J g τ=nQ r q (J.filter fun v=> !decide (v∈S)) F τ
 |[],τ,_,_,ht=>d τ ht
 |v::J,τ,hn,hq,ht=>by obtain⟨o,f⟩:=zby.1 hn;by_cases b:v∈S;rw[zaI (by simp[b])];show SL r (fun i=>nQ r q J g (jF τ v i)) _=_;rw[Oa hr (fun i=>Fo hr e J _) (a:=τ v) zaK (By.2 (hq v))];rw[aBo];exact Y5 hr j e d c J τ f hq ht;intro i hi n;refine aiS hr J _ (SP hq hi) fun l m h=>c l m ⟨v,b,?_⟩;rw[h v o,F7,<-ht v b];exact n;rw[zaH (by simp[b])];exact qZ _ fun i hi=>Y5 hr j e d c J _ f (SP hq hi) fun u k=>by rw[Bn _ _ (by rintro rfl;exact b k)];exact ht u k
def vk (J I:U) (τ:Int->Nat):Int->Nat:=fun v=>if v∈J then(lP J I v).toNat else τ v
theorem as4 {d:Nat} {D:U} (h:jl ((d:Int)::D)) {i k:Nat} (hi:i<d) (c:k<aU D):bi ((d:Int)::D) (i*aU D+k)=(i:Int)::bi D k:=by
 have b:jl D:=⟨by have:=h.1;simp at this;omega,fun x hx=>h.2 x (by simp[hx])⟩;have e:i*aU D+k=jC ((d:Int)::D) ((i:Int)::bi D k):=by
  have:=aiZ (D1:=[(d:Int)]) (D2:=D) (i1:=[(i:Int)]) (i2:=bi D k) rfl;rw[MK,ML b c,wt] at this;exact this.symm
 have hl:(bi D k).length=D.length:=by unfold bi;rw[gK]
 rw[e];refine ET (by simp[hl]) fun j hj=>?_;match j with
 |0=>exact⟨zbK _,by show(i:Int)<(d:Int);omega⟩
 |j+1=>
  have a:j<D.length:=by simpa using hj
  show 0<=(bi D k).getD j 0/\(bi D k).getD j 0<D.getD j 0;rw[xu a];have:=H5 b k a;rw[xu a] at this;exact this
def bY (q:Nat) (J:U):U:=J.map fun _=>(q:Int)
theorem uu (q:Nat) (J:U):(bY q J).length=J.length:=AI ..
theorem adE (h1:1<=q) (h8:q<=8) {J:U} (hJ:J.length<=24):jl (bY q J):=⟨by rw[uu];omega,fun x hx=>by obtain⟨v,_,rfl⟩:=If.1 hx;omega⟩
theorem Eh {J:U} {i:Nat} (hi:i<J.length):(bY q J).getD i 0=(q:Int):=mZ hi
theorem apB (v:Int) (J:U) (i:Int) (I:U):lP (v::J) (i::I) v=i:=by unfold lP bA;rw[zbN,decide_eq_true rfl];rfl
theorem apC {v u:Int} (h:u≠v) (J:U) (i:Int) (I:U):lP (v::J) (i::I) u=lP J I u:=by unfold lP bA;rw[zbN,decide_eq_false (zci h)];rfl
theorem aoh {v:Int} {J:U} (hn:v∉J) (i:Nat) (I:U) (τ:Int->Nat):vk (v::J) ((i:Int)::I) τ=vk J I (jF τ v i):=by funext u;unfold vk;by_cases h:u=v;subst h;rw[ah (by simp),apB,ak hn,F7,wt];rw[apC h,Bn _ _ h];by_cases hj:u∈J;rw[ah (by simp[hj]),ah hj];rw[ak (by simp[hj,h]),ak hj]
theorem aiO (hr:bc r=true) {F:(Int->Nat)->U} (a:∀τ,bm r (F τ)=true) (b:1<=q) (c:q<=8):∀(J:U) (τ:Int->Nat),J.Nodup->J.length<=24-> SL r (fun k=>F (vk J (bi (bY q J) k) τ)) (zaa (aU (bY q J)))=nQ r q J F τ
 |[],τ,_,_=>by show cA r (F _) (d9 r)=F τ;rw[add_zero hr (a _)];refine congrArg F (funext fun u=>?_);exact ak (by simp)
 |v::J,τ,hn,hl=>by obtain⟨d,g⟩:=zby.1 hn;have j:J.length<=24:=(by simp at hl;omega);have e:aU (bY q (v::J))=q*aU (bY q J):=(by show((q:Int)).toNat*aU (bY q J)=_;rw[wt]);rw[e,abW hr fun k=>a _];refine qZ _ fun i hi=>?_;rw[<-aiO hr a b c J _ g j];refine qZ _ fun k h=>?_;have f:jl ((q:Int)::bY q J):=adE (J:=v::J) b c hl;show F (vk (v::J) (bi ((q:Int)::bY q J) _) τ)=_;rw[as4 f (By.1 hi) (By.1 h),aoh d]
end
def kJ (q:Nat) (τ:Int->Nat) (l:Int):Int:=((min (τ l) (q - 1):Nat):Int)
theorem OP {q:Nat} (h:1<=q) (τ:Int->Nat) (l:Int):0<=kJ q τ l/\kJ q τ l<q:=by unfold kJ;omega
theorem OO {q:Nat} {τ:Int->Nat} {l:Int} (h:τ l<q):kJ q τ l=(τ l:Int):=by unfold kJ;omega
theorem acS {q:Nat} {τ a:Int->Nat} {L:U} (h:∀l∈L,τ l=a l):L.map (kJ q τ)=L.map (kJ q a):=zar fun l hl=>by unfold kJ;rw[h l hl]
def vT (r:Rg) (q:Nat) (t:T3) (τ:Int->Nat):U:=nC r t.2.2 (jC t.2.1 (t.1.map (kJ q τ)))
section
variable {r:Rg} {q:Nat} {La A Lb B S:U}
theorem ai3 (b:1<=q) (S:U) (τ:Int->Nat):jC (bY q S) (S.map (kJ q τ))<aU (bY q S):=QW fun k a=>by rw[uu] at a;rw[mZ a,Eh a];have:=OP b τ (S.getD k 0);omega
theorem DE (a:1<=q) {t:T3} (b:gC r t=true) (hd:t.2.1=bY q t.1) (τ:Int->Nat):bm r (vT r q t τ)=true:=by obtain⟨L,D,A⟩:=t;simp only at hd;subst hd;exact Ej b (ai3 a L τ)
theorem aBw {t:T3} {τ a:Int->Nat} (h:∀l∈t.1,τ l=a l):vT r q t τ=vT r q t a:=by unfold vT;rw[acS h]
theorem Yn {v:Int} (a:v∈jL La Lb):jd La (bY q La) Lb (bY q Lb) v=q:=by unfold jd;by_cases h:v∈La;rw[ah (gI h),Eh (gI h)];rw[ak fun e=>h (xI.1 e)];have hb:v∈Lb:=(AA a).resolve_left h;rw[Eh (gI hb)]
theorem Qd:dm La (bY q La) Lb (bY q Lb)=bY q (jL La Lb):=zar fun v a=>Yn a
theorem apa (hr:bc r=true) (b:1<=q) (z:q<=8) (t:gC r (La,bY q La,A)=true) (tb:gC r (Lb,bY q Lb,B)=true) (H:kZ La (bY q La) Lb (bY q Lb)) (p:Int->Bool) (F:S=(jL La Lb).filter p) {σ:Int->Nat} (hσ:∀u,σ u<q):
  vT r q (yj r La (bY q La) A Lb (bY q Lb) B S) σ=nQ r q ((jL La Lb).filter fun v=> !decide (v∈S)) (fun τ=>dg r (vT r q (La,bY q La,A) τ) (vT r q (Lb,bY q Lb,B) τ)) σ:=by
 have d:=H.xL;have f:=H.Dw;have m:=H.aa4 p;rw[<-F] at m;have nJ:=d.nJ;have w:=H.h9;have x:=SM d f t tb;have l:∀v∈S,v∈jL La Lb:=m.s;have J:S.map (jd La (bY q La) Lb (bY q Lb))=bY q S:=zar fun v a=>Yn (l v a);have y:∀τ:Int->Nat,bm r (dg r (vT r q (La,bY q La,A) τ) (vT r q (Lb,bY q Lb,B) τ))=true:=fun τ=>td hr (DE b t rfl τ) (DE b tb rfl τ);have E:=ai3 b S σ;show nC r (dR _ _) (jC (S.map (jd La (bY q La) Lb (bY q Lb))) (S.map (kJ q σ)))=_;rw[J];unfold nC;rw[Sd (fun i _=>fJ (KA hr x _ i _)) E,Kz hr x];let G:(Int->Nat)->U:=fun τ=>if jC (bY q S) (S.map (kJ q τ))=jC (bY q S) (S.map (kJ q σ)) then dg r (vT r q (La,bY q La,A) τ) (vT r q (Lb,bY q Lb,B) τ) else d9 r
 have o:∀τ,bm r (G τ)=true:=fun τ=>by
  show bm r (if _ then _ else _)=true
  split
  ·exact y τ
  ·exact rh hr
 have K:SL r (Cl r (wB r La (bY q La) A Lb (bY q Lb) B) (C1 La (bY q La) Lb (bY q Lb) S (bY q S)) (jC (bY q S) (S.map (kJ q σ)))) (zaa (aU (dm La (bY q La) Lb (bY q Lb))))=SL r (fun k=>G (vk (jL La Lb) (bi (bY q (jL La Lb)) k) σ)) (zaa (aU (bY q (jL La Lb)))):=by
  rw[Qd];refine qZ _ fun k c=>?_;have c:=By.1 c;have D:=adE b z w;have j:(bi (bY q (jL La Lb)) k).length=(jL La Lb).length:=by unfold bi;rw[gK,uu]
  have ea:∀v∈jL La Lb,kJ q (vk (jL La Lb) (bi (bY q (jL La Lb)) k) σ) v=lP (jL La Lb) (bi (bY q (jL La Lb)) k) v:=fun v a=>by
   have hp:=gI a;have hb:=H5 D k (i:=bA (jL La Lb) v) (by rw[uu];exact hp);rw[Eh hp] at hb;have bn:0<=lP (jL La Lb) (bi (bY q (jL La Lb)) k) v/\lP (jL La Lb) (bi (bY q (jL La Lb)) k) v<q:=hb;unfold kJ vk;rw[ah a];omega
  have g:∀{L:U},(∀v∈L,v∈jL La Lb)->L.map (lP (jL La Lb) (bi (bY q (jL La Lb)) k))=L.map (kJ q (vk (jL La Lb) (bi (bY q (jL La Lb)) k) σ)):=fun h=>zar fun v a=>(ea v (h v a)).symm;have I:C1 La (bY q La) Lb (bY q Lb) S (bY q S) k=jC (bY q S) (S.map (kJ q (vk (jL La Lb) (bi (bY q (jL La Lb)) k) σ))):=by
   unfold C1;rw[Qd,Eg m.nL nJ l (uu q S).symm j,g l]
  have n:wB r La (bY q La) A Lb (bY q Lb) B k=dg r (vT r q (La,bY q La,A) (vk (jL La Lb) (bi (bY q (jL La Lb)) k) σ)) (vT r q (Lb,bY q Lb,B) (vk (jL La Lb) (bi (bY q (jL La Lb)) k) σ)):=by
   unfold wB NP vT;simp only
   rw[Qd,Eg d.nL nJ d.s (uu q La).symm j,Eg f.nL nJ f.s (uu q Lb).symm j,g d.s,g f.s]
  show(if _=_ then _ else _)=(if _=_ then _ else _)
  rw[I,n]
 rw[K,aiO hr o b z _ _ nJ w];refine Y5 hr y o (S:=S) (σ:=σ) (fun τ h=>?_) (fun τ C h=>?_) _ _ nJ hσ fun _ _=>rfl
 ·show(if _ then _ else _)=_
  rw[ah (by rw[acS h])]
 ·show(if _ then _ else _)=_
  refine ak fun e=>?_;obtain⟨v,a,aJ⟩:=h;have bd:∀ρ:Int->Nat,∀k,k<(bY q S).length->0<=(S.map (kJ q ρ)).getD k 0/\(S.map (kJ q ρ)).getD k 0<(bY q S).getD k 0:=fun ρ k c=>by
   rw[uu] at c;rw[mZ c,Eh c];exact OP b ρ _
  have:=axs (by rw[AI,uu]) (by rw[AI,uu]) (bd τ) (bd σ) e;have:=List.map_inj_left.1 this v a;rw[OO (C v),OO (hσ v)] at this;omega
end
def rN (g:Int×List (Int×Int)):Int×List (Int×Int):=(g.1,qx ((g.2.length - 1:Nat):Int) g.2)
def oY (g:Int×List (Int×Int)):Int×List (Int×Int):=(yl g.1 (qx ((g.2.length - 1:Nat):Int) g.2) (g.2.getD (g.2.length - 1) (0,0))).1
def zv (r:Int×Int×Int) (q:Int) (x:U):Nat->Int×List (Int×Int)->U
 |0,g=>iB r (il r q) g.1.toNat
 |m+1,g=>if g.2.length=0 then iB r (il r q) g.1.toNat else cA r (zv r q x m (rN g)) (dg r x (zv r q x m (oY g)))
def rR (r:Int×Int×Int) (g:Int×List (Int×Int)) (q:Int) (x:U):U:=if kG r g q x=true then zv r q x g.2.length g else[]
theorem VE (k:Nat):∀(l:List (Int×Int)) (i:Nat) (a:List (Int×Int)),kN (uq (k:Int)) i a l=a++(if i<=k then l.eraseIdx (k - i) else l)
 |[],i,a=>by simp[kN]
 |e::l,i,a=>by rw[kN,VE k l (i+1)];by_cases h:i=k;subst h;rw[adu rfl,ak (by omega),ah (zae _),zaN];rfl;rw[adt (by omega)];by_cases b:i<=k;rw[ah (by omega),ah b,show k - i=(k - (i+1))+1 by omega];simp;rw[ak (by omega),ak b];simp
theorem adq {l:List (Int×Int)} (h:l.length≠0):(qx ((l.length - 1:Nat):Int) l).length=l.length - 1/\∀e∈qx ((l.length - 1:Nat):Int) l,e∈l:=by have e:qx ((l.length - 1:Nat):Int) l=l.eraseIdx (l.length - 1):=(by unfold qx;rw[VE,ah (za0 _),zcd];rfl);rw[e];refine⟨?_,fun e a=>zbn a⟩;rw[List.length_eraseIdx_of_lt (by omega)]
theorem HC {n:Int} {es:List (Int×Int)} (a:0<=n/\n<=10) (c:es.length<=10) (b:∀e∈es,(0<=e.1/\e.1<=n - 1)/\(0<=e.2/\e.2<=n - 1)):fq n es=true:=by simp only[fq,GB,decide_eq_true_eq,zaA,sd];exact⟨⟨a,c⟩,b⟩
theorem M9 {g:Int×List (Int×Int)} (h:fq g.1 g.2=true) (j:g.2.length≠0):fq (rN g).1 (rN g).2=true/\(rN g).2.length=g.2.length - 1:=by obtain⟨a,b,c⟩:=pT h;obtain⟨f,i⟩:=adq j;refine⟨HC a ?_ fun e d=>c e (i e d),f⟩;show(qx _ _).length<=10;omega
theorem aiY {x a b n:Int} (hx:0<=x/\x<=n - 1) (ha:0<=a) (eA:a<b) (hb:b<=n - 1):0<=iL x a b/\iL x a b<=n - 1 - 1:=by unfold iL;split;omega;split<;>omega
theorem Ky {g:Int×List (Int×Int)} (h:fq g.1 g.2=true) (p:g.2.length≠0):fq (oY g).1 (oY g).2=true/\(oY g).2.length=g.2.length - 1:=by obtain⟨a,b,c⟩:=pT h;obtain⟨i,k⟩:=adq p;obtain⟨m,j⟩:∃e,g.2[g.2.length - 1]? =some e:=⟨_,so (by omega)⟩;have n:g.2.getD (g.2.length - 1) (0,0)=m:=(by rw[co,j];rfl);have hm:=c m (BY j);unfold oY yl;rw[n];split;exact⟨HC a (by simp only;omega) fun e d=>c e (k e d),i⟩;rename_i o;rw[AK,QG] at o⊢;refine⟨HC (by simp only;omega) (by simp only[AI];omega) fun e d=>?_,by simp only[AI];exact i⟩;simp only[If] at d;obtain⟨f,q,rfl⟩:=d;have l:=c f (k f q);exact⟨aiY l.1 (by omega) (by omega) (by omega),aiY l.2 (by omega) (by omega) (by omega)⟩
theorem Sl {r:Int×Int×Int} {g a:Int×List (Int×Int)} {q:Int} {x:U} (h:kG r g q x=true) (c:fq a.1 a.2=true):kG r a q x=true:=by obtain⟨b,h2,d,e⟩:=Jc h;simp[kG,B1,b,c,d,e]
theorem VI {r:Int×Int×Int} {q:Int} {x:U} (hr:bc r=true) (hx:bm r x=true) (a:1<=q):∀(m:Nat) (g:Int×List (Int×Int)),bm r (zv r q x m g)=true
 |0,g=>qz hr (uv hr (by omega)) _
 |m+1,g=>by rw[zv];split;exact qz hr (uv hr (by omega)) _;exact tc hr (VI hr hx a m _) (td hr hx (VI hr hx a m _))
theorem aAz {r:Int×Int×Int} {g:Int×List (Int×Int)} {q:Int} {x:U} (h:kG r g q x=true) (a:g.2.length≠0):rR r g q x=cA r (rR r (rN g) q x) (dg r x (rR r (oY g) q x)):=by obtain⟨h1,b,h3,h4⟩:=Jc h;obtain⟨d,c⟩:=M9 b a;obtain⟨e,f⟩:=Ky b a;unfold rR;rw[ah h,ah (Sl h d),ah (Sl h e),c,f];obtain⟨m,hm⟩:∃m,g.2.length=m+1:=⟨g.2.length - 1,by omega⟩;rw[hm,zv,ak a,zbJ]
theorem aAy {r:Int×Int×Int} {g:Int×List (Int×Int)} {q:Int} {x:U} (h:kG r g q x=true) (a:g.2.length=0):rR r g q x=iB r (il r q) g.1.toNat:=by unfold rR;rw[ah h,a];rfl
theorem O4 {r:Int×Int×Int} {g:Int×List (Int×Int)} {q:Int} {x:U} (h:kG r g q x=true):bm r (rR r g q x)=true:=by obtain⟨a,h2,b,c,_⟩:=Jc h;unfold rR;rw[ah h];exact VI a b c _ _
theorem apg {g:Int×List (Int×Int)} (h:fq g.1 g.2=true) (h0:g.2.length≠0):OT g.1 g.2 ((g.2.length - 1:Nat):Int)=(oY g,true):=by unfold OT oY;rw[ah ⟨h,by omega,by omega⟩,wt];unfold yl;split<;>rfl
theorem apw {g:Int×List (Int×Int)} (h:fq g.1 g.2=true) (h0:g.2.length≠0):Hk g.1 g.2 ((g.2.length - 1:Nat):Int)=(rN g,true):=by unfold Hk rN;rw[ah ⟨h,by omega,by omega⟩]
def qp (s:Nat) (es:List (Int×Int)) (e:Int×Int):Prop:=∃i:Nat,es[i]? =some e/\s.testBit i=true
def wG (P:Int×Int->Prop) (x y:Int):Prop:=∀c:Int->Int,(∀e,P e->c e.1=c e.2)->c x=c y
structure wK (m:Nat) (P:Int×Int->Prop) (l:U):Prop where
 ll:l.length=m
 nZ:∀e,P e->(0<=e.1/\e.1<(m:Int))/\(0<=e.2/\e.2<(m:Int))
 same:∀i j:Nat,i<m->j<m->(l.getD i 0=l.getD j 0↔wG P (i:Int) (j:Int))
theorem wK.step {m:Nat} {P:Int×Int->Prop} {l:U} (h:wK m P l) {u v:Nat} (I:u<m) (D:v<m) {s i:Nat}:
  wK m (fun e=>P e\/(e=((u:Int),(v:Int))/\s.testBit i=true)) (tG s i l ((u:Int),(v:Int))):=by
 obtain⟨ll,nZ,same⟩:=h;cases hb:s.testBit i with
 |false=>
  have g:tG s i l ((u:Int),(v:Int))=l:=ak (by rw[hb];decide);rw[g];have k:(fun e=>P e\/(e=((u:Int),(v:Int))/\false=true))=P:=by funext e;simp
  rw[k];exact⟨ll,nZ,same⟩
 |true=>
  have H:tG s i l ((u:Int),(v:Int))=qS (max (l.getD u 0) (l.getD v 0)) (min (l.getD u 0) (l.getD v 0)) l:=ah hb;have b:∀j,j<m->(qS (max (l.getD u 0) (l.getD v 0)) (min (l.getD u 0) (l.getD v 0)) l).getD j 0=if l.getD j 0=max (l.getD u 0) (l.getD v 0) then min (l.getD u 0) (l.getD v 0) else l.getD j 0:=fun j hj=>ZF (by omega)
  rw[H];have f:∀e,(P e\/(e=((u:Int),(v:Int))/\true=true))->(0<=e.1/\e.1<(m:Int))/\(0<=e.2/\e.2<(m:Int)):=by
   intro e a;rcases a with a|⟨rfl,_⟩
   ·exact nZ e a
   ·exact⟨⟨by omega,by omega⟩,by omega,by omega⟩
  refine⟨by rw[M8];exact ll,f,?_⟩;intro x y hx hy;rw[b x hx,b y hy,MA];constructor
  ·intro d c n;have o:∀e,P e->c e.1=c e.2:=fun e a=>n e (.inl a);have p:c u=c v:=n _ (.inr ⟨rfl,rfl⟩);rcases d with d|⟨G,q⟩
   ·exact(same x y hx hy).1 d c o
   ·have B:∀z:Nat,z<m->(l.getD z 0=max (l.getD u 0) (l.getD v 0)\/l.getD z 0=min (l.getD u 0) (l.getD v 0))->c z=c u:=by
     intro z r d;have:l.getD z 0=l.getD u 0\/l.getD z 0=l.getD v 0:=by omega
     rcases this with h|h
     ·exact(same z u r I).1 h c o
     ·rw[(same z v r D).1 h c o,p]
    rw[B x hx G,B y hy q]
  ·intro d;rw[<-MA];have:=d (fun z=>(qS (max (l.getD u 0) (l.getD v 0)) (min (l.getD u 0) (l.getD v 0)) l).getD z.toNat 0) (by
    intro e a;obtain⟨⟨w,F⟩,C,E⟩:=f e a;obtain⟨g,k⟩:=e;dsimp only at w F C E⊢;obtain⟨g,rfl⟩:=jc w;obtain⟨k,rfl⟩:=jc C;rw[wt,wt,b _ (by omega),b _ (by omega),MA];rcases a with a|⟨a,_⟩
    ·exact .inl ((same g k (by omega) (by omega)).2 fun c n=>n _ a)
    ·injection a with t A;have t:g=u:=by omega
     have A:k=v:=by omega
     subst t A;exact .inr ⟨by omega,by omega⟩)
   rw[wt,wt,b x hx,b y hy] at this;exact this
theorem wK.fold {m s:Nat}:∀(es:List (Int×Int)) (i:Nat) {P:Int×Int->Prop} {l:U},wK m P l->(∀e∈es,(0<=e.1/\e.1<=(m:Int) - 1)/\(0<=e.2/\e.2<=(m:Int) - 1))-> wK m (fun e=>P e\/∃j:Nat,es[j]? =some e/\s.testBit (i+j)=true) (kN (tG s) i l es)
 |[],i,P,l,h,_=>by have:(fun e=>P e\/∃j:Nat,([]:List (Int×Int))[j]? =some e/\s.testBit (i+j)=true)=P:=(by funext e;simp);rw[this];exact h
 |(u,v)::es,i,P,l,h,he=>by obtain⟨⟨f,c⟩,k,g⟩:=he _ List.mem_cons_self;obtain⟨u,rfl⟩:=jc f;obtain⟨v,rfl⟩:=jc k;simp only at c g;have:=wK.fold (s:=s) es (i+1) (h.step (show u<m by omega) (show v<m by omega) (s:=s) (i:=i)) (fun e h=>he e (List.mem_cons_of_mem _ h));have d:(fun e=>P e\/∃j:Nat,(((u:Int),(v:Int))::es)[j]? =some e/\s.testBit (i+j)=true)=(fun e=>(P e\/(e=((u:Int),(v:Int))/\s.testBit i=true))\/∃j:Nat,es[j]? =some e/\s.testBit (i+1+j)=true):=(by funext e;apply propext;constructor;rintro(h|⟨j,a,b⟩);exact .inl (.inl h);(cases j with|zero=>exact .inl (.inr ⟨by simpa using a.symm,b⟩)|succ j=>exact .inr ⟨j,by simpa using a,by rw[show i+1+j=i+(j+1) by omega];exact b⟩);rintro((h|⟨a,b⟩)|⟨j,a,b⟩);exact .inl h;exact .inr ⟨0,by simp[a],b⟩;exact .inr ⟨j+1,by simpa using a,by rw[show i+(j+1)=i+1+j by omega];exact b⟩);rw[d];exact this
theorem wK.init (m:Nat):wK m (fun _=>False) (lC m):=by refine⟨xv m,fun e h=>h.elim,fun i j hi hj=>?_⟩;rw[Ma hi,Ma hj];constructor;intro h c _;rw[h];intro h;exact h (fun z=>z) fun e a=>a.elim
theorem Ms {m:Nat} {es:List (Int×Int)} {s:Nat} (h:fq (m:Int) es=true): (jo (m:Int) es (s:Int)).length=m/\(∀i j:Nat,i<m->j<m->((jo (m:Int) es (s:Int)).getD i 0=(jo (m:Int) es (s:Int)).getD j 0↔wG (qp s es) (i:Int) (j:Int)))/\ ∀i:Nat,i<m->0<=(jo (m:Int) es (s:Int)).getD i 0/\(jo (m:Int) es (s:Int)).getD i 0<=(i:Int)/\(jo (m:Int) es (s:Int)).getD ((jo (m:Int) es (s:Int)).getD i 0).toNat 0=(jo (m:Int) es (s:Int)).getD i 0:=by obtain⟨⟨cC,hn⟩,hl,a⟩:=pT h;have b:=ub.fold (s:=s) es 0 (st:=((m:Int),lC m)) (ub.init m) a;have c:=wK.fold (s:=s) es 0 (wK.init m) a;have e:jo (m:Int) es (s:Int)=kN (tG s) 0 (lC m) es:=(by unfold jo;rw[wt,wt]);rw[e];refine⟨b.ll,fun i j hi hj=>?_,b.low⟩;rw[c.same i j hi hj];have:(fun e=>False\/∃j:Nat,es[j]? =some e/\s.testBit (0+j)=true)=qp s es:=(by funext e;apply propext;simp only[qp,false_or,zau]);rw[this]
theorem Mr {m:Nat} {es:List (Int×Int)} {s:Nat} (h:fq (m:Int) es=true) {i:Nat} (hi:i<m): (jo (m:Int) es (s:Int)).getD i 0=(i:Int)↔∀j,j<i->¬wG (qp s es) (i:Int) (j:Int):=by obtain⟨_,hs,hl⟩:=Ms (s:=s) h;constructor;intro e j hj g;have:=(hs i j hi (by omega)).2 g;have:=(hl j (by omega)).2.1;omega;intro e;obtain⟨a,b,c⟩:=hl i hi;obtain⟨t,f⟩:=jc a;rw[f] at b c⊢;rw[wt] at c;by_cases d:t=i;rw[d];exact absurd ((hs i t hi (by omega)).1 (by rw[f,c])) (e t (by omega))
theorem VS {m:Nat} {es es':List (Int×Int)} {s a:Nat} (h:fq (m:Int) es=true) (h':fq (m:Int) es'=true) (d:∀x y:Int,wG (qp s es) x y↔wG (qp a es') x y): nE (jo (m:Int) es (s:Int))=nE (jo (m:Int) es' (a:Int)):=by unfold nE;rw[(Ms (s:=s) h).1,(Ms (s:=a) h').1];congr 1;refine zbo fun i hi=>?_;have hi:=By.1 hi;simp only[beq_iff_eq];rw[Mr h hi,Mr h' hi];constructor;intro c j hj b;exact c j hj ((d _ _).2 b);intro c j hj b;exact c j hj ((d _ _).1 b)
theorem adb (P:Nat->Bool) (b:Nat):∀n,b<=n->P b=false->(zaa (n+1)).countP P=(zaa n).countP (fun y=>P (if y<b then y else y+1))
 |n,hb,hP=>by
  by_cases h:b=n
  ·subst h;rw[Hi,hP];simp only[Bool.false_eq_true,if_false,zbk];exact zbo fun i hi=>by rw[ah (By.1 hi)]
  ·obtain⟨n,rfl⟩:∃k,n=k+1:=⟨n - 1,by omega⟩;rw[Hi P (n+1),adb P b n (by omega) hP,Hi (fun y=>P (if y<b then y else y+1)) n,ak (show¬n<b by omega)]
theorem ark {m:Nat} {es es':List (Int×Int)} {s n a b:Nat} (C:a<b) (hb:b<=m) (h:fq ((m+1:Nat):Int) es=true) (h':fq (m:Int) es'=true)
  (A:∀e,qp n es' e↔∃f,qp s es f/\e=oI (a:Int) (b:Int) f) (v:wG (qp s es) (a:Int) (b:Int)):
  nE (jo ((m+1:Nat):Int) es (s:Int))=nE (jo (m:Int) es' (n:Int)):=by
 let g:Int->Int:=fun y=>if y<(b:Int) then y else y+1
 have E:∀x:Int,g (iL x a b)=if x=(b:Int) then(a:Int) else x:=by
  intro x;show(if iL x a b<(b:Int) then iL x a b else iL x a b+1)=_
  unfold iL;by_cases hx:x=(b:Int)
  ·rw[ah hx,ah hx,ah (by omega)]
  ·rw[ak hx,ak hx];by_cases w:(b:Int)<x
   ·rw[ah w,ak (by omega)];omega
   ·rw[ak w,ah (by omega)]
 have t:∀y:Int,iL (g y) a b=y:=by
  intro y;show iL (if y<(b:Int) then y else y+1) a b=y
  unfold iL;by_cases hy:y<(b:Int)
  ·rw[ah hy,ak (by omega),ak (by omega)]
  ·rw[ak hy,ak (by omega),ah (by omega)];omega
 have B:∀x y:Int,wG (qp n es') (iL x a b) (iL y a b)↔wG (qp s es) x y:=by
  intro x y;constructor
  ·intro i c d;have u:c a=c b:=v c d;have o:∀z:Int,c (g (iL z a b))=c z:=by
    intro z;rw[E];by_cases q:z=(b:Int)
    ·rw[ah q,u,q]
    ·rw[ak q]
   have:=i (fun z=>c (g z)) (by
    intro e D;obtain⟨f,p,rfl⟩:=(A e).1 D;show c (g (iL f.1 a b))=c (g (iL f.2 a b));rw[o,o];exact d f p)
   rw[o,o] at this;exact this
  ·intro i c d;exact i (fun z=>c (iL z a b)) fun f p=>d _ ((A _).2 ⟨f,p,rfl⟩)
 unfold nE;rw[(Ms (s:=s) h).1,(Ms (s:=n) h').1];rw[adb _ b m hb (by
  rw[beq_eq_false_iff_ne];intro i;exact(Mr h (show b<m+1 by omega)).1 i a C fun c d=>(v c d).symm)]
 congr 1;refine zbo fun y hy=>?_;have hy:=By.1 hy;simp only[beq_iff_eq];have k:(((if y<b then y else y+1:Nat)):Int)=g (y:Int):=by
  show _=if(y:Int)<(b:Int) then(y:Int) else(y:Int)+1
  split<;>split<;>omega
 have aJ:g (y:Int)≠(b:Int):=by
  show(if(y:Int)<(b:Int) then(y:Int) else(y:Int)+1)≠_
  split<;>omega
 rw[Mr h (show(if y<b then y else y+1)<m+1 by split<;>omega),Mr h' hy]
 constructor
 ·intro i j hj d;refine i (if j<b then j else j+1) (by split<;>split<;>omega) ?_
  rw[k,show(((if j<b then j else j+1:Nat)):Int)=g (j:Int) by show _=if(j:Int)<(b:Int) then(j:Int) else(j:Int)+1;split<;>split<;>omega]
  rw[<-B,t,t];exact d
 ·intro i j hj d;rw[k] at d;have l:=(B _ _).2 d;rw[t] at l;by_cases r:j=b
  ·subst r;have e:iL (j:Int) a j=(a:Int):=by unfold iL;rw[ah rfl]
   rw[e] at l;refine i a ?_ l;split at hj<;>omega
  ·have e:iL (j:Int) a b=((if b<j then j - 1 else j:Nat):Int):=by
    unfold iL;rw[ak (by omega)];split<;>split<;>omega
   rw[e] at l;refine i _ ?_ l;split at hj<;>split<;>omega
theorem Ot {k t q r i:Nat} (hr:r<2^k) (ht:t<2):(2^k*(2*q+t)+r).testBit i=if i<k then r.testBit i else if i=k then decide (t=1) else q.testBit (i - k - 1):=by rw[zbf _ hr];by_cases h:i<k;rw[ah h,ah h];rw[ak h,ak h];by_cases a:i=k;rw[ah a,a,zaN,Nat.testBit_zero];rw[show(2*q+t)%2=t by omega];rw[ak a];obtain⟨j,hj⟩:∃j,i - k=j+1:=⟨i - k - 1,by omega⟩;rw[hj,Nat.testBit_succ,show(2*q+t)/2=q by omega];rfl
theorem U5 {k s i:Nat}:s.testBit i=if i<k then(s%2^k).testBit i else(s/2^k).testBit (i - k):=by have h:=zbf (s/2^k) (zbb s (zbz k)) i;rw[zbY] at h;exact h
theorem Pb {l:List (Int×Int)} {k i:Nat}:(l.eraseIdx k)[i]? =if i<k then l[i]? else l[i+1]? :=List.getElem?_eraseIdx
theorem I2 {l:List (Int×Int)} {k s t:Nat} (c:t<2) (e:Int×Int): qp (2^k*(2*(s/2^k)+t)+s%2^k) l e↔qp s (l.eraseIdx k) e\/(t=1/\l[k]? =some e):=by have hr:=zbb s (zbz k);constructor;rintro⟨i,b,a⟩;rw[Ot hr c] at a;by_cases h:i<k;rw[ah h] at a;exact .inl ⟨i,by rw[Pb,ah h];exact b,by rw[U5 (k:=k),ah h];exact a⟩;rw[ak h] at a;by_cases d:i=k;rw[ah d] at a;exact .inr ⟨of_decide_eq_true a,by rw[<-d];exact b⟩;rw[ak d] at a;refine .inl ⟨i - 1,?_,?_⟩;rw[Pb,ak (by omega),show i - 1+1=i by omega];exact b;rw[U5 (k:=k),ak (by omega),show i - 1 - k=i - k - 1 by omega];exact a;rintro(⟨i,b,a⟩|⟨b,a⟩);rw[Pb] at b;rw[U5 (k:=k)] at a;by_cases h:i<k;rw[ah h] at b a;exact⟨i,b,by rw[Ot hr c,ah h];exact a⟩;rw[ak h] at b a;exact⟨i+1,b,by rw[Ot hr c,ak (by omega),ak (by omega),show i+1 - k - 1=i - k by omega];exact a⟩;exact⟨k,a,by rw[Ot hr c,ak (by omega),ah rfl];exact decide_eq_true b⟩
theorem Nm {l:List (Int×Int)} {s:Nat} {f:Int×Int->Int×Int} (e:Int×Int):qp s (l.map f) e↔∃d,qp s l d/\e=f d:=by constructor;rintro⟨i,a,b⟩;rw[zad] at a;(cases hd:l[i]? with|none=>rw[hd] at a;cases a|some d=>rw[hd] at a;injection a with a;exact⟨d,⟨i,hd,b⟩,a.symm⟩);rintro⟨d,⟨i,a,b⟩,rfl⟩;exact⟨i,by rw[zad,a];rfl,b⟩
theorem anH {P Q:Int×Int->Prop} (h:∀e,P e↔Q e) (x y:Int):wG P x y↔wG Q x y:=by have:P=Q:=funext fun e=>propext (h e);rw[this]
theorem VD (k:Nat) (l:List (Int×Int)):qx (k:Int) l=l.eraseIdx k:=by unfold qx;rw[VE,ah (za0 _),zcd];rfl
theorem VL {n:Int} {l:List (Int×Int)} {k:Nat} (h:fq n l=true):fq n (l.eraseIdx k)=true:=by obtain⟨a,d,c⟩:=pT h;exact HC a (zax (List.length_eraseIdx_le l k) d) fun e b=>c e (zbn b)
theorem apj {m:Nat} {l:List (Int×Int)} {k s:Nat} (h:fq (m:Int) l=true): nE (jo (m:Int) (l.eraseIdx k) (s:Int))=nE (jo (m:Int) l ((2^k*(2*(s/2^k)+0)+s%2^k:Nat):Int)):= VS (VL h) h fun x y=>anH (fun e=>by rw[I2 (by decide)];simp) x y
theorem apk {m:Nat} {l:List (Int×Int)} {k s:Nat} {a:Int} (h:fq (m:Int) l=true) (j:l[k]? =some (a,a)): nE (jo (m:Int) (l.eraseIdx k) (s:Int))=nE (jo (m:Int) l ((2^k*(2*(s/2^k)+1)+s%2^k:Nat):Int)):=by refine VS (VL h) h fun x y=>?_;constructor;intro g c f;exact g c fun e d=>f e ((I2 (by decide) e).2 (.inl d));intro g c f;refine g c fun e d=>?_;rcases(I2 (by decide) e).1 d with i|⟨_,b⟩;exact f e i;rw[j] at b;injection b with b;subst b;rfl
theorem api {m:Nat} {l:List (Int×Int)} {k s a b:Nat} {e:Int×Int} (t:a<b) (hb:b<=m) (h:fq ((m+1:Nat):Int) l=true) (r:l[k]? =some e) (he:(a:Int)=min e.1 e.2/\(b:Int)=max e.1 e.2)
  (h':fq (m:Int) ((l.eraseIdx k).map (oI (a:Int) (b:Int)))=true):
  nE (jo (m:Int) ((l.eraseIdx k).map (oI (a:Int) (b:Int))) (s:Int))=nE (jo ((m+1:Nat):Int) l ((2^k*(2*(s/2^k)+1)+s%2^k:Nat):Int)):=by
 have v:qp (2^k*(2*(s/2^k)+1)+s%2^k) l e:=(I2 (by decide) e).2 (.inr ⟨rfl,r⟩);have z:wG (qp (2^k*(2*(s/2^k)+1)+s%2^k) l) (a:Int) (b:Int):=by
  intro c o;have:=o e v;rcases Int.le_total e.1 e.2 with h|h
  ·rw[show(a:Int)=e.1 by omega,show(b:Int)=e.2 by omega];exact this
  ·rw[show(a:Int)=e.2 by omega,show(b:Int)=e.1 by omega];exact this.symm
 have hm:((l.eraseIdx k).map (oI (a:Int) (b:Int)))=(l.eraseIdx k).map (oI (a:Int) (b:Int)):=rfl;have n:oI (a:Int) (b:Int) e=((a:Int),(a:Int)):=by
  unfold oI iL;rcases Int.lt_or_le e.1 e.2 with h|h
  ·rw[ak (by omega),ak (by omega),ah (by omega),show e.1=(a:Int) by omega]
  ·rw[ah (by omega),ak (by omega),ak (by omega),show e.2=(a:Int) by omega]
 symm
 have g:fq (m:Int) (l.map (oI (a:Int) (b:Int)))=true:=by
  obtain⟨u,g2,A⟩:=pT h';obtain⟨_,B,_⟩:=pT h;refine HC u (by rw[AI];exact B) fun d hd=>?_;obtain⟨f,j,rfl⟩:=If.1 hd;obtain⟨i,hi⟩:=zbA j;by_cases q:i=k
  ·rw[q,r] at hi;injection hi with hi;rw[<-hi,n];exact⟨⟨by omega,by dsimp only;omega⟩,by omega,by dsimp only;omega⟩
  ·refine A _ (zbg ?_);refine BY (i:=if i<k then i else i - 1) ?_
   rw[Pb];by_cases h:i<k
   ·rw[ah h,ah h];exact hi
   ·rw[ak h,ak (by omega),show i - 1+1=i by omega];exact hi
 rw[ark (es':=l.map (oI (a:Int) (b:Int))) t hb h g (fun d=>Nm d) z];refine VS g h' fun x y=>?_;constructor
 ·intro p c o;refine p c fun d hd=>?_;obtain⟨f,j,rfl⟩:=(Nm d).1 hd;rcases(I2 (by decide) f).1 j with w|⟨_,g⟩
  ·exact o _ ((Nm _).2 ⟨f,w,rfl⟩)
  ·rw[r] at g;injection g with g;rw[<-g,n]
 ·intro p c o;refine p c fun d hd=>?_;obtain⟨f,j,rfl⟩:=(Nm d).1 hd;exact o _ ((Nm _).2 ⟨f,(I2 (by decide) f).2 (.inl j),rfl⟩)
theorem ao1 {r:Int×Int×Int} (hr:bc r=true) {a:Int} (ha:1<=a):cA r (s9 r a) (cH r)=s9 r (a+1):=by rw[Vo hr];obtain⟨k,p,n⟩:=r;by_cases c:k=7\/k=8;have f:∀a b:Int,jf (k,p,n) a b=(a+b)%p:=(by intro a b;simp only[jf];rw[ak (by omega),ak (by omega),ak (by omega),ak (by omega)]);rw[B0 c,B0 c,B0 c];refine tW fun t d=>?_;rw[vu _ d,vu _ d,f];by_cases h:t=0;rw[ah h,ah h,ah h,<-zbx];rw[ak h,ak h,ak h];rfl;have e:=wD (r:=(k,p,n)) c;have g:∀u v:Int,cA (k,p,n) [u] [v]=[jf (k,p,n) u v]:=fun u v=>(by unfold cA gN;rw[e];rfl);rw[BZ c,BZ c,BZ c,g];congr 1;rcases nk hr with⟨rfl,rfl,rfl⟩|⟨rfl,hp,rfl⟩|⟨rfl,hp,rfl⟩|⟨rfl,hp,rfl⟩|⟨rfl,hp,rfl⟩|⟨rfl,rfl,hn⟩|⟨rfl,hp,hn⟩|⟨rfl,hp,iR,rfl⟩;have o:∀m,r9 (1,0,0) m=1:=fun _=>rfl;rw[o,o,o];rfl;show(a%p+1%p)%p=(a+1)%p;rw[<-zbx];show min (min a p+min 1 p) p=min (a+1) p;omega;show min 0 0=0;rfl;show max p p=p;omega;show(((cr (6,0,n)).toNat|||(cr (6,0,n)).toNat:Nat):Int)=cr (6,0,n);have:=zz hr;rw[Nat.or_self];omega;omega;omega
section
variable {r:Rg} {q:Nat} {x:U}
theorem abY (hr:bc r=true):∀q:Nat,1<=q->SL r (fun _=>cH r) (zaa q)=il r (q:Int)
 |1,_=>by show cA r (cH r) (d9 r)=il r 1;rw[add_zero hr (kA hr),Vo hr];rfl
 |q+2,_=>by rw[zaV,DR hr fun _=>kA hr,abY hr (q+1) (by omega)];show cA r _ (cA r (cH r) (d9 r))=_;rw[add_zero hr (kA hr),il,ak (by omega),ao1 hr (by omega),il,ak (by omega)];rfl
theorem aiP (hr:bc r=true) (a:1<=q):∀(J:U) (τ:Int->Nat),nQ r q J (fun _=>cH r) τ=iB r (il r (q:Int)) J.length
 |[],τ=>rfl
 |v::J,τ=>by have hp:=qz hr (uv hr (m:=(q:Int)) (by omega)) J.length;have e:∀i,nQ r q J (fun _=>cH r) (jF τ v i)=dg r (cH r) (iB r (il r (q:Int)) J.length):=fun i=>(by rw[aiP hr a J,one_mul hr hp]);show SL r (fun i=>nQ r q J (fun _=>cH r) (jF τ v i)) _=dg r (iB r (il r (q:Int)) J.length) (il r (q:Int));rw[qZ _ fun i _=>e i,N9 hr (fun _=>kA hr) hp,abY hr q a,mul_comm hr (uv hr (by omega)) hp]
def wE (r:Rg) (x:U) (e:Int×Int) (τ:Int->Nat):U:=if τ e.1=τ e.2 then cA r (cH r) x else cH r
def pE (r:Rg) (x:U):List (Int×Int)->(Int->Nat)->U
 |[],_=>cH r
 |e::es,τ=>dg r (wE r x e τ) (pE r x es τ)
theorem SW (hr:bc r=true) (hx:bm r x=true) (e:Int×Int) (τ:Int->Nat):bm r (wE r x e τ)=true:=by unfold wE;split;exact tc hr (kA hr) hx;exact kA hr
theorem Q2 (hr:bc r=true) (hx:bm r x=true):∀(es:List (Int×Int)) (τ:Int->Nat),bm r (pE r x es τ)=true
 |[],_=>kA hr
 |e::es,τ=>td hr (SW hr hx e τ) (Q2 hr hx es τ)
theorem ajd (hr:bc r=true) (hx:bm r x=true) (e:Int×Int) (τ:Int->Nat):∀es:List (Int×Int),pE r x (es++[e]) τ=dg r (pE r x es τ) (wE r x e τ)
 |[]=>by show dg r (wE r x e τ) (cH r)=dg r (cH r) (wE r x e τ);exact mul_comm hr (SW hr hx e τ) (kA hr)
 |d::es=>by show dg r (wE r x d τ) (pE r x (es++[e]) τ)=dg r (dg r (wE r x d τ) (pE r x es τ)) (wE r x e τ);rw[ajd hr hx e τ es,mul_assoc hr (SW hr hx d τ) (Q2 hr hx es τ) (SW hr hx e τ)]
theorem ajb {τ a:Int->Nat}:∀(es:List (Int×Int)),(∀e∈es,τ e.1=a e.1/\τ e.2=a e.2)->pE r x es τ=pE r x es a
 |[],_=>rfl
 |e::es,h=>by obtain⟨b,c⟩:=h e (by simp);show dg r (wE r x e τ) _=dg r (wE r x e a) _;rw[ajb es fun d hd=>h d (by simp[hd])];unfold wE;rw[b,c]
theorem ajc (f:Int->Int) (τ:Int->Nat):∀es:List (Int×Int),pE r x (es.map fun e=>(f e.1,f e.2)) τ=pE r x es (fun v=>τ (f v))
 |[]=>rfl
 |e::es=>by show dg r (wE r x (f e.1,f e.2) τ) _=dg r (wE r x e fun v=>τ (f v)) _;rw[ajc f τ es];rfl
theorem aiR (hr:bc r=true) {f g:(Int->Nat)->U}:∀(L done:List (Int×Int)) (τ a:Int->Nat),((done++L).map (·.1)).Nodup->((done++L).map (·.2)).Nodup->(∀u,τ u<q)-> (∀τ a:Int->Nat,(∀u,τ u<q)->(∀p∈done++L,τ p.1=a p.2)->f τ=g a)->(∀p∈done,τ p.1=a p.2)->nQ r q (L.map (·.1)) f τ=nQ r q (L.map (·.2)) g a
 |[],done,τ,a,_,_,hq,h,hd=>h τ a hq (by simpa using hd)
 |p::L,done,τ,a,n1,n2,hq,h,hd=>by refine qZ _ fun i hi=>?_;have e:done++p::L=done++[p]++L:=(by simp);rw[e] at n1 n2 h;refine aiR hr L (done++[p]) _ _ n1 n2 (SP hq hi) h fun d b=>?_;rw[zaE,zaE] at n1 n2;rcases zao.1 b with h'|h';have j:d.1≠p.1:=fun e=>(zas.1 (zas.1 n1).1).2.2 d.1 (zbg h') p.1 (by simp) e;have c:d.2≠p.2:=fun e=>(zas.1 (zas.1 n2).1).2.2 d.2 (zbg h') p.2 (by simp) e;rw[Bn _ _ j,Bn _ _ c];exact hd d h';rw[zai.1 h',F7,F7]
def mf (n:Nat):U:=(zaa n).map fun(i:Nat)=>(i:Int)
theorem ag8 {f:Nat->Int} (h:∀i j,f i=f j->i=j) (n:Nat):((zaa n).map f).Nodup:=zcn f (fun a b c e=>c (h a b e)) zaK
theorem QU (n:Nat):(mf n).Nodup:=ag8 (fun a b h=>by omega) n
theorem QT {n:Nat} {v:Int}:v∈mf n↔0<=v/\v<n:=by unfold mf;rw[If];exact⟨fun⟨i,hi,e⟩=>by have:=By.1 hi;omega,fun h=>⟨v.toNat,By.2 (by omega),by omega⟩⟩
def zE (r:Rg) (q:Nat) (x:U) (g:Int×List (Int×Int)):U:=nQ r q (mf g.1.toNat) (pE r x g.2) fun _=>0
theorem apx {es:List (Int×Int)} (h:es.length≠0):qx ((es.length - 1:Nat):Int) es++[es.getD (es.length - 1) (0,0)]=es:=by rw[VD];have e:es.eraseIdx (es.length - 1)=es.take (es.length - 1):=(by rw[List.eraseIdx_eq_take_drop_succ,List.drop_of_length_le (by omega),zaj]);have a:es.length - 1<es.length:=(by omega);rw[e,co,so a,Option.getD_some,List.take_append_getElem];exact zaM (by omega)
theorem aBT (hr:bc r=true) (hx:bm r x=true) (hq:1<=q) {n a b l h:Nat} {dl:List (Int×Int)} (o:l<h) (hh:h<n+1) (G:(a=l/\b=h)\/(a=h/\b=l)) (hd:∀e∈dl,(0<=e.1/\e.1<n+1)/\(0<=e.2/\e.2<n+1)):
  nQ r q (mf (n+1)) (fun τ=>if τ (a:Int)=τ (b:Int) then pE r x dl τ else d9 r) (fun _=>0)=zE r q x ((n:Int),dl.map (oI (l:Int) (h:Int))):=by
 let ρ:Nat->Int:=fun y=>if y<h then(y:Int) else(y:Int)+1
 let L:List (Int×Int):=(zaa n).map fun y=>(ρ y,(y:Int));have c:∀y,ρ y=if y<h then(y:Int) else(y:Int)+1:=fun _=>rfl
 have g:L.map (·.1)=(zaa n).map ρ:=by simp[L,zbO]
 have d:L.map (·.2)=mf n:=by simp[L,mf,zbO]
 have f:((zaa n).map ρ).Nodup:=ag8 (fun i j e=>by
  rw[c,c] at e;split at e<;>split at e<;>omega) n
 have H:(mf (n+1)).Perm ((zaa n).map ρ++[(h:Int)]):=by
  refine(zaR (QU _) ?_).2 fun v=>?_
  ·refine zas.2 ⟨f,by simp,fun u J w F=>?_⟩;rw[zai.1 F];obtain⟨y,hy,rfl⟩:=If.1 J;rw[c];split<;>omega
  ·rw[QT,zao,If];constructor
   ·intro E;by_cases k:v=(h:Int)
    ·exact .inr (by simp[k])
    ·by_cases s:v<h
     ·exact .inl ⟨v.toNat,By.2 (by omega),by rw[c,ah (by omega)];omega⟩
     ·exact .inl ⟨(v - 1).toNat,By.2 (by omega),by rw[c,ak (by omega)];omega⟩
   ·rintro(⟨y,hy,rfl⟩|E)
    ·have:=By.1 hy;rw[c];split<;>omega
    ·have:=zai.1 E;omega
 have D:∀τ:Int->Nat,bm r (if τ (a:Int)=τ (b:Int) then pE r x dl τ else d9 r)=true:=fun τ=>by
  split
  ·exact Q2 hr hx dl τ
  ·exact rh hr
 rw[aiQ hr D H,Y4];have K:∀τ:Int->Nat,(∀u,τ u<q)->nQ r q [(h:Int)] (fun τ=>if τ (a:Int)=τ (b:Int) then pE r x dl τ else d9 r) τ=pE r x dl (jF τ (h:Int) (τ (l:Int))):=by
  intro τ z;have B:(l:Int)≠(h:Int):=by omega
  have A:∀i,(jF τ (h:Int) i (a:Int)=jF τ (h:Int) i (b:Int))↔i=τ (l:Int):=fun i=>by
   rcases G with⟨rfl,rfl⟩|⟨rfl,rfl⟩
   ·rw[Bn _ _ B,F7];exact eq_comm
   ·rw[F7,Bn _ _ B]
  show SL r (fun i=>if jF τ (h:Int) i (a:Int)=jF τ (h:Int) i (b:Int) then pE r x dl (jF τ (h:Int) i) else d9 r) _=_
  rw[Oa hr (fun i=>D _) (a:=τ (l:Int)) zaK (By.2 (z _)),ah ((A _).2 rfl)];intro i _ hi;exact ak fun e=>hi ((A i).1 e)
 have I:nQ r q ((zaa n).map ρ) (nQ r q [(h:Int)] fun τ=>if τ (a:Int)=τ (b:Int) then pE r x dl τ else d9 r) (fun _=>0)=nQ r q ((zaa n).map ρ) (fun τ=>pE r x dl (jF τ (h:Int) (τ (l:Int)))) (fun _=>0):=
  AL _ K fun _=>by omega
 rw[I];unfold zE;rw[show(((n:Int),dl.map (oI (l:Int) (h:Int))):Int×List (Int×Int)).1.toNat=n from wt n,<-g,<-d]
 refine aiR hr L [] _ _ (by rw[zaX,g];exact f) (by rw[zaX,d];exact QU n) (fun _=>by omega) (fun τ p z hp=>?_) (by simp);have t:∀y,y<n->τ (ρ y)=p (y:Int):=fun y hy=>hp (ρ y,(y:Int)) (by rw[zaX];exact If.2 ⟨y,By.2 hy,rfl⟩);show pE r x dl (jF τ (h:Int) (τ (l:Int)))=pE r x (dl.map fun e=>(iL e.1 (l:Int) (h:Int),iL e.2 (l:Int) (h:Int))) p;rw[ajc (fun v=>iL v (l:Int) (h:Int))];have C:∀v:Int,0<=v->v<n+1->jF τ (h:Int) (τ (l:Int)) v=p (iL v (l:Int) (h:Int)):=by
  intro v v0 v1;unfold iL;by_cases k:v=(h:Int)
  ·subst k;rw[F7,ah rfl];have:=t l (by omega);rw[c,ah o] at this;exact this
  ·rw[Bn _ _ k,ak k];by_cases s:(h:Int)<v
   ·rw[ah s];have:=t (v - 1).toNat (by omega);rw[c,ak (by omega),show(((v - 1).toNat:Nat):Int)=v - 1 by omega,show v - 1+1=v by omega] at this;exact this
   ·rw[ak s];have:=t v.toNat (by omega);rw[c,ah (by omega),show((v.toNat:Nat):Int)=v by omega] at this;exact this
 exact ajb dl fun e m=>⟨C _ (hd e m).1.1 (hd e m).1.2,C _ (hd e m).2.1 (hd e m).2.2⟩
theorem abE (hr:bc r=true) (hx:bm r x=true) (i:1<=q):∀(m:Nat) (g:Int×List (Int×Int)),fq g.1 g.2=true->g.2.length=m->zE r q x g=zv r (q:Int) x m g
 |0,(n,[]),hg,_=>by
  obtain⟨hn,_⟩:=pT hg;show nQ r q (mf n.toNat) (fun _=>cH r) _=iB r (il r (q:Int)) n.toNat
  rw[aiP hr i];congr 1;unfold mf;rw[AI,zbp]
 |m+1,(n,es),hg,hm=>by
  have j:es.length≠0:=by simp only at hm;omega
  obtain⟨z,A⟩:=M9 (g:=(n,es)) hg j;obtain⟨v,C⟩:=Ky (g:=(n,es)) hg j;have hl:(rN (n,es)).2.length=m:=by rw[A];simp only at hm⊢;omega
  have D:(oY (n,es)).2.length=m:=by rw[C];simp only at hm⊢;omega
  rw[zv,ak (by simpa using j),<-abE hr hx i m _ z hl,<-abE hr hx i m _ v D];obtain⟨hn,f,s⟩:=pT hg;simp only at hn f s;generalize Aa:qx ((es.length - 1:Nat):Int) es=dl at*
  generalize lg:es.getD (es.length - 1) (0,0)=e at*
  have p:dl++[e]=es:=by rw[<-Aa,<-lg];exact apx j
  have k:rN (n,es)=(n,dl):=by unfold rN;rw[Aa]
  have u:oY (n,es)=(yl n dl e).1:=by unfold oY;rw[Aa,lg]
  rw[k,u];have c:=Q2 hr hx dl;have o:∀τ:Int->Nat,bm r (if τ e.1=τ e.2 then pE r x dl τ else d9 r)=true:=fun τ=>by
   split
   ·exact c τ
   ·exact rh hr
  have E:∀τ:Int->Nat,pE r x es τ=cA r (pE r x dl τ) (dg r (if τ e.1=τ e.2 then pE r x dl τ else d9 r) x):=fun τ=>by
   rw[<-p,ajd hr hx];unfold wE;by_cases h:τ e.1=τ e.2
   ·rw[ah h,ah h,mul_add hr (c τ) (kA hr) hx,mul_one hr (c τ)]
   ·rw[ak h,ak h,mul_one hr (c τ),zero_mul hr hx,add_zero hr (c τ)]
  have B:nQ r q (mf n.toNat) (fun τ=>if τ e.1=τ e.2 then pE r x dl τ else d9 r) (fun _=>0)=zE r q x (yl n dl e).1:=by
   have t:∀d∈es,(0<=d.1/\d.1<n)/\(0<=d.2/\d.2<n):=fun d hd=>by have:=s d hd;omega
   have hie:=t e (by rw[<-p];simp);unfold yl;rw[AK,QG];by_cases y:e.1=e.2
   ·rw[ah (by omega)];exact AL _ (fun τ _=>ah (by rw[y])) fun _=>by omega
   ·rw[ak (by omega)];have:=aBT (q:=q) hr hx i (n:=(n - 1).toNat) (a:=e.1.toNat) (b:=e.2.toNat) (l:=(min e.1 e.2).toNat) (h:=(max e.1 e.2).toNat) (dl:=dl) (by omega) (by omega) (by omega) fun d hd=>by
     have:=t d (by rw[<-p];simp[hd]);omega
    rw[show(((e.1.toNat:Nat)):Int)=e.1 by omega,show(((e.2.toNat:Nat)):Int)=e.2 by omega,show(n - 1).toNat+1=n.toNat by omega,show(((n - 1).toNat:Nat):Int)=n - 1 by omega,show((((min e.1 e.2).toNat:Nat)):Int)=min e.1 e.2 by omega,show((((max e.1 e.2).toNat:Nat)):Int)=max e.1 e.2 by omega] at this;exact this
  have w:=Fo (q:=q) hr o (mf n.toNat) fun _=>0;show nQ r q (mf n.toNat) (pE r x es) _=cA r (nQ r q (mf n.toNat) (pE r x dl) _) (dg r x (zE r q x (yl n dl e).1));rw[AL _ (fun τ _=>E τ) (fun _=>by omega),aiN hr c (fun τ=>td hr (o τ) hx),Y6 hr o (fun _=>hx) _ _ (fun _ _ _ _=>rfl),<-B,mul_comm hr hx w]
end
theorem Zs (n:Nat):ik n=n%2+ik (n/2):=by by_cases h:n=0;subst h;simp[ik];rw[ik,ak h]
theorem ajK:∀(m s:Nat),s<2^m->ik (2^m+s)=ik s+1
 |0,s,h=>by have:s=0:=(by simpa using h);subst this;simp[ik]
 |m+1,s,h=>by have h':s/2<2^m:=(by rw[zbU] at h;omega);rw[Zs,Zs s,zbU,show(2^m*2+s)%2=s%2 by omega,show(2^m*2+s)/2=2^m+s/2 by omega,ajK m _ h'];omega
theorem ayR {s:Nat} (h:s≠0):1<=ik s:=by induction s using Nat.strongRecOn with|_ s b=>rw[Zs];by_cases a:s/2=0;have:s=1:=(by omega);subst this;simp;have:=b (s/2) (by omega) a;omega
section
variable {r:Rg} {q:Int} {x:U}
def BX (r:Rg) (g:Int×List (Int×Int)) (q:Int) (x:U) (s:Nat):U:=dg r (iB r (il r q) (sa g s)) (iB r x (ik s))
theorem OQ (hr:bc r=true) (hx:bm r x=true) (hq:1<=q) (g:Int×List (Int×Int)) (s:Nat):bm r (BX r g q x s)=true:=td hr (qz hr (uv hr (by omega)) _) (qz hr hx _)
theorem Kv (hr:bc r=true) (hx:bm r x=true) (a:1<=q) (g:Int×List (Int×Int)):∀N,D7 r g q x N=SL r (BX r g q x) (zaa N)
 |0=>rfl
 |s+1=>by rw[zaV,DR hr (OQ hr hx a g),<-Kv hr hx a g s];show cA r _ (BX r g q x s)=cA r _ (cA r (BX r g q x s) (d9 r));rw[add_zero hr (OQ hr hx a g s)]
theorem Kx {n:Int} {es:List (Int×Int)} (h:fq n es=true) (s:Nat):sa (n,es) s=(nE (jo n es (s:Int))).toNat:=by unfold sa;rw[VT h]
theorem ao9 {n:Int} {es:List (Int×Int)} (h:fq n es=true) (b:es.length≠0) {s:Nat} (hs:s<2^(es.length - 1)):sa (n,es) s=sa (rN (n,es)) s:=by obtain⟨a1,a2⟩:=M9 (g:=(n,es)) h b;obtain⟨hn,_⟩:=pT h;have h':fq ((n.toNat:Nat):Int) es=true:=(by rw[show((n.toNat:Nat):Int)=n by omega];exact h);have e:=apj (k:=es.length - 1) (s:=s) h';rw[zaS hs,zaT hs] at e;simp only[zca,zau,zbk] at e;have a:fq n (es.eraseIdx (es.length - 1))=true:=VL h;rw[Kx h];unfold rN;simp only;rw[VD,Kx a,<-show((n.toNat:Nat):Int)=n by omega,e]
theorem ao8 {n:Int} {es:List (Int×Int)} (h:fq n es=true) (v:es.length≠0) {s:Nat} (hs:s<2^(es.length - 1)):sa (n,es) (2^(es.length - 1)+s)=sa (oY (n,es)) s:=by obtain⟨d,b2⟩:=Ky (g:=(n,es)) h v;obtain⟨hn,hlen,r⟩:=pT h;have h':fq ((n.toNat:Nat):Int) es=true:=(by rw[show((n.toNat:Nat):Int)=n by omega];exact h);have u:es.length - 1<es.length:=(by omega);obtain⟨e,f⟩:∃e,es[es.length - 1]? =some e:=⟨_,so u⟩;have w:es.getD (es.length - 1) (0,0)=e:=(by rw[co,f];rfl);have hm:=r e (BY f);(try simp only at hn hm);have p:2^(es.length - 1)*(2*(s/2^(es.length - 1))+1)+s%2^(es.length - 1)=2^(es.length - 1)+s:=(by rw[zaS hs,zaT hs];simp);rw[Kx h];unfold oY yl at d⊢;simp only at d⊢;rw[w,AK,QG,VD] at d⊢;by_cases t:e.1=e.2;rw[ah (by omega)] at d⊢;have c:=apk (k:=es.length - 1) (s:=s) (a:=e.1) h' (by rw[f];congr 1;exact Prod.ext rfl t.symm);rw[p] at c;rw[Kx d,<-show((n.toNat:Nat):Int)=n by omega,<-c];rw[ak (by omega)] at d⊢;have j:(((min e.1 e.2).toNat:Nat):Int)=min e.1 e.2:=(by omega);have i:(((max e.1 e.2).toNat:Nat):Int)=max e.1 e.2:=(by omega);have o:(((n - 1).toNat:Nat):Int)=n - 1:=(by omega);have q:(((n - 1).toNat+1:Nat):Int)=n:=(by omega);have c:=api (m:=(n - 1).toNat) (k:=es.length - 1) (s:=s) (a:=(min e.1 e.2).toNat) (b:=(max e.1 e.2).toNat) (e:=e) (l:=es) (by omega) (by omega) (by rw[q];exact h) f ⟨j,i⟩ (by rw[j,i,o];exact d);rw[p,j,i,o,q] at c;rw[Kx d,<-c]
theorem ac1 (n:Int) (es:List (Int×Int)):sa (n,es) 0=n.toNat:=by have a:∀(es:List (Int×Int)) (i:Nat) (st:Int×U),kN (zn 0) i st es=st:=(by intro es;induction es with|nil=>exact fun _ _=>rfl|cons e es b=>intro i st;rw[kN];rw[show zn 0 i st e=st from ak (by simp)];exact b _ _);unfold sa parts;rw[show((0:Nat):Int).toNat=0 from rfl,a]
theorem Vn (hr:bc r=true) (hx:bm r x=true) (a:1<=q):∀(m:Nat) (g:Int×List (Int×Int)),fq g.1 g.2=true->g.2.length=m->D7 r g q x (2^m)=zv r q x m g
 |0,(n,[]),hg,_=>by have hp:=qz hr (uv hr (m:=q) (by omega)) n.toNat;show cA r (d9 r) (dg r (iB r (il r q) (sa (n,[]) 0)) (iB r x (ik 0)))=iB r (il r q) n.toNat;rw[ac1,show iB r x (ik 0)=cH r by simp[ik,iB],mul_one hr hp,zero_add hr hp]
 |m+1,(n,es),hg,hm=>by have c:es.length≠0:=(by simp only at hm;omega);have b:es.length - 1=m:=(by simp only at hm;omega);obtain⟨h,f⟩:=M9 (g:=(n,es)) hg c;obtain⟨i,j⟩:=Ky (g:=(n,es)) hg c;have d:=OQ (r:=r) (x:=x) (q:=q) hr hx a;rw[zv,ak (by simpa using c),<-Vn hr hx a m _ h (by rw[f];exact b),<-Vn hr hx a m _ i (by rw[j];exact b),Kv hr hx a,Kv hr hx a,Kv hr hx a, zbU,show 2^m*2=2^m+2^m by omega,zbF,DR hr (d _),UB];congr 1;refine qZ _ fun s hs=>?_;have hs:=By.1 hs;unfold BX;rw[ao9 hg c (by rw[b];exact hs)];rw[mul_comm hr hx (qn hr (d _) _),<-N9 hr (d _) hx];refine qZ _ fun s hs=>?_;have hs:=By.1 hs;have e:=ao8 hg c (s:=s) (by rw[b];exact hs);rw[b] at e;unfold BX;rw[e,ajK m s hs,iB,mul_assoc hr (qz hr (uv hr (by omega)) _) (qz hr hx _) hx]
theorem aoZ {g:Int×List (Int×Int)} (h:kG r g q x=true):vl r g q x=rR r g q x:=by obtain⟨a,d,b,c,h5⟩:=Jc h;unfold vl rR;rw[ah h,ah h,Vn a b c _ g d rfl]
theorem aoY {g:Int×List (Int×Int)} (hr:bc r=true) (f:fq g.1 g.2=true) (b:1<=q/\q<=4):vl r g q (d9 r)=il r (q^g.1.toNat):=by have c:=rh hr;have hs:kG r g q (d9 r)=true:=(by simp[kG,B1,hr,f,c,b.1,b.2]);have h:=OQ (r:=r) (x:=d9 r) (q:=q) hr c b.1 g;obtain⟨n,es⟩:=g;have hp:=qz hr (uv hr (m:=q) (by omega)) n.toNat;unfold vl;rw[ah hs,Kv hr c b.1,Oa hr h (a:=0) zaK (By.2 (zbz _))];unfold BX;rw[ac1,show iB r (d9 r) (ik 0)=cH r by simp[ik,iB],mul_one hr hp];obtain⟨e,c2⟩:=acY hr b.1 n.toNat;show _=il r (q^n.toNat);rw[e,il,ak (by omega)];intro s _ d;have sn:=ayR d;unfold BX;rw[show ik s=(ik s - 1)+1 by omega,iB,mul_zero hr (qz hr c _),mul_zero hr (qz hr (uv hr (by omega)) _)]
end
abbrev sZ:List Ty:=zan 100 (.int .i64)
abbrev oT:=Ty.DL sZ
def yU:(n:Nat)->Ty.DL (zan n (.int .i64))->U
 |0,_=>[]
 |1,x=>[x]
 |n+2,x=>x.1::yU (n+1) x.2
theorem P9:∀(n:Nat) (x:Ty.DL (zan n (.int .i64))),(yU n x).length=n
 |0,_=>rfl
 |1,_=>rfl
 |n+2,x=>congrArg (·+1) (P9 (n+1) x.2)
def Jq (v:Int):TD:=⟨.int .i64,v⟩
theorem VB:∀(n:Nat) (x:Ty.DL (zan n (.int .i64))),Ty.gU (zan n (.int .i64)) x=(yU n x).map Jq
 |0,_=>rfl
 |1,_=>rfl
 |n+2,x=>congrArg (zce (Jq x.1)) (VB (n+1) x.2)
theorem aoJ (v:Int):Ty.cast (.int .i64) (.int .i64) v=some v:=rfl
theorem avL {t:Ty} {ts:List Ty} {c:TD} {cs:List TD} {y:t.D} {z:Ty.DL ts} (a:Ty.cast c.1 t c.2=some y) (b:pt ts cs=some z):pt (t::ts) (c::cs)=some (pN t ts y z):=by simp only[pt,a,b]
theorem ahh:∀(n:Nat) (l:U),l.length=n->∃y,pt (zan n (.int .i64)) (l.map Jq)=some y/\yU n y=l
 |0,[],_=>⟨(),rfl,rfl⟩
 |1,[v],_=>⟨v,rfl,rfl⟩
 |n+2,v::w::l,h=>by obtain⟨y,a,b⟩:=ahh (n+1) (w::l) (Nat.succ.inj h);exact⟨(v,y),avL (t:=.int .i64) (ts:=zan (n+1) (.int .i64)) (c:=Jq v) (aoJ v) a,congrArg (zce v) b⟩
 |0,_::_,h=>by cases h
 |1,[],h=>by cases h
 |1,_::_::_,h=>by cases h
 |n+2,[],h=>by cases h
 |n+2,[_],h=>by cases h
def gA (a:oT) (i:Nat):Int:=(yU 100 a).getD i 0
theorem arw (a:oT) {i:Nat} (h:i<100):yx sZ a i=some (gA a i):=by have hl:i<(yU 100 a).length:=(by rw[P9];exact h);have e:(Ty.gU sZ a)[i]? =some (Jq (gA a i)):=(by rw[VB 100 a,zad,gA,co,so hl];rfl);unfold yx;rw[e];rfl
theorem aAh (a:oT) {i:Nat} (v:Int) (h:i<100):∃b,Dg sZ a i v=some b/\∀j,gA b j=if j=i then v else gA a j:=by have hl:((yU 100 a).set i v).length=100:=(by rw[zaO,P9]);obtain⟨y,c,d⟩:=ahh 100 _ hl;refine⟨y,?_,fun j=>?_⟩;have e:(Ty.gU sZ a).set i ⟨.int .i64,v⟩=((yU 100 a).set i v).map Jq:=(by rw[VB 100 a,List.map_set];rfl);unfold Dg;rw[e,decide_eq_true (show i<sZ.length by rw[za5];exact h)];exact c;have hi:i<(yU 100 a).length:=(by rw[P9];exact h);simp only[gA,d,co,zbq];by_cases hj:j=i;subst hj;rw[ah rfl,ah hi,ah rfl];rfl;rw[ak (fun e=>hj e.symm),ak hj]
theorem agd:∀n:Nat,yU n (Bt n)=zan n 0
 |0=>rfl
 |1=>rfl
 |n+2=>congrArg (zce 0) (agd (n+1))
theorem ars (i:Nat):gA (Bt 100) i=0:=by rw[gA,agd,co,zaW];split<;>rfl
def Te (NN:Nat):((Int×(Int×Int))×(U×U))->(Option U):=
 (fun((i0,i1,i2),l3,l4)=>
 (xW ((i0,i1,i2),l3)).ab (fun b5=>
 aD (dz b5)
 (some (([]:U)))
 ((xW ((i0,i1,i2),l4)).ab (fun b6=>
 aD (dz b6)
 (some (([]:U)))
 ((j7 l3).ab (fun l7=>
 (bW l7 0).ab (fun i8=>
 (cg l7 0 (ae l7)).ab (fun l9=>
 aq l7 (
 (mU (aM 0,aM (aw 0 (ae l7)),(i0,i1,i2),l7,l4)).ab (fun cf=>
 (cB cf (ae l7)).ab (fun eC=>
 some eC)))))))))))
def JB:=Te aP
theorem an2 {r1 r2 r3:Int} {x y:U} (hr:bc (r1,r2,r3)=true) (hx:bm (r1,r2,r3) x=true) (hy:bm (r1,r2,r3) y=true): JB ((r1,r2,r3),x,y)=some (cA (r1,r2,r3) x y):=by have hw:=ku hr;have a:=fJ hx;have ly:=fJ hy;have d:=fJ (tc hr hx hy);have hs:fG x 0 (az (r1,r2,r3))=x:=(by unfold fG;rw[zbZ,zaM (by omega)]);have hp:iC x 0 (cA (r1,r2,r3) x y)=cA (r1,r2,r3) x y:=(by unfold iC;rw[zbH,zaX,zaY (by omega),zaj]);have c:bW x 0=some (x.getD 0 0):=(by unfold bW;rw[co,so (by omega)];rfl);have ha:=UK (lo:=0) hr (xs:=x) (y:=y) (by omega) (by rw[hs];exact hx) hy;rw[hs,hp] at ha;have hl:ae x=az (r1,r2,r3):=a;simp only[JB,Te,aq];rw[show xW ((r1,r2,r3),x)=some true from(ah (by omega)).trans (by rw[hr,hx];rfl),show xW ((r1,r2,r3),y)=some true from(ah (by omega)).trans (by rw[hr,hy];rfl),show j7 x=some x from ah (by omega)];simp only[bz];rw[aZ (b:=dz true) rfl,aZ (b:=dz true) rfl];simp only[c,bz,fP,bR];rw[hl,show mU (aM 0,aM (aw 0 (az (r1,r2,r3))),(r1,r2,r3),x,y)=some (cA (r1,r2,r3) x y) from ha];simp only[bz];rw[show az (r1,r2,r3)=ae (cA (r1,r2,r3) x y) from d.symm,gT];rfl
theorem agp {X ρ:Type} {o:Option (X⊕ρ)} {k:X->Option ρ} {P:ρ->Prop} (Q:X⊕ρ->Prop) (a:∃r,o=some r/\Q r) (c:∀r,Q r->∃z,cN (some r) k=some z/\P z):∃z,cN o k=some z/\P z:=by obtain⟨r,e,b⟩:=a;rw[e];exact c r b
def zl (q:Int) (t:T3):Prop:=t.1.length=t.2.1.length/\t.1.length<=12/\(∀l∈t.1,0<=l/\l<100)/\∀d∈t.2.1,d=q
def zk (q:Int) (a:oT):Prop:=∀j,gA a j=0\/gA a j=q
theorem axv {q:Int} {a:oT} (h:zk q a) {i:Nat} (hi:i<100):∃b,Dg sZ a i q=some b/\zk q b:=by obtain⟨b,c,d⟩:=aAh a q hi;refine⟨b,c,fun j=>?_⟩;rw[d];split;exact .inr rfl;exact h j
def TO (NN:Nat):(List (U×(U×U)))->(Option (oT×Bool)):=
 (fun l0=>
 cN (cL NN (fun((l1,i2,i3),a4,a5)=>
 aD (cI i3 i2)
 (cN ((cV l1 i3).ab (fun(l6,l7,l8)=>
 cL NN (fun((l9,gd,fN,de,gm,ft),UE,GH,dk,eG,fE)=>
 aD (cI ft gm)
 ((cV de ft).ab (fun eF=>
 (cM eF 100).ab (fun AD=>
 (yx sZ GH (aw 0 AD)).ab (fun kO=>
 aD (jA kO (0:Int))
 ((cM eF 100).ab (fun Mf=>
 (yx sZ GH (aw 0 Mf)).ab (fun fO=>
 (cV eG ft).ab (fun mI=>
 aD (jA fO mI)
 (some (IT (IT (IT (IT (GH,false))))))
 ((cV eG ft).ab (fun jv=>
 (cM eF 100).ab (fun Yw=>
 (Dg sZ GH (aw 0 Yw) jv).ab (fun a28=>
 some (AN ((l9,gd,fN,de,gm,bC .i64 ft 1),UE,a28,dk,eG,fE))))))))))
 ((cV eG ft).ab (fun qK=>
 (cM eF 100).ab (fun CL=>
 (Dg sZ GH (aw 0 CL) qK).ab (fun a31=>
 some (AN ((l9,gd,fN,de,gm,bC .i64 ft 1),UE,a31,dk,eG,fE))))))))))
 (some (IT (AN ((fN,l9,gd),UE,GH)))))
 ((l1,i2,i3,l6,aM (ae l6),(0:Int)),a4,a5,l6,l7,l8)))
 (fun((lp,pj,kf),a35,a36)=>
 some (AN ((pj,kf,bC .i64 lp 1),a35,a36))))
 (some (IT (AN (a4,a5)))))
 ((l0,aM (ae l0),(0:Int)),Bt 100,Bt 100))
 (fun(UG,a38)=>
 some (a38,true)))
def Gq:=TO aP
theorem adB {q:Int} {ts:List T3} (h:∀t∈ts,zl q t) (hl:ts.length<=1000):∃z,Gq ts=some z/\z.2=true:=by
 simp only[Gq,TO];refine agp (fun r=>∃a b,r=AN (a,b)) (Fk ts.length (fun i x=>∃a b,x=((ts,aM (ae ts),(i:Int)),a,b)/\zk q b) _ ?s1 ?s2 ?s0 eZ) ?s3
 case s0=>exact⟨_,_,rfl,fun j=>.inl (ars j)⟩
 case s2=>
  rintro x ⟨a,b,rfl,hb⟩;exact⟨AN (a,b),by dsimp only;rw[aZ (d7 (by rw[nl];omega))],a,b,rfl⟩
 case s3=>
  rintro r ⟨a,b,rfl⟩;exact⟨_,rfl,rfl⟩
 case s1=>
  rintro i x hi ⟨a,b,rfl,hb⟩;dsimp only
  obtain⟨t,ht⟩:∃t,ts[i]? =some t:=⟨_,so hi⟩;obtain⟨L,D,X⟩:=t;obtain⟨h1,h2,h3,h4⟩:=h _ (BY ht);dsimp only at h1 h2 h3 h4;rw[bL (eD (by rw[nl];omega)),fC,ht];simp only[bz]
  suffices hs:∃z,cN (cL aP _ _) _=some z/\∃x',z=AN x'/\∃a b,x'=((ts,aM (ae ts),((i+1:Nat):Int)),a,b)/\zk q b by
   obtain⟨z,e,x',rfl,r⟩:=hs;exact⟨x',e,r⟩
  refine agp (fun r=>∃b',r=AN (((i:Int),ts,aM (ae ts)),a,b')/\zk q b') (Fk L.length (fun n x=>∃b',x=((ts,aM (ae ts),(i:Int),L,aM (ae L),(n:Int)),a,b',L,D,X)/\zk q b') _ ?t1 ?t2 ?t0 eZ) ?t3
  case t0=>exact⟨b,rfl,hb⟩
  case t2=>
   rintro x ⟨b',rfl,bn⟩;exact⟨_,by dsimp only;rw[aZ (d7 (by rw[nl];omega))],b',rfl,bn⟩
  case t3=>
   rintro r ⟨b',rfl,bn⟩;refine⟨_,rfl,_,rfl,a,b',?_,bn⟩;dsimp only
   rw[ez];rfl
  case t1=>
   rintro n x hn ⟨b',rfl,bn⟩;dsimp only
   obtain⟨l,fM⟩:∃l,L[n]? =some l:=⟨_,so hn⟩;have hnD:n<D.length:=by omega
   have hd:D[n]? =some q:=by rw[so hnD,h4 _ (za6 hnD)]
   obtain⟨l0,l1⟩:=h3 l (BY fM);obtain⟨m,rfl⟩:∃m:Nat,l=(m:Int):=⟨l.toNat,by omega⟩;have hm:m<100:=by omega
   obtain⟨c,hc,LI⟩:=axv bn hm;have e1:aw 0 m=m:=zau m;have g1:yx sZ b' m=some (gA b' m):=arw b' hm;rw[bL (eD (by rw[nl];omega)),fC,fM,fC,hd];simp only[bz,kI hm,e1,g1,hc];rw[ez];refine⟨((ts,aM (ae ts),(i:Int),L,aM (ae L),((n+1:Nat):Int)),a,c,L,D,X),?_,c,rfl,LI⟩;rcases bn m with e|e
   ·rw[e,aZ (b:=jA 0 0) rfl];rfl
   ·rw[e];have e2:jA q q=false:=sJ rfl;by_cases hq:q=0
    ·rw[aZ (sJ hq)];rfl
    ·rw[bL (zg hq),aZ e2];rfl
def TH (NN:Nat):(oT×U)->(Option (U×(U×U))):=
 (fun(a0,l1)=>
 (j7 l1).ab (fun l2=>
 (ki (aM (ae l1)) (aM (ae l1)) 8).ab (fun k3=>
 cN ((bh 0 0 (ae (([]:U)))).ab (fun _=>
 (bh 0 0 (ae (([]:U)))).ab (fun _=>
 (bh 0 0 (ae (([]:U)))).ab (fun _=>
 aq l2 (
 (bh 0 k3 (ae (cj k3 (0:Int)))).ab (fun _=>
 (bh 0 0 (ae (([]:U)))).ab (fun _=>
 cL NN (fun((l4,i5,i6),a7,l8,l9,cf,eC,de,dw)=>
 aD (cI i6 i5)
 ((cV l4 i6).ab (fun ft=>
 (cM ft 100).ab (fun nV=>
 (yx sZ a7 (aw 0 nV)).ab (fun fy=>
 (cM i6 (ae de)).ab (fun Ys=>
 (bW de (aw 0 Ys)).ab (fun ii=>
 aq l8 (
 aq l9 (
 aq cf (
 aq eC (
 (bh 0 (ae de) (ae (be de (aw 0 Ys) fy))).ab (fun _=>
 aq dw (
 some (AN ((l4,i5,bC .i64 i6 1),a7,l8,l9,cf,eC,be de (aw 0 Ys) fy,dw))))))))))))))
 ((aq l8 (
 aq l9 (
 aq cf (
 aq eC (
 aq de (
 aq dw (
 some (AN (l8,l9,cf,eC,de,dw))))))))).ab (fun fE=>
 some (IT fE))))
 ((l1,aM (ae l1),(0:Int)),a0,([]:U),([]:U),([]:U),l2,cj k3 (0:Int),([]:U)))))))))
 (fun(iu,eU,dY,gp,h9,gR)=>
 (cB gp (ae gp)).ab (fun iv=>
 (cB h9 (ae h9)).ab (fun ja=>
 (cB gR (ae gR)).ab (fun gX=>
 some (iv,ja,gX))))))))
def JK:=TH aP
theorem aoo (a:oT):JK (a,[])=some ([],[],[]):=by simp only[JK,TH,aq];rw[show j7 []=some [] from rfl];simp only[bz];rw[show ki (aM (ae ([]:U))) (aM (ae ([]:U))) 8=some 0 from rfl];simp only[bz];rw[show bh 0 0 (ae ([]:U))=some () from rfl,show bh 0 (ae ([]:U)) (ae ([]:U))=some () from rfl,show bh 0 0 (ae (cj 0 (0:Int)))=some () from rfl];simp only[bz];rw[gw (fun i=>(([],aM (ae ([]:U)),(i:Int)),a,([]:U),([]:U),([]:U),([]:U),cj 0 (0:Int),([]:U))) 0 (r:=AN (([]:U),([]:U),([]:U),([]:U),([]:U),([]:U))) ?a1 ?a2 ?a3 eZ];(case a1=>intro i hi;omega);(case a2=>rfl);(case a3=>rfl);rfl
def Tq (NN:Nat):(Int×(Int×(Int×((List (U×(U×U)))×U))))->(Option Bool):=
 (fun(i0,i1,i2,l3,l4)=>
 (qW (i0,i1,i2)).ab (fun b5=>
 aD (dz b5)
 (some false)
 (aD (cI (12:Int) (aM (ae l3)))
 (some false)
 (aD (cI (12:Int) (aM (ae l4)))
 (some false)
 (cN (cL NN (fun((l6,i7,i8),i9,gd,fN,de,dw)=>
 aD (cI i8 i7)
 ((cV l6 i8).ab (fun(dj,eQ,dn)=>
 (qX ((i9,gd,fN),dj,eQ,dn)).ab (fun zL=>
 aD (dz zL)
 (some (IT (IT false)))
 (some (AN ((l6,i7,bC .i64 i8 1),i9,gd,fN,de,dw))))))
 (some (IT (AN (i9,gd,fN,de,dw)))))
 ((l3,aM (ae l3),(0:Int)),i0,i1,i2,l3,l4))
 (fun(ii,fZ,eF,eU,dY)=>
 (Gq eU).ab (fun(a23,UX)=>
 aD (dz UX)
 (some false)
 (cN (cL NN (fun((gR,jv,iS),(pW,qK,lm,kE,uU),UF)=>
 aD (cI iS jv)
 ((cV gR iS).ab (fun kf=>
 aD (cI kf (0:Int))
 (some (IT (IT false)))
 (aD (cI (99:Int) kf)
 (some (IT (IT false)))
 ((cM kf 100).ab (fun E1=>
 (yx sZ UF (aw 0 E1)).ab (fun sq=>
 aD (bq sq (0:Int))
 (some (IT (IT false)))
 (some (AN ((gR,jv,bC .i64 iS 1),(pW,qK,lm,kE,uU),UF)))))))))
 (some (IT (AN ((pW,qK,lm,kE,uU),UF)))))
 ((dY,aM (ae dY),(0:Int)),(ii,fZ,eF,eU,dY),a23))
 (fun((EP,tu,tv,qN,jm),a42)=>
 (JK (a42,jm)).ab (fun(jb,mK,vR)=>
 (cg jb 0 (ae jb)).ab (fun CQ=>
 (cg mK 0 (ae mK)).ab (fun Mp=>
 (cg vR 0 (ae vR)).ab (fun Ff=>
 (zB (CQ,Mp,Ff)).ab (fun EQ=>
 some (jA EQ ((-1:Int)))))))))))))))))
def xX:=Tq aP
theorem Ix {q r1 r2 r3:Int} {ts:List T3} (hr:bc (r1,r2,r3)=true) (h:∀t∈ts,zl q t) (hl:ts.length<=1000) (j:∀t∈ts,gC (r1,r2,r3) t=true) (hb:∀t∈ts,t.2.2.length<=1048576): xX (r1,r2,r3,ts,[])=some (decide (ts.length<=12)):=by simp only[xX,Tq];rw[show qW (r1,r2,r3)=some true from congrArg some hr];simp only[bz];rw[aZ (b:=dz true) rfl];by_cases d:ts.length<=12;(case neg=>rw[bL (eD (by rw[nl];omega)),decide_eq_false d]);rw[aZ (d7 (by rw[nl];omega)),aZ (b:=cI 12 (aM (ae ([]:U)))) rfl,decide_eq_true d];rw[gw (fun i=>((ts,aM (ae ts),(i:Int)),r1,r2,r3,ts,([]:U))) ts.length (r:=AN (r1,r2,r3,ts,([]:U))) ?a1 ?a2 ?a3 eZ];(case a1=>intro i hi;obtain⟨t,e⟩:∃t,ts[i]? =some t:=⟨_,so hi⟩;have hm:=BY e;obtain⟨h1,h2,h3,h4⟩:=h _ hm;have hx:=hb _ hm;have g:qX ((r1,r2,r3),t)=some true:=(ah ⟨by dsimp only;omega,by dsimp only;omega,hx⟩).trans (congrArg some (j _ hm));dsimp only;rw[bL (eD (by rw[nl];omega)),fC,e];simp only[bz];rw[show((r1,r2,r3),t.1,t.2.1,t.2.2)=((r1,r2,r3),t) from rfl,g];simp only[bz];rw[aZ (b:=dz true) rfl,ez];rfl);(case a2=>dsimp only;rw[aZ (d7 (by rw[nl];omega))]);(case a3=>rfl);obtain⟨z,f,c⟩:=adB h hl;obtain⟨a,b⟩:=z;dsimp only at c;subst c;simp only[fU,f,bz];rw[aZ (b:=dz true) rfl];rw[gw (fun i=>((([]:U),aM (ae ([]:U)),(i:Int)),(r1,r2,r3,ts,([]:U)),a)) 0 (r:=AN ((r1,r2,r3,ts,([]:U)),a)) ?b1 ?b2 ?b3 eZ];(case b1=>intro i hi;omega);(case b2=>rfl);(case b3=>rfl);simp only[fU,aoo,bz];rfl

theorem QN {r:Rg} {L D A:U} (hr:bc r=true) (hx:mz L D=true) (c:fF D=(aU D:Int)) (hp:aU D<=4096) (d:A.length=aU D*az r) (a:∀x∈A,pY (cr r) x=true):gC r (L,D,A)=true:=by
 have b:=ku hr;have e:iF L D=(aU D:Int):=by rw[<-c];exact ah ⟨hx,by omega⟩
 unfold gC;rw[GB,GB,GB,decide_eq_true_eq,decide_eq_true_eq];exact⟨hr,by show 0<=iF L D;omega,by show(A.length:Int)=iF L D*kt r;rw[e,b.1,d];push_cast;rfl,zaA.2 a⟩
theorem OB {p:Int->Prop} {g:Nat->U}:∀n,(∀i,i<n->∀x∈g i,p x)->∀x∈dR g n,p x
 |0,_,x,hx=>by cases hx
 |n+1,h,x,hx=>by rcases zao.1 hx with q|q;exact OB n (fun i hi=>h i (by omega)) x q;exact h n (by omega) x q
theorem O5 {r:Rg} {x:U} (h:bm r x=true):∀v∈x,pY (cr r) v=true:=by unfold bm at h;rw[GB] at h;exact zaA.1 h.2
def oZ (r:Rg) (q:Nat) (s:U) (x n:Nat):U:=if n/q=n%q/\n/q<x then s else cH r
def ld (r:Rg) (q:Nat) (s:U) (e:Int×Int):T3:=if e.1=e.2 then([e.1],[(q:Int)],dR (fun _=>s) q) else([e.1,e.2],[(q:Int),(q:Int)],dR (oZ r q s q) (q*q))
def Ip (r:Rg) (q:Nat) (i:Int):T3:=([i],[(q:Int)],dR (fun _=>cH r) q)
def tH (es:List (Int×Int)) (i:Nat):Bool:=es.all fun e=>decide (e.1≠(i:Int)/\e.2≠(i:Int))
def qa (r:Rg) (q:Nat) (es:List (Int×Int)):Nat->List T3
 |0=>[]
 |n+1=>if tH es n=true then qa r q es n++[Ip r q (n:Int)] else qa r q es n
def qe (r:Rg) (n:Int) (es:List (Int×Int)) (q:Nat) (s:U):List T3:=es.map (ld r q s)++qa r q es n.toNat
theorem Fy (q:Nat):aU [(q:Int)]=q:=by simp[aU]
theorem M4 (q:Nat):aU [(q:Int),(q:Int)]=q*q:=by simp[aU]
theorem adA {q:Nat} (h1:1<=q) (h4:q<=4):Hl [(q:Int)]:=⟨by simp,by intro v a;simp at a;omega,by rw[Fy];omega⟩
theorem apI {q:Nat} (h1:1<=q) (a:q<=4):Hl [(q:Int),(q:Int)]:=⟨by simp,by intro v b;simp at b;omega,by rw[M4];have:=IS a a;omega⟩
theorem aom {q:Nat} {a:Int} (h1:1<=q) (h4:q<=4) (ha:0<=a/\a<=99):mz [a] [(q:Int)]=true:=by
 unfold mz;rw[GB,GB,decide_eq_true_eq,decide_eq_true_eq,decide_eq_true_eq];refine⟨by simp,rfl,fun j hj=>?_⟩;have:j=0:=by simp at hj;omega
 subst this;exact⟨ha,⟨by show 1<=(q:Int);omega,by show(q:Int)<=8;omega⟩,by simp⟩
theorem aon {q:Nat} {a b:Int} (h1:1<=q) (h4:q<=4) (ha:0<=a/\a<=99) (hb:0<=b/\b<=99) (c:a≠b):mz [a,b] [(q:Int),(q:Int)]=true:=by unfold mz;rw[GB,GB,decide_eq_true_eq,decide_eq_true_eq,decide_eq_true_eq];refine⟨by simp,rfl,fun j hj=>?_⟩;have:j=0\/j=1:=(by simp at hj;omega);rcases this with rfl|rfl;exact⟨ha,⟨by show 1<=(q:Int);omega,by show(q:Int)<=8;omega⟩,by simp⟩;exact⟨hb,⟨by show 1<=(q:Int);omega,by show(q:Int)<=8;omega⟩,by show b∉[a];simp;exact fun e=>c e.symm⟩
theorem KH {r:Rg} {q:Nat} {s:U} (hr:bc r=true) (hs:bm r s=true) (x n:Nat):bm r (oZ r q s x n)=true:=by unfold oZ;split;exact hs;exact kA hr
def Hy (r:Rg) (q:Nat) (t:T3):Prop:=zl (q:Int) t/\gC r t=true/\t.2.2.length<=1048576
theorem afw {r:Rg} {q:Nat} {a:Int} {g:Nat->U} (hr:bc r=true) (e:1<=q) (c:q<=4) (ha:0<=a/\a<=99) (b:∀i,bm r (g i)=true):Hy r q ([a],[(q:Int)],dR g q):=by have hl:(dR g q).length=q*az r:=zO fun i _=>fJ (b i);have f:=ku hr;have hm:=IS c f.2.2;refine⟨⟨rfl,by simp,?_,?_⟩,QN hr (aom e c ha) (by rw[Fy];show(q:Int)*1=q;omega) (by rw[Fy];omega) (by rw[Fy,hl]) (OB _ fun i _=>O5 (b i)),by dsimp only;rw[hl];omega⟩;intro l hl;simp at hl;omega;intro d hd;simp at hd;exact hd
theorem arA {r:Rg} {q:Nat} {a b:Int} {g:Nat->U} (hr:bc r=true) (k:1<=q) (c:q<=4) (ha:0<=a/\a<=99) (hb:0<=b/\b<=99) (j:a≠b) (e:∀i,bm r (g i)=true):Hy r q ([a,b],[(q:Int),(q:Int)],dR g (q*q)):=by have hl:(dR g (q*q)).length=q*q*az r:=zO fun i _=>fJ (e i);have f:=ku hr;have h:=IS c c;have hm:=IS h f.2.2;refine⟨⟨rfl,by simp,?_,?_⟩,QN hr (aon k c ha hb j) (by rw[M4];show(q:Int)*((q:Int)*1)=_;push_cast;rw[Int.mul_one]) (by rw[M4];omega) (by rw[M4,hl]) (OB _ fun i _=>O5 (e i)),by dsimp only;rw[hl];omega⟩;intro l hl;simp at hl;omega;intro d hd;simp at hd;exact hd
theorem apU {r:Rg} {q:Nat} {s:U} {e:Int×Int} (hr:bc r=true) (hs:bm r s=true) (a:1<=q) (b:q<=4) (ha:0<=e.1/\e.1<=99) (hb:0<=e.2/\e.2<=99):Hy r q (ld r q s e):=by unfold ld;split;exact afw hr a b ha fun _=>hs;rename_i c;exact arA hr a b ha hb c fun i=>KH hr hs q i
theorem QD {r:Rg} {q:Nat} {es:List (Int×Int)} (hr:bc r=true) (b:1<=q) (c:q<=4):∀n,n<=10->(qa r q es n).length<=n/\∀t∈qa r q es n,Hy r q t
 |0,_=>⟨zae _,fun t a=>by cases a⟩
 |n+1,hn=>by obtain⟨i1,i2⟩:=QD (es:=es) hr b c n (by omega);unfold qa;split;refine⟨by rw[AT];exact zbD i1 1,fun t a=>?_⟩;rcases zao.1 a with q|q;exact i2 t q;rw[zai] at q;subst q;exact afw hr b c ⟨by omega,by omega⟩ fun _=>kA hr;exact⟨by omega,i2⟩
theorem amC {r:Rg} {n:Int} {q:Nat} {es:List (Int×Int)} {s:U} (hr:bc r=true) (a:fq n es=true) (hs:bm r s=true) (c:1<=q) (b:q<=4):(qe r n es q s).length<=20/\∀t∈qe r n es q s,Hy r q t:=by unfold fq at a;rw[GB,GB,decide_eq_true_eq,decide_eq_true_eq] at a;obtain⟨⟨g1,g2⟩,f⟩:=a;obtain⟨i1,i2⟩:=QD (es:=es) (q:=q) hr c b n.toNat (by omega);unfold qe;refine⟨by rw[AT,AI];omega,fun t g=>?_⟩;rcases zao.1 g with p|p;obtain⟨e,d,rfl⟩:=If.1 p;have:=of_decide_eq_true (zaA.1 f e d);exact apU hr hs c b ⟨this.1.1,by omega⟩ ⟨this.2.1,by omega⟩;exact i2 t p
theorem apA {r:Rg} {q:Nat} {s:U} {x:Nat} (hr:bc r=true) (hs:bm r s=true) (hx:x<q):iC (dR (oZ r q s x) (q*q)) ((x*q+x)*az r) s=dR (oZ r q s (x+1)) (q*q):=by have hm:=Pe q (show x+1<=q from hx);rw[zab,zag] at hm;rw[ZB (fJ hs) (fun i _=>fJ (KH hr hs x i)) (show x*q+x<q*q by omega)];refine Kr fun n hn=>?_;have hd:(x*q+x)/q=x:=(by rw[zaB,zbW (by omega),zaS hx,zbk]);have f:(x*q+x)%q=x:=(by rw[zaB,zbX,zaT hx]);have a:=zbY n q;unfold oZ;by_cases e:n=x*q+x;subst e;rw[ah rfl,hd,f,ah ⟨rfl,by omega⟩];rw[ak e];by_cases c:n/q=n%q/\n/q<x;rw[ah c,ah ⟨c.1,by omega⟩];rw[ak c,ak];rintro⟨b,c2⟩;by_cases d:n/q<x;exact c ⟨b,d⟩;have g:n/q=x:=(by omega);rw[<-b,g,zaB] at a;omega
theorem apz (r:Rg) (q:Nat) (s:U) (n:Nat):dR (oZ r q s 0) n=dR (fun _=>cH r) n:=Kr fun i _=>ak (by omega)

def aiV:(Int×Int×Int×List T3×U)×Bool:=((0,0,0,[],[]),false)
def aaG (r:Rg) (g:Int×List (Int×Int)) (q:Int) (v:U):(Int×Int×Int×List T3×U)×Bool:=
 if kG r g q v=true then(if(qe r g.1 g.2 q.toNat (cA r (cH r) v)).length<=12 then((r.1,r.2.1,r.2.2,qe r g.1 g.2 q.toNat (cA r (cH r) v),[]),true) else aiV) else aiV
theorem aAC {r:Rg} {g:Int×List (Int×Int)} {q:Int} {v:U} (h:kG r g q v=true):bc r=true/\fq g.1 g.2=true/\bm r v=true/\1<=q/\q<=4:=by unfold kG B1 at h;rw[GB,GB,GB,decide_eq_true_eq] at h;exact⟨h.1.1,h.1.2.1,h.1.2.2,h.2⟩
def lH (n:Nat) (es:List (Int×Int)):List Bool:=(zaa n).map fun i=> !(tH es i)
theorem Bl (n:Nat) (es:List (Int×Int)):(lH n es).length=n:=by unfold lH;rw[AI,zbp]
theorem NK {n:Nat} {es:List (Int×Int)} {i:Nat} (h:i<n):(lH n es)[i]? =some (!(tH es i)):=by unfold lH;rw[zad,zbd h];rfl
theorem aBc (n:Nat):lH n []=cj n false:=by refine zaF fun i=>?_;by_cases h:i<n;rw[NK h];unfold cj;rw[zaW,ah h];rfl;rw[Pd (by rw[Bl];omega),Pd (by unfold cj;rw[za5];omega)]
theorem avt (es:List (Int×Int)) (e:Int×Int) (i:Nat):tH (es++[e]) i=(tH es i&&decide (e.1≠(i:Int)/\e.2≠(i:Int))):=by unfold tH;rw[List.all_append];simp
theorem aBd {n a b:Nat} {es:List (Int×Int)} (ha:a<n) (hb:b<n):be (be (lH n es) a true) b true=lH n (es++[((a:Int),(b:Int))]):=by refine zaF fun i=>?_;unfold be;by_cases h:i<n;rw[zbq,zbq,zaO,Bl,NK h,NK h,avt];by_cases c:b=i;subst c;rw[ah rfl,ah hb,decide_eq_false (by rintro⟨_,x⟩;exact x rfl),zb2];rfl;rw[ak c];by_cases d:a=i;subst d;rw[ah rfl,ah ha,decide_eq_false (by rintro⟨x,_⟩;exact x rfl),zb2];rfl;rw[ak d,decide_eq_true ⟨by dsimp only;omega,by dsimp only;omega⟩,Bool.and_true];rw[Pd (by rw[zaO,zaO,Bl];omega),Pd (by rw[Bl];omega)]
theorem VR {r1 r2 r3:Int} {L D s:U} (hL:L.length<=1048576) (a:Hl D) (hs:s.length<=6):xZ ((r1,r2,r3),L,D,s)=some (L,D,dR (fun _=>s) (aU D)):=(ah ⟨hL,a,hs⟩).trans (by rw[ZH])
theorem apl {xs u:U} {o w:Nat} (a:u.length=w) (h:o+w<=xs.length):ym xs o w (List.take w u)=some (iC xs o u):=by unfold ym iC;rw[ah h,zaM (l:=u) (Nat.le_of_eq a)]
def Tz (NN:Nat):((Int×(Int×Int))×((Int×(List (Int×Int)))×(Int×U)))->(Option ((Int×(Int×(Int×((List (U×(U×U)))×U))))×Bool)):=
 (fun((i0,i1,i2),(i3,l4),i5,l6)=>
 (x5 ((i0,i1,i2),(i3,l4),i5,l6)).ab (fun b7=>
 aD (dz b7)
 (some (((0:Int),(0:Int),(0:Int),([]:List (U×(U×U))),([]:U)),false))
 ((qY (i0,i1,i2)).ab (fun l8=>
 (cg l8 0 (ae l8)).ab (fun l9=>
 (JB ((i0,i1,i2),l9,l6)).ab (fun cf=>
 (ki i3 i3 1).ab (fun mJ=>
 cN (aq cf (
 (bh 0 mJ (ae (cj mJ false))).ab (fun _=>
 (bh 0 0 (ae (([]:List (U×(U×U)))))).ab (fun _=>
 (bh 0 0 (ae (([]:U)))).ab (fun _=>
 (bh 0 0 (ae (([]:List (U×(U×U)))))).ab (fun _=>
 (bh 0 0 (ae (([]:U)))).ab (fun _=>
 cL NN (fun((e9,dw,ft,jO),(fy,eP,ii),(fZ,eF,f0),(kO,iq,fO),gR,iv,ja,gX,iT,kQ)=>
 aD (cI jO ft)
 (cN ((cV dw jO).ab (fun(rA,lp)=>
 (cM rA (ae kQ)).ab (fun vO=>
 (bW kQ (aw 0 vO)).ab (fun b34=>
 (cM lp (ae kQ)).ab (fun E1=>
 (bW (be kQ (aw 0 vO) true) (aw 0 E1)).ab (fun b36=>
 aD (bq rA lp)
 ((cg ((rA::[])) 0 1).ab (fun jZ=>
 (cg ((e9::[])) 0 1).ab (fun nW=>
 (cg iT 0 (ae iT)).ab (fun tD=>
 (xZ ((fy,eP,ii),jZ,nW,tD)).ab (fun(qN,jm,p9)=>
 (cB qN (ae qN)).ab (fun jb=>
 (cB jm (ae jm)).ab (fun mK=>
 (cB p9 (ae p9)).ab (fun vR=>
 aq ja (
 (bh 0 1 (ae (((jb,mK,vR)::[])))).ab (fun _=>
 (lR (aw (ae ja) (ae (((jb,mK,vR)::[])))) 72).ab (fun _=>
 aq iT (
 (bh 0 (ae kQ) (ae (be (be kQ (aw 0 vO) true) (aw 0 E1) true))).ab (fun _=>
 aq gR (
 aq iv (
 (bh 0 (aw (ae ja) (ae (((jb,mK,vR)::[])))) (ae (d6 ja (((jb,mK,vR)::[]))))).ab (fun _=>
 aq gX (
 some (AN ((jO,e9,dw,ft),(fy,eP,ii),(fZ,eF,f0),(kO,iq,fO),gR,iv,d6 ja (((jb,mK,vR)::[])),gX,iT,be (be kQ (aw 0 vO) true) (aw 0 E1) true)))))))))))))))))))
 ((qY (fy,eP,ii)).ab (fun CQ=>
 (cg ((rA::(lp::[]))) 0 2).ab (fun Mp=>
 (cg ((e9::(e9::[]))) 0 2).ab (fun Ff=>
 (cg CQ 0 (ae CQ)).ab (fun xy=>
 (xZ ((fy,eP,ii),Mp,Ff,xy)).ab (fun(sx,rE,qO)=>
 cN (aq iT (
 (bh 0 (ae kQ) (ae (be (be kQ (aw 0 vO) true) (aw 0 E1) true))).ab (fun _=>
 aq gR (
 aq iv (
 aq ja (
 aq gX (
 aq sx (
 aq rE (
 aq qO (
 cL NN (fun((P0,P1,xA,CB,CC),(X8,CD,CE),(ER,vL,ES),(i64,Ay,i66),xC,Ie,Ig,CS,CT,uW,vS,Ih,Qy)=>
 aD (cI P1 P0)
 ((cg CT 0 (ae CT)).ab (fun YH=>
 (cg uW 0 (ae uW)).ab (fun YI=>
 aq vS (
 (zC ((X8,CD,CE),(YH,YI,vS),bC .i64 (gY .i64 P1 P0) P1)).ab (fun(i78,i79)=>
 (jg i78 i79 (ae vS)).ab (fun(k80,k81)=>
 (cg Ih 0 (ae Ih)).ab (fun uY=>
 (ym vS k80 k81 (List.take k81 uY)).ab (fun tF=>
 aq Ih (
 aq Qy (
 aq xC (
 aq Ie (
 aq Ig (
 aq CS (
 aq CT (
 aq uW (
 (bh 0 (ae vS) (ae tF)).ab (fun _=>
 some (AN ((P0,bC .i64 P1 1,xA,CB,CC),(X8,CD,CE),(ER,vL,ES),(i64,Ay,i66),xC,Ie,Ig,CS,CT,uW,tF,Ih,Qy)))))))))))))))))))
 ((aq Ih (
 aq Qy (
 aq xC (
 aq Ie (
 aq Ig (
 aq CS (
 aq CT (
 aq uW (
 aq vS (
 some (AN ((CC,P0,xA,CB),(X8,CD,CE),(ER,vL,ES),(i64,Ay,i66),xC,Ie,Ig,CS,CT,uW,vS,Ih,Qy)))))))))))).ab (fun uZ=>
 some (IT uZ))))
 ((e9,(0:Int),dw,ft,jO),(fy,eP,ii),(fZ,eF,f0),(kO,iq,fO),gR,iv,ja,gX,sx,rE,qO,iT,be (be kQ (aw 0 vO) true) (aw 0 E1) true)))))))))))
 (fun((i85,i86,zd,i88),(i89,i90,CF),(CG,CH,i94),(X9,Ya,Yb),Mq,Fh,yX,Mj,Mk,E2,E3,E4,uR)=>
 (cB Mk (ae Mk)).ab (fun CM=>
 (cB E2 (ae E2)).ab (fun E5=>
 (cB E3 (ae E3)).ab (fun E6=>
 aq yX (
 (bh 0 1 (ae (((CM,E5,E6)::[])))).ab (fun _=>
 (lR (aw (ae yX) (ae (((CM,E5,E6)::[])))) 72).ab (fun _=>
 aq E4 (
 aq uR (
 aq Mq (
 aq Fh (
 (bh 0 (aw (ae yX) (ae (((CM,E5,E6)::[])))) (ae (d6 yX (((CM,E5,E6)::[]))))).ab (fun _=>
 aq Mj (
 some (AN ((i85,i86,zd,i88),(i89,i90,CF),(CG,CH,i94),(X9,Ya,Yb),Mq,Fh,d6 yX (((CM,E5,E6)::[])),Mj,E4,uR)))))))))))))))))))))))))))
 (fun((XV,XW,E7,asH),(asI,asJ,asK),(asL,asM,asN),(asO,asP,af1),Qm,Qn,Qo,Ia,Ml,agx)=>
 aq Ml (
 aq agx (
 aq Qm (
 aq Qn (
 aq Qo (
 aq Ia (
 some (AN ((XW,E7,asH,bC .i64 XV 1),(asI,asJ,asK),(asL,asM,asN),(asO,asP,af1),Qm,Qn,Qo,Ia,Ml,agx))))))))))
 ((aq kQ (
 aq gR (
 aq iv (
 aq ja (
 aq gX (
 some (AN (e9,(fy,eP,ii),(fZ,eF,f0),(kO,iq,fO),gR,iv,ja,gX,kQ)))))))).ab (fun au1=>
 some (IT au1))))
 ((i5,l4,aM (ae l4),(0:Int)),(i0,i1,i2),((0:Int),(0:Int),(0:Int)),(i0,i1,i2),([]:List (U×(U×U))),([]:U),([]:List (U×(U×U))),([]:U),cf,cj mJ false))))))))
 (fun(XX,(Cy,CA,yQ),(XY,XZ,asT),(asU,asV,X0),Mm,Mn,Mo,vP,uS)=>
 cN (aq uS (
 aq Mm (
 aq Mn (
 aq Mo (
 aq vP (
 cL NN (fun((X3,X4,LV),(LW,LX,LY),(LZ,L0,L3),(L4,X5,X6),xx,CO,uT,yZ,CP)=>
 aD (cI LV X4)
 ((cM LV (ae CP)).ab (fun atr=>
 (bW CP (aw 0 atr)).ab (fun aoq=>
 aD (dz aoq)
 ((qY (LW,LX,LY)).ab (fun Qv=>
 (cg ((LV::[])) 0 1).ab (fun YF=>
 (cg ((X3::[])) 0 1).ab (fun au7=>
 (cg Qv 0 (ae Qv)).ab (fun au8=>
 (xZ ((LW,LX,LY),YF,au7,au8)).ab (fun(agD,agE,agF)=>
 (cB agD (ae agD)).ab (fun Ic=>
 (cB agE (ae agE)).ab (fun Fe=>
 (cB agF (ae agF)).ab (fun AH=>
 aq uT (
 (bh 0 1 (ae (((Ic,Fe,AH)::[])))).ab (fun _=>
 (lR (aw (ae uT) (ae (((Ic,Fe,AH)::[])))) 72).ab (fun _=>
 aq CP (
 aq xx (
 aq CO (
 (bh 0 (aw (ae uT) (ae (((Ic,Fe,AH)::[])))) (ae (d6 uT (((Ic,Fe,AH)::[]))))).ab (fun _=>
 aq yZ (
 some (AN ((X3,X4,bC .i64 LV 1),(LW,LX,LY),(LZ,L0,L3),(L4,X5,X6),xx,CO,d6 uT (((Ic,Fe,AH)::[])),yZ,CP)))))))))))))))))))
 (aq CP (
 aq xx (
 aq CO (
 aq uT (
 aq yZ (
 some (AN ((X3,X4,bC .i64 LV 1),(LW,LX,LY),(LZ,L0,L3),(L4,X5,X6),xx,CO,uT,yZ,CP)))))))))))
 ((aq xx (
 aq CO (
 aq uT (
 aq yZ (
 some (AN ((LZ,L0,L3),(L4,X5,X6),xx,CO,uT,yZ))))))).ab (fun YG=>
 some (IT YG))))
 ((XX,aM (ae uS),(0:Int)),(Cy,CA,yQ),(XY,XZ,asT),(asU,asV,X0),Mm,Mn,Mo,vP,uS)))))))
 (fun((aCd,aCe,aCf),(af2,af3,af4),agH,agI,Qw,Qx)=>
 (cg Qw 0 (ae Qw)).ab (fun avd=>
 (cg Qx 0 (ae Qx)).ab (fun ave=>
 (xX (af2,af3,af4,avd,ave)).ab (fun aot=>
 aD (dz aot)
 (some (((0:Int),(0:Int),(0:Int),([]:List (U×(U×U))),([]:U)),false))
 ((cB Qw (ae Qw)).ab (fun avf=>
 (cB Qx (ae Qx)).ab (fun avg=>
 some ((af2,af3,af4,avf,avg),true))))))))))))))))
def Gj:=Tz aP
theorem aAA {r1 r2 r3 m d:Int} {es:List (Int×Int)} {v:U} (M:v.length<=9223372036854775806):
    Gj ((r1,r2,r3),(m,es),d,v)=some (aaG (r1,r2,r3) (m,es) d v):=by
  have LC:gH=140737488355328:=rfl;simp only[Gj,Tz,aq];rw[show x5 ((r1,r2,r3),(m,es),d,v)=some (kG (r1,r2,r3) (m,es) d v) from ah M]
  try simp only[bz]
  unfold aaG;cases ry:kG (r1,r2,r3) (m,es) d v with
  |false=>rw[bL (b:=dz false) rfl,ak (by simp)];rfl
  |true=>
   obtain⟨hr,z,I,q1,q4⟩:=aAC ry;obtain⟨q,rfl⟩:∃q:Nat,d=(q:Int):=⟨d.toNat,by omega⟩;have j:1<=q:=by omega
   have c:q<=4:=by omega
   rw[aZ (b:=dz true) rfl,ah rfl,wt];dsimp only at z⊢;have y:=z;unfold fq at y;rw[GB,GB,decide_eq_true_eq,decide_eq_true_eq] at y;obtain⟨⟨hm,F⟩,J⟩:=y;obtain⟨n,rfl⟩:∃n:Nat,m=(n:Int):=⟨m.toNat,by omega⟩;have K:=ku hr;rw[show qY (r1,r2,r3)=some (cH (r1,r2,r3)) from ah hr]
   simp only[bz,fP];rw[an2 hr (kA hr) I,show ki (n:Int) (n:Int) 1=some n from zf (by omega)]
   obtain⟨s,H⟩:∃s,cA (r1,r2,r3) (cH (r1,r2,r3)) v=s:=⟨_,rfl⟩;have hs:bm (r1,r2,r3) s=true:=by rw[<-H];exact tc hr (kA hr) I
   have L:=fJ hs;rw[H];simp only[bz,bR];rw[show bh 0 n (ae (cj n false))=some () from lU (by unfold ae cj;rw[za5]),show bh 0 0 (ae ([]:List (U×U×U)))=some () from rfl,show bh 0 0 (ae ([]:U))=some () from rfl]
   simp only[bz];rw[gw (fun k=>(((q:Int),es,aM (ae es),(k:Int)),(r1,r2,r3),((0:Int),(0:Int),(0:Int)),(r1,r2,r3),([]:List T3),([]:U),(es.take k).map (ld (r1,r2,r3) q s),([]:U),s,lH n (es.take k))) es.length (r:=AN ((q:Int),(r1,r2,r3),((0:Int),(0:Int),(0:Int)),(r1,r2,r3),([]:List T3),([]:U),es.map (ld (r1,r2,r3) q s),([]:U),lH n es)) ?a1 ?a2 ?a3 eZ]
   case a2=>
     dsimp only
     rw[aZ (d7 (by rw[nl];omega)),zak]
     try simp only[bR,bz]
   case a3=>rw[zbH,aBc];rfl
   case a1=>
     intro k V;obtain⟨e,h⟩:∃e,es[k]? =some e:=⟨_,so V⟩;obtain⟨a,b⟩:=e;have A:=of_decide_eq_true (zaA.1 J _ (BY h));dsimp only at A;obtain⟨a,rfl⟩:∃R:Nat,a=(R:Int):=⟨a.toNat,by omega⟩;obtain⟨b,rfl⟩:∃b':Nat,b=(b':Int):=⟨b.toNat,by omega⟩;have ha:a<n:=by omega
     have hb:b<n:=by omega
     have E:es.take (k+1)=es.take k++[((a:Int),(b:Int))]:=by rw[zaQ,h];rfl
     have g:(es.take (k+1)).map (ld (r1,r2,r3) q s)=(es.take k).map (ld (r1,r2,r3) q s)++[ld (r1,r2,r3) q s ((a:Int),(b:Int))]:=by rw[E,zaE];rfl
     have C:be (be (lH n (es.take k)) a true) b true=lH n (es.take (k+1)):=by rw[aBd ha hb,E]
     have Y:aw 0 a=a:=zau a;have P:aw 0 b=b:=zau b;have f:ae (lH n (es.take k))=n:=Bl n _;have D:ae (lH n (es.take (k+1)))=n:=Bl n _;have O:bW (lH n (es.take k)) a=some (!(tH (es.take k) a)):=NK ha;obtain⟨G,gb⟩:∃G,bW (be (lH n (es.take k)) a true) b=some G:=⟨_,so (by unfold be;rw[zaO,Bl];exact hb)⟩;dsimp only
     rw[bL (eD (by rw[nl];omega)),fC,h];simp only[bz,f,kI ha,kI hb,Y,P,O,gb,C];by_cases o:(a:Int)=(b:Int)
     case pos=>
      rw[bL (tf o),show cg [(a:Int)] 0 1=some [(a:Int)] from rfl,show cg [(q:Int)] 0 1=some [(q:Int)] from rfl]
      simp only[bz,fP];rw[VR (by simp) (adA j c) (by omega),Fy];simp only[bz,gT,bR];rw[show bh 0 1 (ae [([(a:Int)],[(q:Int)],dR (fun _=>s) q)])=some () from rfl]
      simp only[bz];rw[w9 (by simp only[aw,ae,zah,zay,AI,IN];omega)];simp only[bz];rw[show bh 0 n (ae (lH n (es.take (k+1))))=some () from lU D.symm]
      simp only[bz];rw[show bh 0 (aw (ae ((es.take k).map (ld (r1,r2,r3) q s))) (ae [([(a:Int)],[(q:Int)],dR (fun _=>s) q)])) (ae (d6 ((es.take k).map (ld (r1,r2,r3) q s)) [([(a:Int)],[(q:Int)],dR (fun _=>s) q)]))=some () from lU (by simp[aw,ae,d6])]
      simp only[bz,fU];rw[ez,g];rw[show ld (r1,r2,r3) q s ((a:Int),(b:Int))=([(a:Int)],[(q:Int)],dR (fun _=>s) q) from ah o]
      try simp only[bR,bz,D]
      rfl
     case neg=>
      rw[aZ (te o),show qY (r1,r2,r3)=some (cH (r1,r2,r3)) from ah hr]
      simp only[bz];rw[show cg [(a:Int),(b:Int)] 0 2=some [(a:Int),(b:Int)] from rfl,show cg [(q:Int),(q:Int)] 0 2=some [(q:Int),(q:Int)] from rfl]
      simp only[bz,fP];rw[VR (by simp) (apI j c) (by rw[fJ (kA hr)];omega),M4];simp only[bz,bR];rw[show bh 0 n (ae (lH n (es.take (k+1))))=some () from lU D.symm]
      simp only[bz];rw[gw (fun x=>(((q:Int),(x:Int),es,aM (ae es),(k:Int)),(r1,r2,r3),((0:Int),(0:Int),(0:Int)),(r1,r2,r3),([]:List T3),([]:U),(es.take k).map (ld (r1,r2,r3) q s),([]:U),[(a:Int),(b:Int)],[(q:Int),(q:Int)],dR (oZ (r1,r2,r3) q s x) (q*q),s,lH n (es.take (k+1)))) q (r:=AN (((k:Int),(q:Int),es,aM (ae es)),(r1,r2,r3),((0:Int),(0:Int),(0:Int)),(r1,r2,r3),([]:List T3),([]:U),(es.take k).map (ld (r1,r2,r3) q s),([]:U),[(a:Int),(b:Int)],[(q:Int),(q:Int)],dR (oZ (r1,r2,r3) q s q) (q*q),s,lH n (es.take (k+1)))) ?c1 ?c2 ?c3 eZ]
      case c1=>
       intro x hx;have hxq:x*q<=16:=IS (show x<=4 by omega) c;have hl:(dR (oZ (r1,r2,r3) q s x) (q*q)).length=q*q*az (r1,r2,r3):=zO fun i _=>fJ (KH hr hs x i);have W:(dR (oZ (r1,r2,r3) q s (x+1)) (q*q)).length=q*q*az (r1,r2,r3):=zO fun i _=>fJ (KH hr hs (x+1) i);have N:=IS c c;have hm4:=IS N K.2.2;have w:=Pe q (show x+1<=q from hx)
       rw[zab,zag] at w;have p:=Pe (az (r1,r2,r3)) (show x*q+x+1<=q*q by omega);have F:zC ((r1,r2,r3),([(a:Int),(b:Int)],[(q:Int),(q:Int)],dR (oZ (r1,r2,r3) q s x) (q*q)),((x*q+x:Nat):Int))=some ((((x*q+x)*az (r1,r2,r3):Nat):Int),(((x*q+x+1)*az (r1,r2,r3):Nat):Int)):=
         ah ⟨hr,zbK _,by dsimp only;rw[hl,wt];exact p,by dsimp only;rw[hl];omega⟩
       have T:(x*q+x+1)*az (r1,r2,r3) - (x*q+x)*az (r1,r2,r3)=az (r1,r2,r3):=by rw[zab _ 1,zag];omega
       have X:(x*q+x)*az (r1,r2,r3)<=(x*q+x+1)*az (r1,r2,r3):=by rw[zab _ 1,zag];omega
       dsimp only
       rw[bL eD,tK (by rw[<-zat];omega) (by rw[<-zat];omega),<-zat,ez (a:=((x*q:Nat):Int)) (by omega) (by omega),<-Int.natCast_add];simp only[bz,fP,bR,F];rw[aay X (by unfold ae;rw[hl];exact p),T];simp only[bz,fP];rw[apl L (by rw[hl];rw[zab _ 1,zag] at p;exact p),apA hr hs hx];simp only[bz,bR];rw[show bh 0 (ae (dR (oZ (r1,r2,r3) q s x) (q*q))) (ae (dR (oZ (r1,r2,r3) q s (x+1)) (q*q)))=some () from lU (by unfold ae;rw[hl,W])]
       try simp only[bz,bR]
       rw[ez];rfl
      case c2=>
       dsimp only
       rw[aZ d7]
       try simp only[bR,bz]
      case c3=>rw[<-apz (r1,r2,r3) q s];rfl
      simp only[fU,gT,bz,bR];rw[w9 (by simp only[aw,ae,zah,zay,AI,IN];omega)];simp only[bz];rw[show bh 0 1 (ae [([(a:Int),(b:Int)],[(q:Int),(q:Int)],dR (oZ (r1,r2,r3) q s q) (q*q))])=some () from rfl]
      simp only[bz];rw[show bh 0 (aw (ae ((es.take k).map (ld (r1,r2,r3) q s))) (ae [([(a:Int),(b:Int)],[(q:Int),(q:Int)],dR (oZ (r1,r2,r3) q s q) (q*q))])) (ae (d6 ((es.take k).map (ld (r1,r2,r3) q s)) [([(a:Int),(b:Int)],[(q:Int),(q:Int)],dR (oZ (r1,r2,r3) q s q) (q*q))]))=some () from lU (by simp[aw,ae,d6])]
      simp only[bz,fU,bR];rw[ez,g];rw[show ld (r1,r2,r3) q s ((a:Int),(b:Int))=([(a:Int),(b:Int)],[(q:Int),(q:Int)],dR (oZ (r1,r2,r3) q s q) (q*q)) from ak o]
      rfl
   simp only[fU,bz,bR];rw[gw (fun i=>(((q:Int),aM (ae (lH n es)),(i:Int)),(r1,r2,r3),((0:Int),(0:Int),(0:Int)),(r1,r2,r3),([]:List T3),([]:U),es.map (ld (r1,r2,r3) q s)++qa (r1,r2,r3) q es i,([]:U),lH n es)) n (r:=AN (((0:Int),(0:Int),(0:Int)),(r1,r2,r3),([]:List T3),([]:U),qe (r1,r2,r3) (n:Int) es q s,([]:U))) ?d1 ?d2 ?d3 eZ]
   case d2=>
     dsimp only
     rw[aZ (d7 (by rw[show aM (ae (lH n es))=(n:Int) from congrArg aM (Bl n es)];omega))]
     try simp only[bR,bz]
     rfl
   case d3=>rw[show qa (r1,r2,r3) q es 0=[] from rfl,zaj];rfl
   case d1=>
     intro i hi;have PJ:=(QD (es:=es) (q:=q) hr j c i (by omega)).1;have f:ae (lH n es)=n:=Bl n es;have S:bW (lH n es) i=some (!(tH es i)):=NK hi;have Z:aw 0 i=i:=zau i;have Q:qa (r1,r2,r3) q es (i+1)=if tH es i=true then qa (r1,r2,r3) q es i++[Ip (r1,r2,r3) q (i:Int)] else qa (r1,r2,r3) q es i:=rfl
     dsimp only
     rw[bL (eD (by rw[show aM (ae (lH n es))=(n:Int) from congrArg aM f];omega)),f]
     simp only[kI hi,bz,Z,S];rw[ez,Q];by_cases hL:tH es i=true
     · rw[ah hL,hL,bL (b:=dz (!true)) rfl,show qY (r1,r2,r3)=some (cH (r1,r2,r3)) from ah hr,show cg [(i:Int)] 0 1=some [(i:Int)] from rfl,show cg [(q:Int)] 0 1=some [(q:Int)] from rfl]
       simp only[bz,fP];rw[VR (by simp) (adA j c) (by rw[fJ (kA hr)];omega),Fy];simp only[bz,gT,bR];rw[show bh 0 1 (ae [([(i:Int)],[(q:Int)],dR (fun _=>cH (r1,r2,r3)) q)])=some () from rfl]
       simp only[bz];rw[w9 (by simp only[aw,ae,zah,zay,AI,AT];omega)];simp only[bz];rw[show bh 0 (aw (ae (es.map (ld (r1,r2,r3) q s)++qa (r1,r2,r3) q es i)) (ae [([(i:Int)],[(q:Int)],dR (fun _=>cH (r1,r2,r3)) q)])) (ae (d6 (es.map (ld (r1,r2,r3) q s)++qa (r1,r2,r3) q es i) [([(i:Int)],[(q:Int)],dR (fun _=>cH (r1,r2,r3)) q)]))=some () from lU (by unfold aw ae d6;exact AT.symm)]
       simp only[bz];rw[<-zam]
       try simp only[f,bR,bz]
       rfl
     · rw[ak hL,Bool.eq_false_iff.2 hL,aZ (b:=dz (!false)) rfl]
       try simp only[bz,bR,f]
       rfl
   simp only[fU,bz,fP];obtain⟨hL,B⟩:=amC (n:=(n:Int)) (es:=es) (q:=q) (s:=s) hr z hs j c;rw[Ix hr (fun t l=>(B t l).1) (by omega) (fun t l=>(B t l).2.1) (fun t l=>(B t l).2.2)];simp only[bz,gT];by_cases u:(qe (r1,r2,r3) (n:Int) es q s).length<=12
   · rw[decide_eq_true u,ah u];rfl
   · rw[decide_eq_false u,ak u];rfl
abbrev GA:List Ty:=zan 100 (.int .i64)++[.list [.int .i64],.list [.int .i64,.list [.int .i64]],.int .i64]
abbrev vh:=Ty.DL GA
theorem arS (t:Ty) (ts:List Ty) (x:t.D) (y:Ty.DL ts):HL t ts (pN t ts x y)=x:=by cases ts<;>rfl
theorem anb (t:Ty) (ts:List Ty) (x:t.D) (y:Ty.DL ts):DB t ts (pN t ts x y)=y:=by cases ts<;>rfl
theorem apf (t:Ty) (ts:List Ty) (z:Ty.DL (t::ts)):pN t ts (HL t ts z) (DB t ts z)=z:=by cases ts<;>rfl
theorem amT:∀(n:Nat) (ts:List Ty) (x:Ty.DL (ts.take n)) (y:Ty.DL (ts.drop n)),NG n ts (Kq n ts x y)=y
 |0,_,_,_=>rfl
 |_+1,[],_,_=>rfl
 |n+1,t::ts,x,y=>(congrArg (NG n ts) (anb t ts _ _)).trans (amT n ts _ y)
theorem ajS:∀(n:Nat) (ts:List Ty) (x:Ty.DL (ts.take n)) (y:Ty.DL (ts.drop n)),IL n ts (Kq n ts x y)=x
 |0,_,_,_=>rfl
 |_+1,[],_,_=>rfl
 |n+1,t::ts,x,y=>by show pN t (ts.take n) (HL t ts (pN t ts _ _)) (IL n ts (DB t ts (pN t ts _ _)))=x;exact(congr (congrArg (pN t (ts.take n)) (arS t ts _ _)) ((congrArg (IL n ts) (anb t ts _ _)).trans (ajS n ts _ y))).trans (apf t (ts.take n) x)
def tM (x:vh):oT:=Zv 100 GA x
def fH (x:vh):U×(List (Int×U)×Int):=NF 100 GA x
def qu (a:oT) (y:U×(List (Int×U)×Int)):vh:=OA 100 GA a y
def rJ (a:oT) (op:U) (lv:List (Int×U)) (nx:Int):vh:=qu a (op,lv,nx)
theorem zx (a:oT) (op:U) (b:List (Int×U)) (nx:Int):fH (rJ a op b nx)=(op,b,nx):=amT 100 GA a (op,b,nx)
theorem Fx (a:oT) (op:U) (b:List (Int×U)) (nx:Int):tM (rJ a op b nx)=a:=ajS 100 GA a (op,b,nx)
theorem GS (a:oT) (op:U) (b:List (Int×U)) (nx:Int):qu a (op,b,nx)=rJ a op b nx:=rfl
theorem Es {α:Type}:bh 0 0 (ae ([]:List α))=some ():=bR 0
theorem Hx {α:Type} (x:α):bh 0 1 (ae [x])=some ():=bR 1
theorem Ca {α:Type} (l r:List α):bh 0 (aw (ae l) (ae r)) (ae (d6 l r))=some ():=lU (by simp[aw,ae,d6])
theorem Kf (k:Nat):aw 0 k=k:=zau k
theorem abz {α:Type} (x:α):cg [x] 0 1=some [x]:=fP [x]
theorem zZ {α:Type} {l:List α} {x:α} {k:Nat} (h:l.length<=100000) (a:k<=100):lR (aw (ae l) (ae [x])) k=some ():=by refine w9 ?_;show(l.length+1)*k<=gH;have:=IS (show l.length+1<=100001 by omega) a;have hm:gH=140737488355328:=rfl;omega
def iO {α:Type} (i j:Nat):Nat->List α->List α
 |_,[]=>[]
 |k,x::xs=>if k≠i/\k≠j then x::iO i j (k+1) xs else iO i j (k+1) xs
theorem aau {α:Type} (i j:Nat) (ys:List α):∀(xs:List α) (k:Nat),iO i j k (xs++ys)=iO i j k xs++iO i j (k+xs.length) ys
 |[],k=>rfl
 |x::xs,k=>by have a:=aau i j ys xs (k+1);simp only[za7,iO,a,zah,show k+(xs.length+1)=k+1+xs.length by omega];split<;>rfl
theorem aav {α:Type} (i j:Nat):∀(xs:List α) (k:Nat),(∀t,k<=t->t<k+xs.length->t≠i/\t≠j)->iO i j k xs=xs
 |[],k,_=>rfl
 |x::xs,k,h=>by simp only[iO];rw[ah (h k (zae _) (by simp)),aav i j xs (k+1) fun t h1 h2=>h t (by omega) (by simp only[zah];omega)]
theorem aaw {α:Type} {i j k:Nat} {xs:List α} {x:α} (h:xs[k]? =some x):iO i j 0 (xs.take (k+1))=iO i j 0 (xs.take k)++if k≠i/\k≠j then[x] else[]:=by have a:k<xs.length:=(zaD.1 h).1;rw[zaQ,h,aau];simp only[zbL,iO,IN,zau,zbe (zbS a)]
theorem Sc {α:Type} (i j:Nat):∀(xs:List α) (k:Nat),(iO i j k xs).length<=xs.length
 |[],k=>zae _
 |x::xs,k=>by have:=Sc i j xs (k+1);simp only[iO];split<;>simp only[zah]<;>omega
theorem amk {α:Type} (x y:α) (xs:List α):iO 0 (xs.length+1) 0 (x::(xs++[y]))=xs:=by simp only[iO];rw[ak (by omega),aau,aav 0 (xs.length+1) xs 1 fun t h1 h2=>by omega];simp only[iO];rw[ak (by omega),zaj]
theorem amm {α:Type} (x y:α) (xs:List α):iO 0 1 0 (x::y::xs)=xs:=by simp only[iO];rw[ak (by omega),ak (by omega),aav 0 1 xs 2 fun t h1 h2=>by omega]
def mL:Nat->List T3->List (Int×U)
 |_,[]=>[]
 |i,t::ts=>((i:Int),t.1)::mL (i+1) ts
theorem Mu:∀(ts:List T3) (i:Nat),(mL i ts).length=ts.length
 |[],_=>rfl
 |t::ts,i=>congrArg (·+1) (Mu ts (i+1))
theorem agT (us:List T3):∀(ts:List T3) (i:Nat),mL i (ts++us)=mL i ts++mL (i+ts.length) us
 |[],_=>rfl
 |t::ts,i=>by simp only[za7,mL,agT us ts (i+1),zah,show i+(ts.length+1)=i+1+ts.length by omega]
theorem avo {ts:List T3} {k:Nat} {t:T3} (h:ts[k]? =some t):mL 0 (ts.take (k+1))=mL 0 (ts.take k)++[((k:Int),t.1)]:=by have a:k<ts.length:=(zaD.1 h).1;rw[zaQ,h,agT];simp only[zbL,mL,IN,zau,zbe (zbS a)]
theorem QB:∀{ts:List T3} {i:Nat} {p:Int×U},p∈mL i ts->(i:Int)<=p.1/\p.1<i+ts.length/\∃t∈ts,p.2=t.1
 |t::ts,i,p,h=>by simp only[mL,zb3] at h;rcases h with rfl|h;exact⟨by simp,by simp;omega,t,by simp,rfl⟩;obtain⟨h1,h2,u,a,e⟩:=QB h;exact⟨by omega,by simp only[zah];omega,u,by simp[a],e⟩
def Uc (NN:Nat):(Int×(Int×(Int×((List (U×(U×U)))×U))))->(Option vh):=
 (fun(i0,i1,i2,l3,l4)=>
 (Gq l3).ab (fun(a5,b6)=>
 cN ((bh 0 0 (ae (([]:List (Int×U))))).ab (fun _=>
 cL NN (fun((l7,i8,i9),(a10,eC,e9),dw)=>
 aD (cI i9 i8)
 ((cV l7 i9).ab (fun(dj,eQ,dn)=>
 (j7 dj).ab (fun dk=>
 (cB dk (ae dk)).ab (fun eG=>
 aq dw (
 (bh 0 1 (ae (((i9,eG)::[])))).ab (fun _=>
 (lR (aw (ae dw) (ae (((i9,eG)::[])))) 32).ab (fun _=>
 (bh 0 (aw (ae dw) (ae (((i9,eG)::[])))) (ae (d6 dw (((i9,eG)::[]))))).ab (fun _=>
 some (AN ((l7,i8,bC .i64 i9 1),(a10,eC,e9),d6 dw (((i9,eG)::[]))))))))))))
 ((aq dw (
 some (AN ((a10,eC,e9),dw)))).ab (fun fE=>
 some (IT fE))))
 ((l3,aM (ae l3),(0:Int)),(a5,l4,aM (ae l3)),([]:List (Int×U)))))
 (fun((a20,eU,kO),gp)=>
 (cg gp 0 (ae gp)).ab (fun h9=>
 some (qu a20 (eU,h9,kO))))))
def Gw:=Uc aP
theorem start_eq {q r1 r2 r3:Int} {ts:List T3} (h:∀t∈ts,zl q t) (hl:ts.length<=1000):∃a,Gw (r1,r2,r3,ts,[])=some (rJ a [] (mL 0 ts) (ts.length:Int)):=by obtain⟨⟨a,b⟩,hd,_⟩:=adB h hl;refine⟨a,?_⟩;simp only[Gw,Uc,hd,bt,Es,aq];rw[gw (fun k=>((ts,aM (ae ts),(k:Int)),(a,[],aM (ae ts)),mL 0 (ts.take k))) ts.length ?a1 ?a2 ?a3 eZ];(case a3=>rfl);(case a2=>dsimp only;rw[aZ (d7 (by rw[nl];omega)),zak];simp only[bR,bt];rfl);(case a1=>intro k g;obtain⟨t,d⟩:∃t,ts[k]? =some t:=⟨_,so g⟩;obtain⟨f,e,_,_⟩:=h _ (BY d);obtain⟨L,D,A⟩:=t;dsimp only at f e⊢;have c:=Mu (ts.take k) 0;rw[IN] at c;rw[bL (eD (by rw[nl];omega)),fC,d];simp only[bt];rw[show j7 L=some L from ah (by omega)];simp only[bt,gT,bR,Hx,zZ (l:=mL 0 (ts.take k)) (x:=((k:Int),L)) (k:=32) (by omega) (by omega),Ca];rw[ez,avo d];rfl);rw[fU];simp only[fP,bt];rfl
def Tc (NN:Nat):(vh×Int)->(Option Int):=
 (fun(a0,i1)=>
 cN (cL NN (fun(i2,l3,i4,i5)=>
 aD (cI i5 i4)
 ((cV l3 i5).ab (fun(i6,l7)=>
 aD (bq i6 i2)
 (some (IT (IT i5)))
 (some (AN (i2,l3,i4,bC .i64 i5 1)))))
 (some (IT (AN ()))))
 (i1,((fH a0).2).1,aM (ae (((fH a0).2).1)),(0:Int)))
 (fun _=>
 some ((-1:Int))))
def Bu:=Tc aP
theorem Q8 {a:oT} {op:U} {b:List (Int×U)} {nx n:Int} {i:Nat} {L:U} (hl:b.length<=1000) (hi:b[i]? =some (n,L)) (c:∀j p,j<i->b[j]? =some p->p.1≠n):Bu (rJ a op b nx,n)=some (i:Int):=by have xm:i<b.length:=(zaD.1 hi).1;simp only[Bu,Tc,zx];rw[gw (fun k=>(n,b,aM (ae b),(k:Int))) i ?a1 ?a2 ?a3 eZ];(case a3=>rfl);(case a2=>dsimp only;rw[bL (eD (by rw[nl];omega)),fC,hi];simp only[bt];rw[bL (tf rfl)]);(case a1=>intro k d;obtain⟨p,hp⟩:∃p,b[k]? =some p:=⟨_,so (by omega)⟩;have:=c k p d hp;obtain⟨p1,p2⟩:=p;dsimp only at this⊢;rw[bL (eD (by rw[nl];omega)),fC,hp];simp only[bt];rw[aZ (te this),ez];rfl);rfl
def Td (NN:Nat):(vh×(Int×Int))->(Option U):=
 (fun(a0,i1,i2)=>
 (cV (((fH a0).2).1) i1).ab (fun(i3,l4)=>
 (cV (((fH a0).2).1) i2).ab (fun(i5,l6)=>
 (Gs (l4,l6)).ab (fun l7=>
 cN ((bh 0 0 (ae (([]:U)))).ab (fun _=>
 aq l7 (
 cL NN (fun((a8,i9,gd,fN,e9),dw,dj)=>
 aD (cI e9 fN)
 (cN ((cM e9 (ae dj)).ab (fun nV=>
 (bW dj (aw 0 nV)).ab (fun fy=>
 (pF ((fH a8).1,fy)).ab (fun zL=>
 cN (aq dw (
 aq dj (
 cL NN (fun((x8,fZ,eF,f0,On,iq,fO,gR,jv,iS),gX,iT)=>
 aD (cI iS jv)
 ((cV gR iS).ab (fun(lm,kE)=>
 aD (jA iS fZ)
 (aD (jA iS eF)
 ((pF (kE,f0)).ab (fun UY=>
 aD (UY)
 (aq gX (
 aq iT (
 some (AN ((x8,fZ,eF,f0,true,iq,fO,gR,jv,bC .i64 iS 1),gX,iT)))))
 (aq gX (
 aq iT (
 some (AN ((x8,fZ,eF,f0,On,iq,fO,gR,jv,bC .i64 iS 1),gX,iT)))))))
 (aq gX (
 aq iT (
 some (AN ((x8,fZ,eF,f0,On,iq,fO,gR,jv,bC .i64 iS 1),gX,iT))))))
 (aq gX (
 aq iT (
 some (AN ((x8,fZ,eF,f0,On,iq,fO,gR,jv,bC .i64 iS 1),gX,iT)))))))
 ((aq gX (
 aq iT (
 some (AN ((On,f0,fO,x8,fZ,eF,iq),gX,iT))))).ab (fun pj=>
 some (IT pj))))
 ((a8,i9,gd,fy,zL,fN,e9,((fH a8).2).1,aM (ae (((fH a8).2).1)),(0:Int)),dw,dj))))
 (fun((b34,lA,sq,UG,tu,tv,rB),jm,p9)=>
 aD (b34)
 (aq jm (
 (cg ((lA::[])) 0 1).ab (fun jb=>
 (lR (aw (ae jm) (ae jb)) 8).ab (fun _=>
 (bh 0 (aw (ae jm) (ae jb)) (ae (d6 jm jb))).ab (fun _=>
 aq p9 (
 some (AN ((sq,UG,tu,tv,rB),d6 jm jb,p9))))))))
 (aq jm (
 aq p9 (
 some (AN ((sq,UG,tu,tv,rB),jm,p9))))))))))
 (fun((Aw,a45,tw,vJ,vK),xy,sx)=>
 aq xy (
 aq sx (
 some (AN ((a45,tw,vJ,vK,bC .i64 Aw 1),xy,sx))))))
 ((aq dw (
 some (AN dw))).ab (fun rE=>
 some (IT rE))))
 ((a0,i1,i2,aM (ae l7),(0:Int)),([]:U),l7))))
 (fun qO=>
 (cB qO (ae qO)).ab (fun rF=>
 some rF))))))
def Ge:=Td aP
def ue (v:Int) (l:List (Int×U)):Bool:=l.any fun p=>decide (v∈p.2)
def FE (lv:List (Int×U)) (i j:Nat) (La Lb:U):U:=(jL La Lb).filter fun v=>ue v (iO i j 0 lv)
theorem ako {a:oT} {b:List (Int×U)} {nx o n:Int} {i j:Nat} {La Lb:U} (hl:b.length<=1000) (hL:∀p∈b,p.2.length<=500) (hi:b[i]? =some (o,La)) (hj:b[j]? =some (n,Lb)): Ge (rJ a [] b nx,(i:Int),(j:Int))=some (FE b i j La Lb):=by have la:=hL _ (BY hi);have lb:=hL _ (BY hj);dsimp only at la lb;have nN:(jL La Lb).length<=1000:=(by have:=Qe La Lb;omega);simp only[Ge,Td,zx,aq];rw[fC,hi];simp only[bt];rw[fC,hj];simp only[bt];rw[ago La Lb (by omega) (by omega)];simp only[bt,Es,bR];rw[gw (fun k=>((rJ a [] b nx,(i:Int),(j:Int),aM (ae (jL La Lb)),(k:Int)),((jL La Lb).take k).filter (fun v=>ue v (iO i j 0 b)),jL La Lb)) (jL La Lb).length ?a1 ?a2 ?a3 eZ];(case a3=>rfl);(case a2=>dsimp only;rw[aZ (d7 (by rw[nl];omega)),zak];try simp only[bR,bt]);(case a1=>intro k e;have hlen:=VW (P:=fun v=>ue v (iO i j 0 b)) (jL La Lb) k;dsimp only;obtain⟨v,g⟩:∃v,(jL La Lb)[k]? =some v:=⟨_,so e⟩;have d:(jL La Lb).getD k 0=v:=(by rw[co,g];rfl);rw[bL (eD (by rw[nl];omega)),kI (show k<ae (jL La Lb) from e)];simp only[bt,Kf];rw[show bW (jL La Lb) k=some v from g];simp only[bt,zx];rw[show pF (([]:U),v)=some false from ah (by simp)];simp only[bt,bR];rw[gw (fun t=>((rJ a [] b nx,(i:Int),(j:Int),v,ue v (iO i j 0 (b.take t)),aM (ae (jL La Lb)),(k:Int),b,aM (ae b),(t:Int)),((jL La Lb).take k).filter (fun v=>ue v (iO i j 0 b)),jL La Lb)) b.length ?b1 ?b2 ?b3 eZ];(case b3=>rfl);(case b2=>dsimp only;rw[aZ (d7 (by rw[nl];omega)),zak];try simp only[bR,bt]);(case b1=>intro t q;obtain⟨p,hp⟩:∃p,b[t]? =some p:=⟨_,so q⟩;have r:=hL _ (BY hp);have hs:=aaw (i:=i) (j:=j) hp;obtain⟨p1,c⟩:=p;dsimp only at r⊢;rw[bL (eD (by rw[nl];omega)),fC,hp];simp only[bt];rw[ez,hs];have ea:∀l:List (Int×U),ue v (l++[(p1,c)])=(ue v l||decide (v∈c)):=fun l=>(by unfold ue;rw[List.any_append];simp);by_cases m:t=i;rw[aZ (sJ (by omega)),ak (by omega),zaj];(try simp only[bR,bt]);(try rfl);rw[bL (zg (by omega))];by_cases h:t=j;rw[aZ (sJ (by omega)),ak (by omega),zaj];(try simp only[bR,bt]);rfl;rw[bL (zg (by omega)),ah ⟨m,h⟩,ea,show pF (c,v)=some (decide (v∈c)) from ah (by dsimp only;omega)];simp only[bt];by_cases f:v∈c;rw[decide_eq_true f,mX,Bool.or_true];(try simp only[bR,bt]);(try rfl);rw[decide_eq_false f,mW,Bool.or_false];(try simp only[bR,bt]);try rfl);rw[VX e,d,fU];cases hb:ue v (iO i j 0 b) with|true=>rw[mX,ah rfl];simp only[bR,bt,abz,zZ (l:=((jL La Lb).take k).filter fun v=>ue v (iO i j 0 b)) (x:=v) (k:=8) (by omega) (by omega),Ca,fU];rw[ez];rfl|false=>rw[mW,ak (by simp)];simp only[bR,bt,fU];rw[ez];rfl);rw[fU];simp only[gT,bt];rfl
def Ta (NN:Nat):(vh×(Int×Int))->(Option ((Int×Int)×vh)):=
 (fun(a0,i1,i2)=>
 (cV (((fH a0).2).1) i1).ab (fun(i3,l4)=>
 (cV (((fH a0).2).1) i2).ab (fun(i5,l6)=>
 (Ge (qu (tM a0) ((fH a0).1,((fH a0).2).1,((fH a0).2).2),i1,i2)).ab (fun l7=>
 cN ((bh 0 0 (ae (([]:List (Int×U))))).ab (fun _=>
 aq l7 (
 cL NN (fun((i8,i9,cf,fN,e9),(Oe,dj,eQ,fy),(eP,ii),(fZ,eF),f0,dY,gp)=>
 aD (cI e9 fN)
 ((cV cf e9).ab (fun(fO,gR)=>
 aD (jA e9 i8)
 (aD (jA e9 i9)
 (aq gp (
 (bh 0 1 (ae (((fO,gR)::[])))).ab (fun _=>
 (lR (aw (ae gp) (ae (((fO,gR)::[])))) 32).ab (fun _=>
 (bh 0 (aw (ae gp) (ae (((fO,gR)::[])))) (ae (d6 gp (((fO,gR)::[]))))).ab (fun _=>
 aq dY (
 some (AN ((i8,i9,cf,fN,bC .i64 e9 1),(Oe,dj,eQ,fy),(eP,ii),(fZ,eF),f0,dY,d6 gp (((fO,gR)::[]))))))))))
 (aq gp (
 aq dY (
 some (AN ((i8,i9,cf,fN,bC .i64 e9 1),(Oe,dj,eQ,fy),(eP,ii),(fZ,eF),f0,dY,gp))))))
 (aq gp (
 aq dY (
 some (AN ((i8,i9,cf,fN,bC .i64 e9 1),(Oe,dj,eQ,fy),(eP,ii),(fZ,eF),f0,dY,gp)))))))
 ((aq gp (
 aq dY (
 some (AN ((Oe,dj,eQ,fy),(eP,ii),(fZ,eF),f0,dY,gp))))).ab (fun iv=>
 some (IT iv))))
 ((i1,i2,((fH a0).2).1,aM (ae (((fH a0).2).1)),(0:Int)),(tM a0,(fH a0).1,((fH a0).2).1,((fH a0).2).2),((0:Int),(0:Int)),(i3,i5),((fH a0).2).2,l7,([]:List (Int×U))))))
 (fun((GI,gX,iT,lm),(rA,lp),(oE,kf),lA,jw,jZ)=>
 (cB jw (ae jw)).ab (fun nW=>
 aq jZ (
 (bh 0 1 (ae (((lA,nW)::[])))).ab (fun _=>
 (lR (aw (ae jZ) (ae (((lA,nW)::[])))) 32).ab (fun _=>
 (cg (d6 jZ (((lA,nW)::[]))) 0 (aw (ae jZ) (ae (((lA,nW)::[]))))).ab (fun tD=>
 some ((oE,kf),qu GI (gX,tD,bC .i64 lm 1))))))))))))
def Gc:=Ta aP
theorem adh {a:oT} {b:List (Int×U)} {nx e d:Int} {i j:Nat} {La Lb:U} (hl:b.length<=1000) (hL:∀p∈b,p.2.length<=500) (hi:b[i]? =some (e,La)) (hj:b[j]? =some (d,Lb)) (hx:0<=nx/\nx<=100000): Gc (rJ a [] b nx,(i:Int),(j:Int))=some ((e,d),rJ a [] (iO i j 0 b++[(nx,FE b i j La Lb)]) (nx+1)):=by simp only[Gc,Ta,zx,Fx,GS,aq];rw[fC,hi];simp only[bt];rw[fC,hj];simp only[bt];rw[ako hl hL hi hj];simp only[bt,Es,bR];rw[gw (fun k=>(((i:Int),(j:Int),b,aM (ae b),(k:Int)),(a,[],b,nx),((0:Int),(0:Int)),(e,d),nx,FE b i j La Lb,iO i j 0 (b.take k))) b.length ?a1 ?a2 ?a3 eZ];(case a3=>rfl);(case a2=>dsimp only;rw[aZ (d7 (by rw[nl];omega)),zak];try simp only[bR,bt]);(case a1=>intro k m;obtain⟨p,hp⟩:∃p,b[k]? =some p:=⟨_,so m⟩;have hs:=aaw (i:=i) (j:=j) hp;have c:=Sc i j (b.take k) 0;rw[IN] at c;obtain⟨p1,f⟩:=p;dsimp only;rw[bL (eD (by rw[nl];omega)),fC,hp];simp only[bt];rw[ez,hs];by_cases h:k=i;rw[aZ (sJ (by omega)),ak (by omega),zaj];(try simp only[bR,bt]);(try rfl);rw[bL (zg (by omega))];by_cases g:k=j;rw[aZ (sJ (by omega)),ak (by omega),zaj];(try simp only[bR,bt]);(try rfl);rw[bL (zg (by omega)),ah ⟨h,g⟩];simp only[Hx,zZ (l:=iO i j 0 (b.take k)) (x:=(p1,f)) (k:=32) (by omega) (by omega),Ca,bR,bt];rfl);rw[fU];have c:=Sc i j b 0;simp only[gT,bR,Hx,zZ (l:=iO i j 0 b) (x:=(nx,FE b i j La Lb)) (k:=32) (by omega) (by omega),bt];rw[anv (by simp[d6,aw,ae]),ez];simp only[bt,GS];rfl
def Tb (NN:Nat):(vh×(Int×Int))->(Option (Bool×vh)):=
 (fun(a0,i1,i2)=>
 (Bu (qu (tM a0) ((fH a0).1,((fH a0).2).1,((fH a0).2).2),i1)).ab (fun i3=>
 (Bu (qu (tM a0) ((fH a0).1,((fH a0).2).1,((fH a0).2).2),i2)).ab (fun i4=>
 aD (cI i3 (0:Int))
 (some (false,qu (tM a0) ((fH a0).1,((fH a0).2).1,((fH a0).2).2)))
 (aD (cI i4 (0:Int))
 (some (false,qu (tM a0) ((fH a0).1,((fH a0).2).1,((fH a0).2).2)))
 (aD (ic i2 i1)
 (some (false,qu (tM a0) ((fH a0).1,((fH a0).2).1,((fH a0).2).2)))
 ((Gc (qu (tM a0) ((fH a0).1,((fH a0).2).1,((fH a0).2).2),i3,i4)).ab (fun((i5,i6),a7)=>
 some (true,qu (tM a7) ((fH a7).1,((fH a7).2).1,((fH a7).2).2)))))))))
def Gd:=Tb aP
theorem arn {a:oT} {b:List (Int×U)} {nx d c:Int} {i j:Nat} {La Lb:U} (hl:b.length<=1000) (hL:∀p∈b,p.2.length<=500) (hi:b[i]? =some (d,La)) (hj:b[j]? =some (c,Lb)) (hx:0<=nx/\nx<=100000) (ui:∀k p,k<i->b[k]? =some p->p.1≠d) (uj:∀k p,k<j->b[k]? =some p->p.1≠c) (hn:d<c): Gd (rJ a [] b nx,d,c)=some (true,rJ a [] (iO i j 0 b++[(nx,FE b i j La Lb)]) (nx+1)):=by simp only[Gd,Tb,zx,Fx,GS];rw[Q8 hl hi ui];simp only[bt];rw[Q8 hl hj uj];simp only[bt];rw[aZ d7,aZ d7,aZ (Ik hn),adh hl hL hi hj hx];simp only[bt,zx,Fx,GS]
def lD (ts:List T3) (k:Nat) (R:U):List (Int×U):=if k=0 then mL 0 ts else mL (k+1) (ts.drop (k+1))++[((ts.length:Int)+k - 1,R)]
def rI (m k:Nat):Int×Int:=if k=0 then(0,1) else((k:Int)+1,(m:Int)+k - 1)
structure DT (ts:List T3) (k:Nat) (R:U) where
 i:Nat
 j:Nat
 La:U
 Lb:U
 hi:(lD ts k R)[i]? =some ((rI ts.length k).1,La)
 hj:(lD ts k R)[j]? =some ((rI ts.length k).2,Lb)
 ui:∀t p,t<i->(lD ts k R)[t]? =some p->p.1≠(rI ts.length k).1
 uj:∀t p,t<j->(lD ts k R)[t]? =some p->p.1≠(rI ts.length k).2
 hs:iO i j 0 (lD ts k R)=mL (k+2) (ts.drop (k+2))
 i0:i=0
 jk:j=if k=0 then 1 else ts.length - k - 1
 ea:La=(ts.getD (if k=0 then 0 else k+1) ([],[],[])).1
 eb:Lb=if k=0 then(ts.getD 1 ([],[],[])).1 else R
theorem aa2 {ts:List T3} {k:Nat} (d:k+1<ts.length) (R:U):Nonempty (DT ts k R):=by
 by_cases a:k=0
 ·subst a;match ts,d with
  |t0::t1::us,d=>
   have e:lD (t0::t1::us) 0 R=((0:Int),t0.1)::((1:Int),t1.1)::mL 2 us:=by unfold lD;rw[ah rfl];rfl
   refine⟨⟨0,1,t0.1,t1.1,by rw[e];rfl,by rw[e];rfl,fun t p h=>by omega,fun t p h hp=>?_,by rw[e,amm];rfl,rfl,rfl,rfl,rfl⟩⟩;have:t=0:=by omega
   subst this;rw[e] at hp;injection hp with hp;subst hp;show(0:Int)≠1;omega
 ·obtain⟨t,us,hd⟩:∃t us,ts.drop (k+1)=t::us:=by
   cases h:ts.drop (k+1) with
   |nil=>have:=congrArg List.length h;rw[zaz] at this;simp at this;omega
   |cons t us=>exact⟨t,us,rfl⟩
  have f:ts.drop (k+2)=us:=by rw[show k+2=(k+1)+1 by omega,<-zbG,hd];rfl
  have EL:us.length=ts.length - k - 2:=by rw[<-f,zaz];omega
  have g:ts[k+1]? =some t:=by
   have:=congrArg (·[0]?) hd;simpa[List.getElem?_drop] using this
  have e:lD ts k R=(((k+1:Nat):Int),t.1)::(mL (k+2) us++[((ts.length:Int)+k - 1,R)]):=by unfold lD;rw[ak a,hd];rfl
  have c:(mL (k+2) us).length=us.length:=Mu us (k+2);have b:rI ts.length k=((k:Int)+1,(ts.length:Int)+k - 1):=ak a;refine⟨⟨0,us.length+1,t.1,R,?_,?_,fun t p h=>by omega,fun s p h hp=>?_,?_,rfl,?_,?_,?_⟩⟩
  ·rw[e,b];rfl
  ·rw[e,b,zbu,zac (by omega),c,zaN];rfl
  ·rw[b];rw[e] at hp;match s,hp with
   |0,hp=>injection hp with hp;subst hp;show((k+1:Nat):Int)≠(ts.length:Int)+k - 1;omega
   |s+1,hp=>
    rw[zbu,zaf (by omega)] at hp;have:=QB (BY hp);show p.1≠(ts.length:Int)+k - 1;omega
  ·rw[e,f,<-c,amk]
  ·rw[ak a];omega
  ·rw[ak a,co,g];rfl
  ·rw[ak a]
theorem ag0 {ts:List T3} {k:Nat} (hk:k<ts.length) (R:U):(lD ts k R).length=ts.length - k:=by unfold lD;split;rename_i h;subst h;rw[Mu];rfl;rw[AT,Mu,zaz];simp only[zah,zay];omega
theorem agZ {ts:List T3} {k:Nat} {R:U} {B:Nat} (h:∀t∈ts,t.1.length<=B) (b:R.length<=B):∀p∈lD ts k R,p.2.length<=B:=by intro p hp;unfold lD at hp;split at hp;obtain⟨_,_,t,a,e⟩:=QB hp;rw[e];exact h t a;rcases zao.1 hp with hp|hp;obtain⟨_,_,t,a,e⟩:=QB hp;rw[e];exact h t (zbC a);rw[zai.1 hp];exact b
def rK (ts:List T3) (k:Nat) (R:U):U:=
 (jL (ts.getD (if k=0 then 0 else k+1) ([],[],[])).1 (if k=0 then(ts.getD 1 ([],[],[])).1 else R)).filter fun v=>ue v (mL (k+2) (ts.drop (k+2)))
theorem DT.rl {ts:List T3} {k:Nat} {R:U} (s:DT ts k R):FE (lD ts k R) s.i s.j s.La s.Lb=rK ts k R:=by unfold FE rK;rw[s.hs,s.ea,s.eb]
theorem DT.nxt {ts:List T3} {k:Nat} {R:U} (s:DT ts k R):iO s.i s.j 0 (lD ts k R)++[((ts.length:Int)+k,rK ts k R)]=lD ts (k+1) (rK ts k R):=by rw[s.hs];unfold lD;rw[ak (by omega)];congr 3;omega
theorem azg {ts:List T3} {k:Nat} {R:U} {B:Nat} (h:∀t∈ts,t.1.length<=B):(rK ts k R).length<=B+(if k=0 then B else R.length):=by unfold rK;have a:∀n,(ts.getD n (([],[],[]):T3)).1.length<=B:=fun n=>(by rw[co];cases hn:ts[n]? with|none=>exact za0 _|some t=>exact h t (BY hn));refine zax (zaC _ _) (zax (Qe _ _) ?_);split;exact Nat.add_le_add (a _) (a _);exact zbD (a _) _
theorem foK {a:oT} {ts:List T3} {k:Nat} {R:U} (d:k+1<ts.length) (h20:ts.length<=20) (h:∀t∈ts,t.1.length<=12) (hR:R.length<=300): Gd (rJ a [] (lD ts k R) ((ts.length:Int)+k),rI ts.length k)=some (true,rJ a [] (lD ts (k+1) (rK ts k R)) ((ts.length:Int)+(k+1:Nat))):=by obtain⟨s⟩:=aa2 d R;have hlen:=ag0 (show k<ts.length by omega) R;have c:(rI ts.length k).1<(rI ts.length k).2:=(by unfold rI;split;show(0:Int)<1;omega;show(k:Int)+1<(ts.length:Int)+k - 1;omega);have:=arn (a:=a) (nx:=(ts.length:Int)+k) (by omega) (agZ (B:=500) (fun t b=>by have:=h t b;omega) (by omega)) s.hi s.hj (by omega) s.ui s.uj c;rw[s.rl,s.nxt] at this;rw[show((ts.length:Int)+(k+1:Nat))=(ts.length:Int)+k+1 by omega];exact this
def j3 (m:Nat):List (Int×Int):=(zaa (m - 1)).map (rI m)
theorem Ft (m:Nat):(j3 m).length=m - 1:=by unfold j3;rw[AI,zbp]
theorem Zg {m k:Nat} (h:k<m - 1):(j3 m)[k]? =some (rI m k):=by unfold j3;rw[zad,zbd h];rfl
def Ts (NN:Nat):((Int×(Int×(Int×((List (U×(U×U)))×U))))×(List (Int×Int)))->(Option Bool):=
 (fun((i0,i1,i2,l3,l4),l5)=>
 (xX (i0,i1,i2,l3,l4)).ab (fun b6=>
 aD (dz b6)
 (some false)
 (aD (jA (aM (ae l5)) (nX (jE .i64 (aM (ae l3)) (1:Int)) (0:Int)))
 (some false)
 ((Gw (i0,i1,i2,l3,l4)).ab (fun a7=>
 cN (cL NN (fun((l8,i9,gd),a11,de,dw,ft)=>
 aD (cI gd i9)
 ((cV l8 gd).ab (fun(jO,fy)=>
 (Gd (qu a11 (de,dw,ft),jO,fy)).ab (fun(zL,x8)=>
 aD (dz zL)
 (some (IT (IT false)))
 (some (AN ((l8,i9,bC .i64 gd 1),tM x8,(fH x8).1,((fH x8).2).1,((fH x8).2).2))))))
 (some (IT (AN ()))))
 ((l5,aM (ae l5),(0:Int)),tM a7,(fH a7).1,((fH a7).2).1,((fH a7).2).2))
 (fun _=>
 some true))))))
def JE:=Ts aP
theorem axM {q r1 r2 r3:Int} {ts:List T3} (hr:bc (r1,r2,r3)=true) (h:∀t∈ts,zl q t) (d:ts.length<=12) (h1:1<=ts.length) (e:∀t∈ts,gC (r1,r2,r3) t=true) (hb:∀t∈ts,t.2.2.length<=1048576): JE ((r1,r2,r3,ts,[]),j3 ts.length)=some true:=by obtain⟨a,hs⟩:=start_eq (r1:=r1) (r2:=r2) (r3:=r3) h (by omega);have f:∀t∈ts,t.1.length<=12:=fun t e=>(h t e).2.1;simp only[JE,Ts];rw[Ix hr h (by omega) e hb,decide_eq_true d];simp only[bt];rw[aZ (b:=dz true) rfl,aZ (sJ (by rw[nl,nl,Ft,n8];have:nX ((ts.length:Int) - 1) 0=max ((ts.length:Int) - 1) 0:=aha _ _;omega)),hs];simp only[bt,Fx,zx];generalize hL:cL aP _ _=o;obtain⟨r,rfl,rfl⟩:∃r,o=some r/\r=AN ():=(by rw[<-hL];refine Fk (ts.length - 1) (fun k x=>∃R:U,R.length<=12*(k+1)/\x=((j3 ts.length,aM (ae (j3 ts.length)),(k:Int)),a,[],lD ts k R,(ts.length:Int)+k)) _ ?s1 ?s2 ?s0 eZ;(case s0=>exact⟨[],by simp,rfl⟩);(case s2=>rintro x ⟨R,_,rfl⟩;refine⟨_,?_,rfl⟩;dsimp only;rw[aZ (d7 (by rw[nl,Ft];omega))]);case s1=>rintro k x g ⟨R,hR,rfl⟩;have hl:=azg (ts:=ts) (k:=k) (R:=R) f;have c:(rK ts k R).length<=12*(k+1+1):=(by split at hl<;>omega);refine⟨_,?_,rK ts k R,c,rfl⟩;dsimp only;rw[bL (eD (by rw[nl,Ft];omega)),fC,Zg g];simp only[bt];rw[GS,show((rJ a [] (lD ts k R) ((ts.length:Int)+k),(rI ts.length k).1,(rI ts.length k).2):vh×Int×Int)=(rJ a [] (lD ts k R) ((ts.length:Int)+k),rI ts.length k) from rfl,foK (by omega) (by omega) f (by omega)];simp only[bt,Fx,zx];rw[aZ (b:=dz true) rfl,ez];rfl);rfl
end Go.Am
