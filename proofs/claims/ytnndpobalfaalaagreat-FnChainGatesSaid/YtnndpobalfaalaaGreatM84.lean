/- M36, M18, M38, M48, M49, M50, M51, M52, M12, M20, M21, M53, M56, M65, M66, M67, M26, M27, M28, M68, M69, M70, M71, M72, M37, M41, M42, M73, M43, M10, M44, M74, M75, M76, M45, M77, M78, M79, M29, M80, M30, M81, M82, M83, M84: parts of the proof. No condition. -/
import Derived.Test.YtnndpobalfaalaaGreatM64
import Derived.Lib.BitFns
set_option linter.unusedVariables false
set_option linter.unusedSimpArgs false
set_option linter.unusedSectionVars false
open List renaming getD_eq_getElem?_getD->zaa,getElem?_eq_getElem->zab,length_append->zae,length_cons->zag,length_nil->zah,drop_eq_getElem_cons->zak,getElem?_eq_none->zal,take_length->zan,getElem?_append_right->zao,getElem?_append_left->zap,map_append->zar,mem_or_eq_of_mem_set->zau,map_cons->zav,take_add_one->zax,mem_range->zaA,getElem?_map->zaB,filter_cons_of_neg->zaD,all_eq_true->zaE,mem_map->zaH,length_map->zaN,mem_append_right->zaO,ext_getElem?->zaP,mem_cons_of_mem->zaQ,length_take->zaS,sum_cons->zaU,mem_append->zaW,filter_append->zaY,mem_filter->zaZ,append_inj->za0,getElem_mem->za2,getElem?_set_ne->za4,mem_of_getElem?->za5,mem_append_left->za6,nil_append->za9,length_set->zba,drop_set_of_lt->zbc,nodup_iff_pairwise_ne->zbd,mem_cons_self->zbg,filter_cons_of_pos->zbl,getElem?_set_self->zbn,take_append_drop->zbo,mem_iff_getElem?->zbp,length_filter_le->zbu,findIdx_getElem->zbv,mem_iff_getElem->zby,sum_append_nat->zbA,map_congr_left->zbC,mem_singleton->zbD,nodup_append->zbF,cons_append->zbJ,mem_cons->zbM
open Int renaming toNat_natCast->zac,emod_lt_of_pos->zaF,natCast_mul->zaI,mul_zero->zaJ,mul_one->zaK,mul_emod->zaM,emod_emod_of_dvd->zaR,emod_eq_of_lt->za1,mul_le_mul_of_nonneg_left->za3,zero_emod->za7,emod_nonneg->za8,add_mul_emod_self_left->zbe,mul_comm->zbf,mul_assoc->zbk,dvd_refl->zbr,emod_add_emod->zbE,zero_mul->zbH,add_emod->zbI,emod_self->zbL,add_zero->zbN,zero_add->zbO
open Nat renaming mul_le_mul->zad,le_refl->zaf,mul_comm->zai,div_lt_iff_lt_mul->zaj,mul_one->zam,mul_assoc->zaq,mul_le_mul_right->zas,add_mul->zat,add_sub_cancel_left->zaw,mod_lt->zay,div_add_mod->zaC,le_trans->zaG,not_lt_zero->zaL,one_mul->zaT,eq_zero_or_pos->zaV,add_assoc->zaX,le_antisymm->zbb,lt_of_lt_of_le->zbh,div_div_eq_div_mul->zbm,add_zero->zbq,mul_zero->zbs,zero_mul->zbt,pow_le_pow_right->zbw,div_lt_of_lt_mul->zbx,div_one->zbB,sub_self->zbG,zero_le->zbK,pow_succ->zbP,zero_add->zbQ
open Bool renaming and_eq_true->zaz,true_and->zbi,and_true->zbj
open List.Perm renaming refl->zbz
namespace Go.Am
theorem Hd {X Y:Type} {f:X->Option (X⊕Y)} (n:Nat) (I:Nat->X->Prop) (Q:Y->Prop)
  (h1:∀i x,i<n->I i x->∃x',f x=some (.inl x')/\I (i+1) x') (h2:∀x,I n x->∃r,f x=some (.inr r)/\Q r) {x0:X} (h0:I 0 x0) {N:Nat} (hN:n<N):∃r,cq N f x0=some r/\Q r:=by
 have cN:∀(k i:Nat) (x:X),i+k=n->I i x->∀N,k<N->∃r,cq N f x=some r/\Q r:=by
  intro k;induction k with
  |zero=>
   intro i x hi hx N hN;obtain⟨N,rfl⟩:∃M,N=M+1:=⟨N - 1,by omega⟩;have:i=n:=by omega
   subst this;obtain⟨r,e,q⟩:=h2 x hx;exact⟨r,by simp only[cq,e],q⟩
  |succ k ih=>
   intro i x hi hx N hN;obtain⟨N,rfl⟩:∃M,N=M+1:=⟨N - 1,by omega⟩;obtain⟨x',e,kF⟩:=h1 i x (by omega) hx;obtain⟨r,e',q⟩:=ih (i+1) x' (by omega) kF N (by omega);exact⟨r,by simp only[cq,e];exact e',q⟩
 exact cN n 0 x0 (by omega) h0 N hN
abbrev Cu:Type:=aa×Int×Int
def mf (c:Cu):Prop:=0<=c.2.1/\c.1.length<=1048576
theorem ab6 (a:Int):0<=qn .i64 a 255/\qn .i64 a 255<=255:=by
 have e:qn .i64 a 255=IntKind.wrap .i64 (((BitVec.ofInt 64 a&&&BitVec.ofInt 64 255).toNat:Nat):Int):=rfl;have h:(BitVec.ofInt 64 a&&&BitVec.ofInt 64 255).toNat<=255:=by
  rw[BitVec.toNat_and];exact zaG Nat.and_le_right (by decide)
 rw[e];generalize (BitVec.ofInt 64 a&&&BitVec.ofInt 64 255).toNat=m at h;rw[abq _ (by omega) (by omega)];omega
theorem ae4 {α:Type}:bn 0 0 (af ([]:List α))=some ():=rfl
theorem Jp {α:Type} (l:List α) (x:α):bn 0 (aJ (af l) (af [x])) (af (d6 l [x]))=some ():=by
 rw[show af (d6 l [x])=aJ (af l) (af [x]) by simp[aJ,af,d6]];exact bF _
def Oe:aq:=[(.one,[.list [.int .u8]])]
def ZW:aq:=[(.ptr,[.list [.int .u8],.int .i64,.int .i64])]
def axe:bi:=[[some .aV]]
def MA (NN:Nat):aa->(Option (aa×(Int×Int))):=
 (fun(l0:aa)=>
 ct (cq NN (fun((l1,i2,i3):(aa×(Int×Int)))=>
 aD (cj i3 (aW (af l1)))
 (aD (cj i3 (4000:Int))
 ((cW l1 i3).ae (fun i4=>
 some (Sum.inl (l1,qn .i64 (bE .i64 (bE .i64 (cV .i64 i2 131) (C0 .i64 i4)) (7:Int)) (1073741823:Int),bE .i64 i3 1))))
 (some (Sum.inr (Sum.inl (l1,i2)))))
 (some (Sum.inr (Sum.inl (l1,i2)))))
 (l0,bE .i64 (55127:Int) (aW (af l0)),(0:Int)))
 (fun(l5,i6)=>
 some (l5,(0:Int),i6)))
def Fh:aa->(Option (aa×(Int×Int))):=MA aI
theorem aqV (x:aa) (z:(aa×(Int×Int))) (h:Fh x=some z):MA aI x=some z:=h
def Ol:aq:=[(.one,[.list [.int .u8]]),(.one,[.int .i64])]
def Z3:aq:=[(.ptr,[.list [.int .u8],.int .i64,.int .i64])]
def axl:bi:=[[some .aV]]
def MH (NN:Nat):(aa×Int)->(Option (aa×(Int×Int))):=
 (fun((l0,i1):(aa×Int))=>
 (Fh l0).ae (fun(l2,i3,i4)=>
 some (l2,iW i1 (aW (af l0)),qn .i64 (bE .i64 (bE .i64 (cV .i64 i4 31) (cV .i64 i1 7919)) (1:Int)) (1073741823:Int))))
def wW:(aa×Int)->(Option (aa×(Int×Int))):=MH aI
theorem aq2 (x:(aa×Int)) (z:(aa×(Int×Int))) (h:wW x=some z):MH aI x=some z:=h
def Od:aq:=[(.ptr,[.list [.int .u8],.int .i64,.int .i64])]
def ZV:aq:=[(.one,[.int .i64]),(.ptr,[.list [.int .u8],.int .i64,.int .i64])]
def axd:bi:=[[some .aV]]
def Mz (NN:Nat):(aa×(Int×Int))->(Option (Int×(aa×(Int×Int)))):=
 (fun((l0,i1,i2):(aa×(Int×Int)))=>
 (yi .i64 (bE .i64 (cV .i64 i2 6364136223846793005) (1442695040888963407:Int)) (33:Int)).ae (fun i3=>
 (yi .i64 (bE .i64 (cV .i64 i2 6364136223846793005) (1442695040888963407:Int)) (45:Int)).ae (fun i4=>
 ct (aD (cj i1 (aW (af l0)))
 ((cW l0 i1).ae (fun i5=>
 some (Sum.inl (qn .i64 (bE .i64 (qn .i64 (abr .i64 i3 i4) (255:Int)) (C0 .i64 i5)) (255:Int),l0,bE .i64 i1 1,bE .i64 (cV .i64 i2 6364136223846793005) (1442695040888963407:Int)))))
 (some (Sum.inl (qn .i64 (abr .i64 i3 i4) (255:Int),l0,i1,bE .i64 (cV .i64 i2 6364136223846793005) (1442695040888963407:Int)))))
 (fun(i6,l7,i8,i9)=>
 some (i6,l7,i8,i9)))))
def An:(aa×(Int×Int))->(Option (Int×(aa×(Int×Int)))):=Mz aI
theorem aqU (x:(aa×(Int×Int))) (z:(Int×(aa×(Int×Int)))) (h:An x=some z):Mz aI x=some z:=h
def Oc:aq:=[(.ptr,[.list [.int .u8],.int .i64,.int .i64]),(.one,[.int .i64])]
def ZU:aq:=[(.one,[.int .i64]),(.ptr,[.list [.int .u8],.int .i64,.int .i64])]
def axc:bi:=[[some .aV]]
def My (NN:Nat):((aa×(Int×Int))×Int)->(Option (Int×(aa×(Int×Int)))):=
 (fun(((l0,i1,i2),i3):((aa×(Int×Int))×Int))=>
 aD (ir i3 (0:Int))
 (some ((0:Int),l0,i1,i2))
 ((An (l0,i1,i2)).ae (fun(i4,l5,i6,i7)=>
 (gJ i4 i3).ae (fun i8=>
 some (i8,l5,i6,i7)))))
def vA:((aa×(Int×Int))×Int)->(Option (Int×(aa×(Int×Int)))):=My aI
theorem aqT (x:((aa×(Int×Int))×Int)) (z:(Int×(aa×(Int×Int)))) (h:vA x=some z):My aI x=some z:=h
def Of:aq:=[(.ptr,[.list [.int .u8],.int .i64,.int .i64]),(.one,[.int .i64])]
def ZX:aq:=[(.one,[.bool]),(.ptr,[.list [.int .u8],.int .i64,.int .i64])]
def axf:bi:=[[some .aV]]
def MB (NN:Nat):((aa×(Int×Int))×Int)->(Option (Bool×(aa×(Int×Int)))):=
 (fun(((l0,i1,i2),i3):((aa×(Int×Int))×Int))=>
 (vA ((l0,i1,i2),i3)).ae (fun(i4,l5,i6,i7)=>
 some (c6 i4 (0:Int),l5,i6,i7)))
def Ao:((aa×(Int×Int))×Int)->(Option (Bool×(aa×(Int×Int)))):=MB aI
theorem aqW (x:((aa×(Int×Int))×Int)) (z:(Bool×(aa×(Int×Int)))) (h:Ao x=some z):MB aI x=some z:=h
def Og:aq:=[(.ptr,[.list [.int .u8],.int .i64,.int .i64]),(.one,[.list [.int .i64]])]
def ZY:aq:=[(.one,[.int .i64]),(.ptr,[.list [.int .u8],.int .i64,.int .i64])]
def axg:bi:=[[some .aV]]
def MC (NN:Nat):((aa×(Int×Int))×aa)->(Option (Int×(aa×(Int×Int)))):=
 (fun(((l0,i1,i2),l3):((aa×(Int×Int))×aa))=>
 (vA ((l0,i1,i2),aW (af l3))).ae (fun(i4,l5,i6,i7)=>
 (cW l3 i4).ae (fun i8=>
 some (i8,l5,i6,i7))))
def Fi:((aa×(Int×Int))×aa)->(Option (Int×(aa×(Int×Int)))):=MC aI
theorem aqX (x:((aa×(Int×Int))×aa)) (z:(Int×(aa×(Int×Int)))) (h:Fi x=some z):MC aI x=some z:=h
def N9:aq:=[(.one,[.list [.int .u8]]),(.one,[.int .i64])]
def ZR:aq:=[(.one,[.int .i64])]
def aw9:bi:=[[some .aV]]
def Mv (NN:Nat):(aa×Int)->(Option Int):=
 (fun((l0,i1):(aa×Int))=>
 (wW (l0,i1)).ae (fun(l2,i3,i4)=>
 (An (l2,i3,i4)).ae (fun(i5,l6,i7,i8)=>
 (An (l6,i7,i8)).ae (fun(i9,cR,fj,ef)=>
 some (bE .i64 (cV .i64 (256:Int) i5) i9)))))
def Fe:(aa×Int)->(Option Int):=Mv aI
theorem aqP (x:(aa×Int)) (z:Int) (h:Fe x=some z):Mv aI x=some z:=h
def Ob:aq:=[(.one,[.list [.int .u8]]),(.one,[.int .i64]),(.one,[.int .i64]),(.one,[.int .i64])]
def ZT:aq:=[(.one,[.int .i64])]
def axb:bi:=[[some .aV]]
def Mx (NN:Nat):(aa×(Int×(Int×Int)))->(Option Int):=
 (fun((l0,i1,i2,i3):(aa×(Int×(Int×Int))))=>
 (Fe (l0,i1)).ae (fun i4=>
 (gJ i4 (bE .i64 (iy .i64 i3 i2) (1:Int))).ae (fun i5=>
 some (bE .i64 i2 i5))))
def Fg:(aa×(Int×(Int×Int)))->(Option Int):=Mx aI
theorem aqR (x:(aa×(Int×(Int×Int)))) (z:Int) (h:Fg x=some z):Mx aI x=some z:=h
def Oa:aq:=[(.one,[.list [.int .u8]]),(.one,[.int .i64])]
def ZS:aq:=[(.one,[.int .i64])]
def axa:bi:=[[some .aV]]
def Mw (NN:Nat):(aa×Int)->(Option Int):=
 (fun((l0,i1):(aa×Int))=>
 (wW (l0,i1)).ae (fun(l2,i3,i4)=>
 (dW (((2:Int)::((3:Int)::((7:Int)::((101:Int)::((1000003:Int)::([]:aa))))))) 5).ae (fun l5=>
 (Fi ((l2,i3,i4),l5)).ae (fun(i6,l7,i8,i9)=>
 some i6))))
def Ff:(aa×Int)->(Option Int):=Mw aI
theorem aqQ (x:(aa×Int)) (z:Int) (h:Ff x=some z):Mw aI x=some z:=h
theorem TK (c:Cu) (h:mf c):∃x c',An c=some (x,c')/\(0<=x/\x<=255)/\mf c':=by
 obtain⟨l,i,k⟩:=c;obtain⟨h0,h1⟩:=h;dsimp only at h0 h1;obtain⟨i,rfl⟩:=gI h0;obtain⟨s1,e1⟩:∃s,yi .i64 (bE .i64 (cV .i64 k (6364136223846793005:Int)) (1442695040888963407:Int)) (33:Int)=some s:=⟨_,if_neg (by decide)⟩;obtain⟨s2,e2⟩:∃s,yi .i64 (bE .i64 (cV .i64 k (6364136223846793005:Int)) (1442695040888963407:Int)) (45:Int)=some s:=⟨_,if_neg (by decide)⟩;simp only[An,Mz];rw[e1,e2];simp only[Option.ae,Option.bind];by_cases hc:i<l.length
 ·rw[bk (dY (by unfold aW af;omega))];rw[e9,zab hc];simp only[ct,Option.bind];refine⟨_,_,rfl,ab6 _,?_,h1⟩;dsimp only
  rw[f7 (by omega) (by omega)];omega
 ·rw[bh (dL (by unfold aW af;omega))];simp only[ct,Option.bind];exact⟨_,_,rfl,ab6 _,h0,h1⟩
theorem Fw (c:Cu) (n:Int) (h:mf c) (hn:1<=n):∃x c',vA (c,n)=some (x,c')/\(0<=x/\x<n)/\x<=255/\mf c':=by
 obtain⟨l,i,k⟩:=c;obtain⟨x,⟨l',i',k'⟩,e,hx,hc⟩:=TK _ h;simp only[vA,My];rw[bh (DZ (by omega)),e];simp only[Option.ae,Option.bind];rw[wG hx.1 (by omega)];refine⟨_,_,rfl,⟨za8 _ (by omega),zaF _ (by omega)⟩,?_,hc⟩;have:=zaF x (show 0<n by omega);by_cases hl:x<n
 ·rw[za1 hx.1 hl];omega
 ·omega
theorem X8 (c:Cu) (n:Int) (h:mf c) (hn:1<=n):∃b c',Ao (c,n)=some (b,c')/\mf c':=by
 obtain⟨l,i,k⟩:=c;obtain⟨x,⟨l',i',k'⟩,e,_,_,hc⟩:=Fw _ n h hn;simp only[Ao,MB];rw[e];exact⟨_,_,rfl,hc⟩
theorem aAl (c:Cu) (l:aa) (h:mf c) (h1:l≠[]) (h2:l.length<=100):∃x c',Fi (c,l)=some (x,c')/\x∈l/\mf c':=by
 obtain⟨cl,i,k⟩:=c;have hl:1<=l.length:=by rcases l with _|⟨a,l⟩<;>simp_all
 obtain⟨x,⟨l',i',k'⟩,e,hx,_,hc⟩:=Fw (cl,i,k) (aW (af l)) h (by unfold aW af;omega);simp only[Fi,MC];rw[e];simp only[Option.ae,Option.bind];obtain⟨j,rfl⟩:=gI hx.1;have hj:j<l.length:=by unfold aW af at hx;omega
 rw[e9,zab hj];exact⟨_,_,rfl,za2 hj,hc⟩
theorem ay1 (l:aa) (h:l.length<=1048576):∃c,Fh l=some c/\mf c:=by
 simp only[Fh,MA];generalize hL:cq aI _ _=o;obtain⟨r,rfl,z,rfl⟩:∃r,o=some r/\∃z,r=Sum.inl (l,z):=by
  rw[<-hL];refine Hd (min l.length 4000) (fun i (x:aa×Int×Int)=>x.1=l/\x.2.2=(i:Int)) _ ?_ ?_ ⟨rfl,rfl⟩ (dt (by omega))
  ·intro i x hi hx;obtain⟨l1,i2,i3⟩:=x;dsimp only at hx⊢;obtain⟨rfl,rfl⟩:=hx;rw[bk (dY (by unfold aW af;omega)),bk (dY (by omega)),e9,zab (by omega)];exact⟨_,rfl,rfl,f7 (by omega) (by omega)⟩
  ·intro x hx;obtain⟨l1,i2,i3⟩:=x;dsimp only at hx⊢;obtain⟨rfl,rfl⟩:=hx;by_cases hc:l1.length<=4000
   ·rw[bh (dL (by unfold aW af;omega))];exact⟨_,rfl,_,rfl⟩
   ·rw[bk (dY (by unfold aW af;omega)),bh (dL (by omega))];exact⟨_,rfl,_,rfl⟩
 exact⟨_,rfl,Int.le_refl _,h⟩
theorem IE (l:aa) (n:Int) (h:l.length<=1048576) (hn:0<=n):∃c,wW (l,n)=some c/\mf c:=by
 obtain⟨⟨l',i',k'⟩,e,hc⟩:=ay1 l h;simp only[wW,MH];rw[e];refine⟨_,rfl,?_,hc.2⟩;dsimp only
 rw[ahf];unfold aW af;omega
theorem azb (l:aa) (n:Int) (h:l.length<=1048576) (hn:0<=n):∃x,Fe (l,n)=some x/\(0<=x/\x<=65535):=by
 obtain⟨⟨l',i',k'⟩,e,hc⟩:=IE l n h hn;obtain⟨x,⟨l1,i1,k1⟩,e1,hx,hc⟩:=TK _ hc;obtain⟨y,⟨l2,i2,k2⟩,e2,hy,hc⟩:=TK _ hc;simp only[Fe,Mv];rw[e];simp only[Option.ae,Option.bind];rw[e1];simp only[Option.bind];rw[e2];refine⟨_,rfl,?_⟩;rw[qa (by omega) (by omega),f7 (by omega) (by omega)];omega
theorem aB6 (l:aa) (n lo hi:Int) (h:l.length<=1048576) (hn:0<=n) (h0:0<=lo) (h1:lo<=hi) (h2:hi<=1048576):∃x,Fg (l,n,lo,hi)=some x/\(lo<=x/\x<=hi):=by
 obtain⟨x,e,hx⟩:=azb l n h hn;simp only[Fg,Mx];rw[e];simp only[Option.ae,Option.bind];rw[oH (by omega) (by omega),f7 (by omega) (by omega),wG hx.1 (by omega)];have a:=za8 x (show hi - lo+1≠0 by omega);have b:=zaF x (show 0<hi - lo+1 by omega);refine⟨_,rfl,?_⟩;rw[f7 (by omega) (by omega)];omega
theorem aAv (l:aa) (n:Int) (h:l.length<=1048576) (hn:0<=n):∃x,Ff (l,n)=some x/\x∈[(2:Int),3,7,101,1000003]:=by
 obtain⟨⟨l',i',k'⟩,e,hc⟩:=IE l n h hn;obtain⟨x,⟨l1,i1,k1⟩,e1,hx,hc⟩:=aAl _ [(2:Int),3,7,101,1000003] hc (by simp) (by simp);simp only[Ff,Mw];rw[e];simp only[Option.ae,Option.bind,dW,zag,zah,zaf,if_true,List.take];rw[e1];exact⟨_,rfl,hx⟩
def agA (x:Int×mJ×mJ):Prop:=eW x.1/\sC x.2.1/\sC x.2.2/\(x.2.1.1*x.2.2.1<=4096/\x.2.1.2.1*x.2.2.2.1<=4096)/\(x.2.1.1*x.2.2.1)*(x.2.1.2.1*x.2.2.2.1)<=1048576/\eZ x.1 x.2.1.2.2/\eZ x.1 x.2.2.2.2
instance (x:Int×mJ×mJ):Decidable (agA x):=by unfold agA;infer_instance
section
variable {p:Int} {r c s d:Nat} {A B:bC}
end
section
variable {p:Int} {n m:Nat} {a b a2 b2:aa} {ms XP:List mJ}
end
theorem adb (p:Int) (f g:Nat->Int):∀n,iR p f g n=sm n (fun t=>f t*g t)%p
 |0=>by simp[iR,sm]
 |n+1=>by simp only[iR,sm];rw[adb p f g n,zbE]
theorem zS (c:Int) (f:Nat->Int):∀n,sm n (fun t=>c*f t)=c*sm n f
 |0=>by simp[sm]
 |n+1=>by simp only[sm];rw[zS c f n,Int.mul_add]
theorem alK (c:Int) (f:Nat->Int) (n:Nat):sm n (fun t=>f t*c)=sm n f*c:=by
 rw[zbf,<-zS];exact lE fun i _=>zbf _ _
theorem RB (f g:Nat->Int):∀n,sm n (fun t=>f t+g t)=sm n f+sm n g
 |0=>by simp[sm]
 |n+1=>by simp only[sm];rw[RB f g n];omega
theorem RE (f:Nat->Nat->Int) (m:Nat):∀n,sm n (fun i=>sm m (fun j=>f i j))=sm m (fun j=>sm n (fun i=>f i j))
 |0=>by simp only[sm];exact(yj m fun _ _=>rfl).symm
 |n+1=>by simp only[sm];rw[RE f m n,<-RB]
abbrev Wd:=aa
structure BI (p:Int) (n t:Nat) (S:List Wd×aa) (q:List Wd):Prop where
 dl:S.2.length=S.1.length*n
 dp:eZ p S.2
 kn:S.1.length<=n
 qo:∀w∈q,Sb t w/\w.length<=S.1.length
 wo:∀w∈S.1,Sb t w/\w.length<=n
section
variable {p:Int} {n:Nat} {s b:aa} {ms:List mJ}
theorem BI.no {S:List Wd×aa} {w:Wd} {q:List Wd} (h:BI p n ms.length S (w::q)):BI p n ms.length S q:=⟨h.dl,h.dp,h.kn,fun v hv=>h.qo v (by simp[hv]),h.wo⟩
end
theorem aCO {α:Type} {l:List α} {n:Nat} (h:n=l.length):dW l n=some l:=by subst h;unfold dW;rw[if_pos (zaf _),zan]
section
variable {p:Int} {n:Nat} {s b:aa} {ms:List mJ}
end
section
variable {p:Int} {n:Nat} {s b:aa} {ms:List mJ}
end
def alT (x:Int×mJ×mJ):Prop:=eW x.1/\(0<=x.2.1.1/\x.2.1.1<=x.2.1.2.1/\x.2.1.2.1<=12)/\(0<=x.2.2.1/\x.2.2.1<=12)/\x.2.2.2.1=x.2.1.2.1/\(x.2.1.2.2.length=x.2.1.1.toNat*x.2.1.2.1.toNat/\x.2.2.2.2.length=x.2.2.1.toNat*x.2.1.2.1.toNat)/\eZ x.1 x.2.1.2.2/\eZ x.1 x.2.2.2.2
instance (x:Int×mJ×mJ):Decidable (alT x):=by unfold alT;infer_instance


def Tr (p:Int) (M:bC) (i j:Nat):Prop:=(M i j+M j i)%p=0/\(i=j->M i j=0)
instance (p:Int) (M:bC) (i j:Nat):Decidable (Tr p M i j):=by unfold Tr;infer_instance
def ab4 (p:Int) (M:bC) (i:Nat):Prop:=∀j,j<i+1->Tr p M i j
instance (p:Int) (M:bC) (i:Nat):Decidable (ab4 p M i):=by unfold ab4;infer_instance
def cg (p a b:Int):Prop:=∃q,a=b+p*q
theorem cg.refl (p a:Int):cg p a a:=⟨0,by simp⟩
theorem FQ (p a:Int):cg p (a%p) a:=⟨-(a/p),by have:=Int.emod_add_mul_ediv a p;have e:=Int.mul_neg p (a/p);omega⟩
theorem cg.trans {p a b c:Int} (h:cg p a b) (h':cg p b c):cg p a c:=by
 obtain⟨q,rfl⟩:=h;obtain⟨q',rfl⟩:=h';exact⟨q'+q,by rw[Int.mul_add];omega⟩
theorem cg.symm {p a b:Int} (h:cg p a b):cg p b a:=by
 obtain⟨q,rfl⟩:=h;exact⟨-q,by rw[Int.mul_neg];omega⟩
theorem cg.add {p a b c d:Int} (h:cg p a b) (h':cg p c d):cg p (a+c) (b+d):=by
 obtain⟨q,rfl⟩:=h;obtain⟨q',rfl⟩:=h';exact⟨q+q',by grind⟩
theorem cg.mul {p a b c d:Int} (h:cg p a b) (h':cg p c d):cg p (a*c) (b*d):=by
 obtain⟨q,rfl⟩:=h;obtain⟨q',rfl⟩:=h';exact⟨q*d+b*q'+p*q*q',by grind⟩
theorem adl {p a b:Int} (h:cg p a b) (ha:fx p a) (hb:fx p b):a=b:=by
 obtain⟨q,hq⟩:=h;have h1:=ha.1;have h2:=ha.2;have h3:=hb.1;have h4:=hb.2;have hp:0<p:=by omega
 rcases Int.lt_trichotomy q 0 with h|h|h
 ·have:p*q<=p*(-1):=za3 (by omega) (by omega);omega
 ·subst h;omega
 ·have:p*1<=p*q:=za3 (by omega) (by omega);omega
section
variable {p inv:Int} {n k:Nat} {A:bC}
end
section
variable {p:Int} {n:Nat} {M:bC}
end
section
variable {p:Int} {n:Nat} {M:bC}
end

section
variable {p:Int} {n m:Nat} {a b a2 b2:aa} {ms XP:List mJ}
theorem alt {α:Type} (l r:List α) (v x:α) (k:Nat) (hk:k=l.length):bo (l++v::r) k x=l++x::r:=by
 subst hk;unfold bo;rw[List.set_append_right _ _ (zaf _),zbG];rfl
end
def rG:Nat->aa->aa
 |0,l=>l
 |k+1,l=>if l.getD (k+1) 0<l.getD k 0 then rG k (bo (bo l (k+1) (l.getD k 0)) k (l.getD (k+1) 0)) else l
def iw (l:aa):Nat->aa
 |0=>l
 |i+1=>rG i (iw l i)
def LZ:aa->Option aa:=fun l=>if l.length<=12 then some (iw l l.length) else none
def Iq:Int->Option Int:=fun x=>if 0<=x/\x<=18446744073709551615 then some ((Go.Lib.bitLen x.toNat:Nat):Int) else none
def Cm:Int->Option Bool:=fun _=>some false
def Io:Int×Int->Option Bool:=fun x=>some (cj x.1 x.2)
def Ak:aa×Int×Int->Option aa:=fun x=>if x.2.1=0/\x.2.2=x.1.length/\x.1.length<=12 then some (iw x.1 x.1.length) else none
def Fa:aa×Int×Int×Int->Option aa:=fun x=>Ak (x.1,x.2.1,x.2.2.1)
def E9:aa->Option aa:=LZ
def E7:aa->Option aa:=LZ
def anj:aq:=[(.one,[.int .u64])]
def aBd:aq:=[(.one,[.int .i64])]
def aw5:bi:=[]
def MR:aq:=[(.one,[.int .i64])]
def YH:aq:=[(.one,[.bool])]
def av8:bi:=[]
def MQ:aq:=[(.one,[.int .i64]),(.one,[.int .i64])]
def YG:aq:=[(.one,[.bool])]
def av7:bi:=[]
def N4:aq:=[(.one,[.list [.int .i64]]),(.one,[.int .i64]),(.one,[.int .i64])]
def ZM:aq:=[(.one,[.list [.int .i64]])]
def QN:bi:=[[some .aZ]]
def N5:aq:=[(.one,[.list [.int .i64]]),(.one,[.int .i64]),(.one,[.int .i64]),(.one,[.int .i64])]
def ZN:aq:=[(.one,[.list [.int .i64]])]
def QO:bi:=[[some .aZ]]
def N3:aq:=[(.one,[.list [.int .i64]])]
def ZL:aq:=[(.one,[.list [.int .i64]])]
def QM:bi:=[[some .aZ]]
def NW:aq:=[(.one,[.list [.int .i64]])]
def ZD:aq:=[(.one,[.list [.int .i64]])]
def awX:bi:=[]
def Su (NN:Nat):Int->(Option Bool):=
 (fun(i0:Int)=>
 some (iF i0 i0))
def Ss (NN:Nat):(Int×Int)->(Option Bool):=
 (fun((i0,i1):(Int×Int))=>
 (Cm i0).ae (fun b2=>
 aD (b2)
 ((Cm i1).ae (fun b3=>
 aD (d9 b3)
 (some true)
 (some (cj i0 i1))))
 (some (cj i0 i1))))
def Te (NN:Nat):(aa×(Int×Int))->(Option aa):=
 (fun((l0,i1,i2):(aa×(Int×Int)))=>
 ai l0 (
 cq NN (fun(((i3,i4,i5),l6):((Int×(Int×Int))×aa))=>
 aD (cj i5 i4)
 (ct (ai l6 (
 cq NN (fun(((i7,i8,i9,cX),cE):((Int×(Int×(Int×Int)))×aa))=>
 aD (cj i7 cX)
 ((c7 cX (af cE)).ae (fun si=>
 (cA cE (aJ 0 si)).ae (fun fR=>
 (c7 (iy .i64 cX 1) (af cE)).ae (fun GQ=>
 (cA cE (aJ 0 GQ)).ae (fun gx=>
 (Io (fR,gx)).ae (fun b16=>
 aD (b16)
 ((c7 (iy .i64 cX 1) (af cE)).ae (fun k17=>
 (cA cE (aJ 0 k17)).ae (fun fS=>
 (c7 cX (af cE)).ae (fun Kl=>
 (cA cE (aJ 0 Kl)).ae (fun ff=>
 (c7 cX (af cE)).ae (fun uL=>
 (cA cE (aJ 0 uL)).ae (fun gG=>
 (c7 (iy .i64 cX 1) (af cE)).ae (fun Kn=>
 (cA (bo cE (aJ 0 uL) fS) (aJ 0 Kn)).ae (fun gm=>
 (bn 0 (af cE) (af (bo (bo cE (aJ 0 uL) fS) (aJ 0 Kn) ff))).ae (fun _=>
 some (Sum.inl ((i7,i8,i9,iy .i64 cX 1),bo (bo cE (aJ 0 uL) fS) (aJ 0 Kn) ff))))))))))))
 ((ai cE (
 some (Sum.inl ((i9,i7,i8),cE)))).ae (fun iD=>
 some (Sum.inr iD)))))))))
 ((ai cE (
 some (Sum.inl ((i9,i7,i8),cE)))).ae (fun ia=>
 some (Sum.inr ia))))
 ((i3,i4,i5,i5),l6)))
 (fun((ij,lx,kH),kL)=>
 ai kL (
 some (Sum.inl ((lx,kH,bE .i64 ij 1),kL)))))
 (((kR (af l6) (af l0)).ae (fun _=>
 some l6)).ae (fun iU=>
 some (Sum.inr iU))))
 ((i1,i2,bE .i64 i1 1),l0)))
def Tf (NN:Nat):(aa×(Int×(Int×Int)))->(Option aa):=
 (fun((l0,i1,i2,i3):(aa×(Int×(Int×Int))))=>
 ai l0 (
 cq NN (fun(((i4,i5,i6,b7,b8),l9):((Int×(Int×(Int×(Bool×Bool))))×aa))=>
 aD (ir (iy .i64 i5 i4) (12:Int))
 (ai l9 (
 (Ak (l9,i4,i5)).ae (fun cR=>
 ((kR (af cR) (af l0)).ae (fun _=>
 some cR)).ae (fun cE=>
 some (Sum.inr cE)))))
 (aD (c6 i6 (0:Int))
 (none)
 (ct (aD (d9 b7)
 (none)
 (ai l9 (
 some (Sum.inl ((b8,b7,iy .i64 i5 i4,i5,i4,i6),l9)))))
 (fun((Tv,Ft,fk,gx,fI,fB),gA)=>
 none))))
 ((i1,i2,i3,true,true),l0)))
def Td (NN:Nat):aa->(Option aa):=
 (fun(l0:aa)=>
 (Iq (C0 .u64 (aW (af l0)))).ae (fun i1=>
 ai l0 (
 (Fa (l0,(0:Int),aW (af l0),i1)).ae (fun l2=>
 (kR (af l2) (af l0)).ae (fun _=>
 some l2)))))
def Ta (NN:Nat):aa->(Option aa):=
 (fun(l0:aa)=>
 (j9 l0).ae (fun l1=>
 ai l1 (
 (E9 l1).ae (fun l2=>
 (dW l2 (af l1)).ae (fun l3=>
 some l3)))))
theorem alA:∀(k:Nat) (l:aa),(rG k l).length=l.length
 |0,_=>rfl
 |k+1,l=>by
  unfold rG;split
  ·rw[alA k];simp[bo]
  ·rfl
theorem Ey (l:aa):∀i,(iw l i).length=l.length
 |0=>rfl
 |i+1=>by unfold iw;rw[alA,Ey l i]
theorem alS {l:aa} {k:Nat} (h:k<l.length):cA l (aJ 0 k)=some (l.getD k 0):=by
 rw[gE];show l[k]? =_;rw[zaa,zab h];rfl
theorem aCa {l:aa} {k:Nat} (v:Int) (h:k+1<l.length):cA (bo l (aJ 0 (k+1)) v) (aJ 0 k)=some (l.getD k 0):=by
 rw[gE,gE];show(l.set (k+1) v)[k]? =_;rw[za4 (by omega),zaa,zab (by omega)];rfl
theorem aCb {l:aa} {k:Nat} (v:Int) (h:k+1<l.length):cA (bo l (k+1) v) k=some (l.getD k 0):=by
 have:=aCa v h;rwa[gE,gE] at this
theorem alR {l:aa} {k:Nat} (h:k<l.length):c7 (k:Int) (af l)=some k:=pI h
theorem aCd {k:Nat} (h:k<=1000):iy .i64 ((k+1:Nat):Int) 1=(k:Int):=by rw[oH (by omega) (by omega)];omega
theorem aCc {l:aa} {k:Nat} (h:k+1<l.length):∃p q a b,l=p++a::b::q/\p.length=k/\l.getD k 0=a/\l.getD (k+1) 0=b:=by
 refine⟨l.take k,l.drop (k+2),l[k],l[k+1],?_,by rw[zaS];omega,?_,?_⟩
 ·have h1:=zak (l:=l) (i:=k) (by omega);have h2:=zak (l:=l) (i:=k+1) (by omega);rw[<-h2,<-h1,zbo]
 ·rw[zaa,zab (by omega)];rfl
 ·rw[zaa,zab (by omega)];rfl
theorem alB:∀(k:Nat) (l:aa),k<l.length->(rG k l).Perm l
 |0,_,_=>zbz _
 |k+1,l,h=>by
  unfold rG;split
  ·refine(alB k _ (by simp[bo];omega)).trans ?_;obtain⟨p,q,a,b,e,hp,ha,hb⟩:=aCc (l:=l) (k:=k) h;rw[ha,hb];subst e;have e1:bo (p++a::b::q) (k+1) a=p++a::a::q:=by
    have:=alt (p++[a]) q b a (k+1) (by simp[hp]);simpa using this
   rw[e1,alt p (a::q) a b k hp.symm];exact(List.Perm.swap a b q).append_left p
  ·exact zbz _
theorem alV (l:aa):∀i,i<=l.length->(iw l i).Perm l
 |0,_=>zbz _
 |i+1,h=>by unfold iw;exact(alB i _ (by rw[Ey];omega)).trans (alV l i (by omega))
theorem apA (x:Int) (y:Bool) (h:Cm x=some y):Su aI x=some y:=by
 rw[<-h];simp[Su,Cm,iF]
theorem apz (x:Int×Int) (y:Bool) (h:Io x=some y):Ss aI x=some y:=by
 obtain⟨a,b⟩:=x;rw[<-h];simp only[Ss,Cm,dm];rw[bh (by rfl)];rfl
theorem aqK (x:aa×Int×Int) (y:aa) (h:Ak x=some y):Te aI x=some y:=by
 obtain⟨x,a,b⟩:=x;simp only[Ak] at h;split at h
 ·rename_i hc;rw[<-h];obtain⟨ha,hb,hl⟩:=hc
  try dsimp only at ha hb hl
  subst ha hb;simp only[Te,bF,dm,ai];rw[f7 (by omega) (by omega)];have h0:iw x 1=x:=rfl;by_cases hx:x.length=0
  ·rw[eJ (fun i=>(((0:Int),(x.length:Int),(1:Int)),x)) 0 ?a1 ?a2 ?a3 (dt (by omega))]
   case a3=>rfl
   case a2=>
    dsimp only
    rw[bh (dL (by omega)),wK rfl,hx];rfl
   case a1=>intro i hi;omega
  ·rw[eJ (fun i=>(((0:Int),(x.length:Int),((i+1:Nat):Int)),iw x (i+1))) (x.length - 1) ?a1 ?a2 ?a3 (dt (by omega))]
   case a3=>rfl
   case a2=>
    dsimp only
    rw[bh (dL (by omega)),wK (by show(iw x _).length=_;rw[Ey];rfl),show x.length - 1+1=x.length by omega];rfl
   case a1=>
    intro i hi;dsimp only
    rw[bk (dY (by omega))]
    try simp only[bF,dm]
    have hL:=Ey x (i+1);rw[ag6 (r:=Sum.inl ((((i+1:Nat):Int),(0:Int),(x.length:Int)),rG (i+1) (iw x (i+1)))) (fun m z=>∃l',z=(((0:Int),(x.length:Int),((i+1:Nat):Int),(m:Int)),l')/\l'.length=x.length/\m<x.length/\rG m l'=rG (i+1) (iw x (i+1))) ?b1 (i+1) _ ⟨_,rfl,hL,by omega,rfl⟩ aI (dt (by omega))]
    case b1=>
     rintro m z ⟨l',rfl,h1,h2,h3⟩;dsimp only
     cases m with
     |zero=>
      left;rw[bh (dL (by omega))]
      try simp only[bF,dm]
      rw[<-h3];rfl
     |succ m=>
      have hm:m<l'.length:=by omega
      have mR:m+1<l'.length:=by omega
      rw[bk (dY (by omega)),aCd (by omega),alR hm,alR mR];simp only[dm,alS hm,alS mR,Io];by_cases cC:l'.getD (m+1) 0<l'.getD m 0
      ·right;rw[bk (dY cC)];simp only[dm,gE,aCb _ mR];have e:rG (m+1) l'=rG m (bo (bo l' (m+1) (l'.getD m 0)) m (l'.getD (m+1) 0)):=if_pos cC;rw[show bn 0 (af l') (af (bo (bo l' (m+1) (l'.getD m 0)) m (l'.getD (m+1) 0)))=some () from vQ (by simp[af,bo])]
       try simp only[dm]
       exact⟨m,_,by omega,rfl,_,rfl,by simpa[bo] using h1,by omega,by rw[<-e];exact h3⟩
      ·left;rw[bh (dL (by omega))]
       try simp only[bF,dm]
       rw[<-h3,show rG (m+1) l'=l' from if_neg cC]
    simp only[ct,Option.bind,bF,dm];rw[f7 (by omega) (by omega)];rfl
 ·cases h
theorem aqL (x:aa×Int×Int×Int) (y:aa) (h:Fa x=some y):Tf aI x=some y:=by
 obtain⟨x,a,b,sy⟩:=x;have h':Ak (x,a,b)=some y:=h;simp only[Fa,Ak] at h;split at h
 ·rename_i hc;injection h with h;obtain⟨ha,hb,hl⟩:=hc
  try dsimp only at ha hb hl
  subst ha hb;simp only[Tf,bF,dm,ai];rw[eJ (fun _=>(((0:Int),(x.length:Int),sy,true,true),x)) 0 ?a1 ?a2 ?a3 (dt (by omega))]
  case a3=>rfl
  case a1=>intro i hi;omega
  case a2=>
   dsimp only
   rw[oH (by omega) (by omega),bk (wA (by omega))]
   try simp only[bF,dm]
   rw[h']
   try simp only[dm]
   rw[wK (by rw[<-h];exact Ey x _)]
   try simp only[dm]
 ·cases h
theorem aqJ (x:aa) (y:aa) (h:E9 x=some y):Td aI x=some y:=by
 simp only[E9,LZ] at h;split at h
 ·rename_i hl;rw[<-h];simp only[Td,bF,ai];have hc:C0 .u64 (aW (af x))=(x.length:Int):=by
   show C0 .u64 (x.length:Int)=_;unfold C0;simp[IntKind.wrap,IntKind.bits,IntKind.signed];omega
  rw[hc,show Iq (x.length:Int)=some ((Go.Lib.bitLen ((x.length:Int).toNat):Nat):Int) from if_pos ⟨by omega,by omega⟩]
  try simp only[dm]
  rw[show Fa (x,(0:Int),aW (af x),_)=some (iw x x.length) from if_pos ⟨rfl,rfl,hl⟩]
  try simp only[dm]
  rw[show kR (af (iw x x.length)) (af x)=some () from wK (Ey x _)]
  try simp only[dm]
 ·cases h
theorem aqB (x:aa) (y:aa) (h:E7 x=some y):Ta aI x=some y:=by
 simp only[E7,LZ] at h;split at h
 ·rename_i hl;rw[<-h];simp only[Ta,ai];rw[show j9 x=some x from if_pos (by omega)]
  simp only[dm,bF];rw[show E9 x=some (iw x x.length) from if_pos hl]
  try simp only[dm]
  rw[aCQ (n:=af x) (Ey x _)];rfl
 ·cases h
def sN (f:Nat->Nat):Nat->Nat
 |0=>0
 |q+1=>sN f q+f q
def fY (L D S:aa):aa:=bB S.length fun i=>D.getD (bS L (S.getD i 0)) 0
def gP (L D S:aa) (n:Nat) (v:Int):Nat:=(fM (fY L D S) n (bS S v)).toNat*bQ D (bS L v+1)
def mG (L D S:aa) (n:Nat):Nat:=sN (fun i=>gP L D S n (S.getD i 0)) S.length
def qW (r:Rg) (A:aa) (off:Nat->Nat):Nat->aa
 |0=>[]
 |n+1=>qW r A off n++lZ A (off n*cI r) (cI r)
def zH (r:Rg) (t:T3) (S:aa):T3:=(S,fY t.1 t.2.1 S,qW r t.2.2 (mG t.1 t.2.1 S) (aL (fY t.1 t.2.1 S)))
def Yi (x:Rg×T3×aa):Prop:=gB x.1 x.2.1=true/\x.2.2=iw x.2.1.1 x.2.1.1.length
instance (x:Rg×T3×aa):Decidable (Yi x):=by unfold Yi;infer_instance
def abF:Rg×T3×aa->Option T3:=fun x=>if Yi x then some (zH x.1 x.2.1 x.2.2) else none
def E1:Rg×T3×aa->Option T3:=abF
def ph (r:Rg) (t:T3):T3:=if gB r t=true then zH r t (iw t.1 t.1.length) else([],[],[])
def abz:Rg×T3->Option T3:=fun x=>if x.2.1.length<=1048576/\x.2.2.1.length<=1048576/\x.2.2.2.length<=1048576 then some (ph x.1 x.2) else none
def Ad:Rg×T3->Option T3:=abz
def wU:T3×Int->Option Int:=fun x=>if x.1.1.length<=1048576 then some (rR x.1.1 x.2) else none
def HP (l:aa) (b:Int):Prop:=l.length<=12/\∀x∈l,0<=x/\x<=b
instance (l:aa) (b:Int):Decidable (HP l b):=by unfold HP;infer_instance
def HQ (l:aa) (b:Int):Prop:=l.length<=24/\∀x∈l,0<=x/\x<=b
instance (l:aa) (b:Int):Decidable (HQ l b):=by unfold HQ;infer_instance
theorem HP.m {l:aa} {b:Int} (h:HP l b):HQ l b:=⟨zaG h.1 (by decide),h.2⟩
def vu:aa×aa->Option Int:=fun x=>if HQ x.1 1048576/\HQ x.2 8/\x.1.length=x.2.length then some ((sN (fun i=>(x.2.getD i 0).toNat*(x.1.getD i 0).toNat) x.1.length:Nat):Int) else none
def vm (L D S:aa):aa:=bB S.length fun i=>((bQ D (bS L (S.getD i 0)+1):Nat):Int)
def qf (L D S:aa):aa:=bB S.length fun i=>if bS L (S.getD i 0)<L.length then((bQ D (bS L (S.getD i 0)+1):Nat):Int) else 0
def t9:T3×aa->Option aa:=fun x=>if oN x.1.1 x.1.2.1=true/\x.2.length<=1000/\aL x.1.2.1<=4096 then some (qf x.1.1 x.1.2.1 x.2) else none
def abD:Rg×T3×Int->Option aa:=fun x=>if O8 x then some (lZ x.2.1.2.2 (x.2.2.toNat*cI x.1) (cI x.1)) else none
def sQ:Rg×T3×Int->Option aa:=abD
def Nk:aq:=[(.agg,[.list [.int .i64],.list [.int .i64],.list [.int .i64]]),(.one,[.int .i64])]
def Y5:aq:=[(.one,[.int .i64])]
def aws:bi:=[]
def Nr:aq:=[(.one,[.list [.int .i64]]),(.one,[.list [.int .i64]])]
def Zb:aq:=[(.one,[.int .i64])]
def awy:bi:=[]
def NJ:aq:=[(.agg,[.int .i64,.int .i64,.int .i64]),(.agg,[.list [.int .i64],.list [.int .i64],.list [.int .i64]]),(.one,[.int .i64])]
def Zr:aq:=[(.one,[.list [.int .i64]])]
def awL:bi:=[[some .aV]]
def SK (NN:Nat):((aa×(aa×aa))×Int)->(Option Int):=
 (fun(((l0,l1,l2),i3):((aa×(aa×aa))×Int))=>
 ct (cq NN (fun((i4,l5,i6,i7):(Int×(aa×(Int×Int))))=>
 aD (cj i7 i6)
 ((cW l5 i7).ae (fun i8=>
 aD (c6 i8 i4)
 (some (Sum.inr (Sum.inr i7)))
 (some (Sum.inl (i4,l5,i6,bE .i64 i7 1)))))
 (some (Sum.inr (Sum.inl ()))))
 (i3,l0,aW (af l0),(0:Int)))
 (fun _=>
 some ((-1:Int))))
def SP (NN:Nat):(aa×aa)->(Option Int):=
 (fun((l0,l1):(aa×aa))=>
 ct (cq NN (fun((l2,l3,i4,i5,i6):(aa×(aa×(Int×(Int×Int)))))=>
 aD (cj i6 i5)
 ((cW l2 i6).ae (fun i7=>
 (cW l3 i6).ae (fun i8=>
 some (Sum.inl (l2,l3,bE .i64 i4 (cV .i64 i7 i8),i5,bE .i64 i6 1)))))
 (some (Sum.inr (Sum.inl i4))))
 (l0,l1,(0:Int),aW (af l0),(0:Int)))
 (fun i9=>
 some i9))
def S3 (NN:Nat):((Int×(Int×Int))×((aa×(aa×aa))×Int))->(Option aa):=
 (fun(((i0,i1,i2),(l3,l4,l5),i6):((Int×(Int×Int))×((aa×(aa×aa))×Int)))=>
 (rK (i0,i1,i2)).ae (fun i7=>
 (kw (cV .i64 i6 i7) (cV .i64 (bE .i64 i6 1) i7) (af l5)).ae (fun(k8,k9)=>
 some (lZ l5 k8 k9))))
theorem ajP {f:Nat->Nat} {b:Nat}:∀q,(∀i,i<q->f i<=b)->sN f q<=q*b
 |0,_=>zbK _
 |q+1,h=>by
  have h1:=ajP (f:=f) (b:=b) q fun i hi=>h i (by omega);have h2:=h q (by omega);simp only[sN];rw[zat,zaT];omega
theorem Lc {f g:Nat->Nat}:∀q,(∀i,i<q->f i=g i)->sN f q=sN g q
 |0,_=>rfl
 |q+1,h=>by simp only[sN];rw[Lc q fun i hi=>h i (by omega),h q (by omega)]
theorem ajQ (g:Int->Nat) (l:aa):∀q,q<=l.length->sN (fun i=>g (l.getD i 0)) q=((l.take q).map g).sum
 |0,_=>by simp[sN]
 |q+1,h=>by
  simp only[sN];rw[ajQ g l q (by omega),List.take_succ_eq_append_getElem (by omega),zar,zbA,zaa,zab (by omega)];simp
theorem Rl (g:Int->Nat) (l:aa):sN (fun i=>g (l.getD i 0)) l.length=(l.map g).sum:=by
 rw[ajQ g l _ (zaf _),zan]
theorem aBr {S L:aa} (h:S.Perm L) (g:Int->Nat):sN (fun i=>g (S.getD i 0)) S.length=sN (fun i=>g (L.getD i 0)) L.length:=by
 rw[Rl,Rl];exact(h.map g).sum_nat
theorem qb {l:aa} {v:Int} (h:v∈l):bS l v<l.length:=by
 refine Nat.lt_of_le_of_ne (Hy l v) fun e=>?_;obtain⟨i,hi⟩:=List.getElem?_of_mem h;have hl:=(List.getElem?_eq_some_iff.1 hi).1;exact KT (by omega) hi
theorem Hx {l:aa} {v:Int} (h:v∈l):l.getD (bS l v) 0=v:=by
 rw[zaa,KS (qb h)];rfl
theorem gS {l:aa} {i:Nat} (h:i<l.length):l.getD i 0∈l:=by
 rw[zaa,zab h];exact za2 h
theorem rC {l:aa} (hn:l.Nodup) {i:Nat} (h:i<l.length):bS l (l.getD i 0)=i:=by
 have hm:=gS h;have h1:=qb hm;have h2:=KS h1;rw[zab h1] at h2;have e:l[bS l (l.getD i 0)]=l[i]:=by
  injection h2 with h2;rw[h2,zaa,zab h];rfl
 exact(List.getElem_inj hn).1 e
theorem Ow {L D:aa} (h:oN L D=true):L.Nodup:=by
 obtain⟨h1,h2,h3⟩:=rP h;rw[zbd,List.pairwise_iff_getElem];intro i j hi hj mQ e;have:=(h3 j hj).2.2;apply this;rw[zaa,zab hj];show L[j]∈L.take j;rw[<-e,List.mem_take_iff_getElem];exact⟨i,by omega,rfl⟩
structure kz (L D S:aa):Prop where
 p:S.Perm L
 nL:L.Nodup
 nS:S.Nodup
 len:L.length=D.length
 dO:L.length<=12
 iQ:∀x∈D,1<=x/\x<=8
theorem kz.mk' {L D S:aa} (h:oN L D=true) (hS:S=iw L L.length):kz L D S:=by
 have hp:S.Perm L:=by rw[hS];exact alV L _ (zaf _)
 obtain⟨h1,h2,h3⟩:=rP h;have hn:=Ow h;exact⟨hp,hn,hp.nodup_iff.2 hn,h2,h1,CP h⟩
section
variable {L D S:aa} (I:kz L D S)
include I
theorem kz.Lr:S.length=L.length:=I.p.length_eq
theorem kz.inv {q k:Nat} (hq:q<S.length) (hk:k<L.length):bS L (S.getD q 0)=k↔bS S (L.getD k 0)=q:=by
 have m1:S.getD q 0∈L:=I.p.mem_iff.1 (gS hq);have m2:L.getD k 0∈S:=I.p.mem_iff.2 (gS hk);constructor
 ·intro e;have:=Hx m1;rw[e] at this;rw[this,rC I.nS hq]
 ·intro e;have:=Hx m2;rw[e] at this;rw[this,rC I.nL hk]
theorem kz.CN {q:Nat} (hq:q<S.length):bS L (S.getD q 0)<L.length:=qb (I.p.mem_iff.1 (gS hq))
theorem kz.atS {k:Nat} (hk:k<L.length):bS S (L.getD k 0)<S.length:=qb (I.p.mem_iff.2 (gS hk))
theorem kz.jC:jC D:=⟨by have:=I.len;have:=I.dO;omega,fun x hx=>by have:=I.iQ x hx;omega⟩
theorem kz.aoJ:∀x∈fY L D S,1<=x/\x<=8:=by
 intro x hx;obtain⟨i,hi,rfl⟩:=zaH.1 hx;have:=I.CN (zaA.1 hi);exact I.iQ _ (gS (by have:=I.len;omega))
theorem kz.aoK:Am.jC (fY L D S):=⟨by show(bB _ _).length<=_;rw[dV,I.Lr];have:=I.dO;omega,fun x hx=>by have:=I.aoJ x hx;omega⟩
omit I in
theorem aAx {h:Int->Int} {S L:aa} (p:S.Perm L):aL (S.map h)=aL (L.map h):=by
 induction p with
 |nil=>rfl
 |cons x _ ih=>simp only[zav,aL,ih]
 |swap x y l=>simp only[zav,aL];rw[Nat.mul_left_comm]
 |trans _ _ h1 h2=>exact h1.trans h2
omit I in
theorem K5 (h:Int->Int) (l:aa):bB l.length (fun i=>h (l.getD i 0))=l.map h:=by
 apply zaP;intro i;by_cases hi:i<l.length
 ·rw[lD _ hi,zaB,zab hi,zaa,zab hi];rfl
 ·rw[zal (by rw[dV];omega),zal (by simp;omega)]
theorem kz.prod:aL (fY L D S)=aL D:=by
 have e1:fY L D S=S.map fun v=>D.getD (bS L v) 0:=K5 (fun v=>D.getD (bS L v) 0) S;have e2:L.map (fun v=>D.getD (bS L v) 0)=D:=by
  rw[<-K5 (fun v=>D.getD (bS L v) 0) L];apply zaP;intro i;by_cases hi:i<L.length
  ·rw[lD _ hi,rC I.nL hi,zaa,zab (by have:=I.len;omega)];rfl
  ·rw[zal (by rw[dV];omega),zal (by have:=I.len;omega)]
 rw[e1,aAx I.p,e2]
def sE (L D S:aa) (n:Nat):aa:=bB D.length fun k=>fM (fY L D S) n (bS S (L.getD k 0))
theorem kz.pd {i:Nat} (hi:i<S.length):(fY L D S).getD i 0=D.getD (bS L (S.getD i 0)) 0:=by
 unfold fY;rw[zaa,lD _ hi];rfl
theorem kz.ac4 (n:Nat) {i:Nat} (hi:i<S.length):0<=fM (fY L D S) n i/\fM (fY L D S) n i<D.getD (bS L (S.getD i 0)) 0:=by
 have hd:=I.iQ _ (gS (l:=D) (i:=bS L (S.getD i 0)) (by have:=I.CN hi;have:=I.len;omega));unfold fM;rw[I.pd hi];have:=zay (n/bQ (fY L D S) (i+1)) (show 0<(D.getD (bS L (S.getD i 0)) 0).toNat by omega);omega
omit I in
theorem X5 {D ix:aa} (h:∀k,k<D.length->(ix.getD k 0).toNat<(D.getD k 0).toNat):∀j,j<=D.length->(jO D ix j+1)*bQ D j<=aL D
 |0,_=>by simp[jO,bQ]
 |j+1,hj=>by
  have ih:=X5 h j (by omega);have hk:=h j (by omega);rw[tU (by omega),<-zaq] at ih;refine zaG (zas _ ?_) ih;simp only[jO];rw[zat,zaT];omega
omit I in
theorem X6 {D ix:aa}:∀j,j<=D.length->jO D ix j*bQ D j=sN (fun k=>(ix.getD k 0).toNat*bQ D (k+1)) j
 |0,_=>by simp[jO,sN]
 |j+1,hj=>by
  simp only[jO,sN];rw[<-X6 j (by omega),tU (i:=j) (by omega),zat,zaq]
theorem kz.aiX (n:Nat) {k:Nat} (hk:k<D.length):(sE L D S n).getD k 0=fM (fY L D S) n (bS S (L.getD k 0)):=by
 unfold sE;rw[zaa,lD _ hk];rfl
theorem kz.aze (n:Nat) {k:Nat} (hk:k<D.length):0<=(sE L D S n).getD k 0/\(sE L D S n).getD k 0<D.getD k 0:=by
 rw[I.aiX n hk];have dg:k<L.length:=by have:=I.len;omega
 have h1:=I.atS dg;have h2:=I.ac4 n h1;rw[(I.inv h1 dg).2 rfl] at h2;exact h2
theorem kz.off (n:Nat):jO D (sE L D S n) D.length=mG L D S n:=by
 have h1:=X6 (D:=D) (ix:=sE L D S n) D.length (zaf _);rw[tT,zam] at h1;rw[h1];unfold mG;rw[aBr I.p (gP L D S n),I.len];refine Lc _ fun k hk=>?_;rw[I.aiX n hk];unfold gP;rw[rC I.nL (by have:=I.len;omega)]
theorem kz.aiW (n:Nat):mG L D S n<aL D:=by
 have:=X5 (D:=D) (ix:=sE L D S n) (fun k hk=>by have:=I.aze n hk;omega) D.length (zaf _);rw[tT,zam,I.off n] at this;omega
end
theorem Rz {l:aa} {b:Int} (h:HQ l b) {i:Nat} (hi:i<l.length):∃a:Nat,l[i]? =some (a:Int)/\(l.getD i 0).toNat=a/\(a:Int)<=b:=by
 have:=h.2 _ (za2 hi);refine⟨l[i].toNat,?_,?_,by omega⟩
 ·rw[zab hi];congr 1;omega
 ·rw[zaa,zab hi];rfl
theorem ap8 (x:aa×aa) (y:Int) (h:vu x=some y):SP aI x=some y:=by
 obtain⟨s,ix⟩:=x;simp only[vu] at h;split at h
 ·rename_i hc;rw[<-h];obtain⟨h1,h2,he⟩:=hc
  try dsimp only at h1 h2 he
  simp only[SP];have hb:∀j,j<=s.length->sN (fun i=>(ix.getD i 0).toNat*(s.getD i 0).toNat) j<=j*8388608:=fun j hj=>ajP j fun i hi=>by
   obtain⟨a,_,a2,a3⟩:=Rz h1 (i:=i) (by omega);obtain⟨b,_,b2,b3⟩:=Rz h2 (i:=i) (by omega);rw[a2,b2];exact zad (show b<=8 by omega) (show a<=1048576 by omega)
  have hl:=h1.1;rw[eJ (fun j=>(s,ix,((sN (fun i=>(ix.getD i 0).toNat*(s.getD i 0).toNat) j:Nat):Int),(s.length:Int),(j:Int))) s.length ?a1 ?a2 ?a3 (dt (by omega))]
  case a3=>rfl
  case a2=>
   dsimp only
   rw[bh (dL (by omega))]
  case a1=>
   intro j hj;obtain⟨a,a1,a2,a3⟩:=Rz h1 (i:=j) (by omega);obtain⟨b,b1,b2,b3⟩:=Rz h2 (i:=j) (by omega);have uA:=hb j (by omega);have e:sN (fun i=>(ix.getD i 0).toNat*(s.getD i 0).toNat) (j+1)=sN (fun i=>(ix.getD i 0).toNat*(s.getD i 0).toNat) j+b*a:=by simp only[sN];rw[a2,b2]
   have hm:=zad (show b<=8 by omega) (show a<=1048576 by omega);dsimp only
   rw[bk (dY (by omega)),e9,e9,a1,b1];simp only[dm];rw[e,zai b a];rw[zai b a] at hm;rw[qa (by rw[<-zaI];omega) (by rw[<-zaI];omega),<-zaI,f7 (by omega) (by omega),f7 (by omega) (by omega)];rfl
  simp only[ct,Option.bind]
 ·cases h
theorem ap0 (x:T3×Int) (y:Int) (h:wU x=some y):SK aI x=some y:=by
 obtain⟨⟨L,D,A⟩,v⟩:=x;simp only[wU] at h;split at h
 ·rename_i hc;rw[<-h]
  try dsimp only at hc
  simp only[SK];unfold rR;by_cases hp:bS L v<L.length
  ·rw[if_pos hp];rw[eJ (r:=Sum.inr ((bS L v:Nat):Int)) (fun j=>(v,L,(L.length:Int),(j:Int))) (bS L v) ?a1 ?a2 ?a3 (dt (by omega))]
   case a3=>rfl
   case a2=>
    dsimp only
    rw[bk (dY (by omega)),e9,KS hp];simp only[dm];rw[bk (by simp[c6])]
   case a1=>
    intro j hj;dsimp only
    rw[bk (dY (by omega)),e9,zab (by omega)];simp only[dm];rw[bh (by
     have:=KT hj;rw[zab (by omega)] at this;simp only[c6,beq_eq_false_iff_ne,ne_eq];exact fun e=>this (congrArg some e)),f7 (by omega) (by omega)]
    rfl
   simp only[ct,Option.bind]
  ·rw[if_neg hp];have Be:bS L v=L.length:=by have:=Hy L v;omega
   rw[eJ (r:=Sum.inl ()) (fun j=>(v,L,(L.length:Int),(j:Int))) L.length ?a1 ?a2 ?a3 (dt (by omega))]
   case a3=>rfl
   case a2=>
    dsimp only
    rw[bh (dL (by omega))]
   case a1=>
    intro j hj;dsimp only
    rw[bk (dY (by omega)),e9,zab (by omega)];simp only[dm];rw[bh (by
     have:=KT (l:=L) (v:=v) (j:=j) (by omega);rw[zab (by omega)] at this;simp only[c6,beq_eq_false_iff_ne,ne_eq];exact fun e=>this (congrArg some e)),f7 (by omega) (by omega)]
    rfl
   simp only[ct,Option.bind]
 ·cases h
theorem aqp (x:Rg×T3×Int) (y:aa) (h:sQ x=some y):S3 aI x=some y:=by
 obtain⟨⟨k,p,m⟩,⟨L,D,A⟩,n⟩:=x;simp only[sQ,abD] at h;split at h
 ·rename_i hc;rw[<-h];obtain⟨hr,h0,h1,h2⟩:=hc;dsimp only at hr h0 h1 h2;obtain⟨n,rfl⟩:=gI h0;have hw:=Cf hr;simp only[zac] at h1⊢;have oT:(n+1)*cI (k,p,m)=n*cI (k,p,m)+cI (k,p,m):=by rw[zat,zaT]
  have hn:n+1<=1048576:=by have:=Nat.le_mul_of_pos_right (n+1) (show 0<cI (k,p,m) by omega);omega
  simp only[S3,rK,dm];rw[hw.1,f7 (by omega) (by omega),show(n:Int)+1=((n+1:Nat):Int) by push_cast;rfl];rw[QP (a:=n) (b:=cI (k,p,m)) (by omega)];rw[QP (a:=n+1) (b:=cI (k,p,m)) (by omega)];rw[show kw ((n*cI (k,p,m):Nat):Int) (((n+1)*cI (k,p,m):Nat):Int) (af A)=some (n*cI (k,p,m),cI (k,p,m)) by
   unfold kw af;rw[if_pos ⟨by omega,by omega,by omega⟩];congr 2;omega]
  simp only[dm]
 ·cases h
def NX:aq:=[(.agg,[.list [.int .i64],.list [.int .i64],.list [.int .i64]]),(.one,[.list [.int .i64]])]
def ZE:aq:=[(.one,[.list [.int .i64]])]
def awY:bi:=[]
def Tb (NN:Nat):((aa×(aa×aa))×aa)->(Option aa):=
 (fun(((l0,l1,l2),l3):((aa×(aa×aa))×aa))=>
 (mE (aW (af l3)) (aW (af l3)) 8).ae (fun k4=>
 ct ((bn 0 k4 (af (dU k4 (0:Int)))).ae (fun _=>
 cq NN (fun(((l5,i6,i7),(l8,l9,cR),cE):((aa×(Int×Int))×((aa×(aa×aa))×aa)))=>
 aD (ir (0:Int) i7)
 (ct (ct (ai cE (
 cq NN (fun(((dO,fR,fk,eU,fI,fB),(gA,jg,hZ),fW):((aa×(Int×(Int×(aa×(Int×Int)))))×((aa×(aa×aa))×aa)))=>
 aD (cj fB fI)
 ((cW eU fB).ae (fun gG=>
 (cW gA fk).ae (fun gL=>
 aD (c6 gG gL)
 ((c7 fB (af fW)).ae (fun DO=>
 (cA fW (aJ 0 DO)).ae (fun ii=>
 (bn 0 (af fW) (af (bo fW (aJ 0 DO) fR))).ae (fun _=>
 some (Sum.inl ((dO,fR,fk,eU,fI,bE .i64 fB 1),(gA,jg,hZ),bo fW (aJ 0 DO) fR))))))
 (ai fW (
 some (Sum.inl ((dO,fR,fk,eU,fI,bE .i64 fB 1),(gA,jg,hZ),fW)))))))
 ((ai fW (
 some (Sum.inl ((fR,fk,dO),(gA,jg,hZ),fW)))).ae (fun ia=>
 some (Sum.inr ia))))
 ((l5,i6,i7,l5,aW (af l5),(0:Int)),(l8,l9,cR),cE)))
 (fun((ij,lx,km),(kL,iU,ko),ji)=>
 (cW iU lx).ae (fun io=>
 ai ji (
 some (Sum.inl ((lx,km,cV .i64 ij io),(kL,iU,ko),ji))))))
 (fun((gH,iN,jW),(lA,kM,lR),ib)=>
 ai ib (
 some (Sum.inl ((iN,jW,iy .i64 gH 1),(lA,kM,lR),ib)))))
 ((ai cE (
 some (Sum.inl cE))).ae (fun kq=>
 some (Sum.inr kq))))
 ((l3,(1:Int),iy .i64 (aW (af l1)) (1:Int)),(l0,l1,l2),dU k4 (0:Int))))
 (fun iE=>
 (dW iE (af iE)).ae (fun gM=>
 some gM))))
theorem abb {D:aa} (h:jC D) {i:Nat} (hi:i<=D.length):bQ D i<=aL D:=by
 have:=aba (D:=D) (i:=0) (j:=i) (zbK i) hi;rw[LF] at this;exact Nat.le_of_dvd (BU fun x hx=>(h.2 x hx).1) this
theorem anD {L:aa} {v:Int} (hn:L.Nodup) {k:Nat} (hk:k<L.length):v=L.getD k 0↔bS L v=k:=by
 constructor
 ·intro e;rw[e,rC hn hk]
 ·intro e;have hp:bS L v<L.length:=by omega
  have:=zbv (w:=hp);have hv:L[bS L v]=v:=of_decide_eq_true this;have h2:L.getD k 0=L[k]:=by rw[zaa,zab hk];rfl
  rw[h2];subst e;exact hv.symm
theorem jb {l:aa} {i:Nat} (h:i<l.length):l[i]? =some (l.getD i 0):=by
 rw[zaa,zab h];rfl
theorem K3 (n:Nat):dU n (0:Int)=bB n fun _=>0:=by
 apply zaP;intro i;by_cases hi:i<n
 ·rw[lD _ hi];show(List.replicate n (0:Int))[i]? =_;rw[List.getElem?_replicate,if_pos hi]
 ·rw[zal (by show(List.replicate n (0:Int)).length<=i;simp;omega),zal (by rw[dV];omega)]
def nT (L D S:aa) (j q:Nat) (i:Nat):Int:=if(i<q/\bS L (S.getD i 0)+1=D.length - j)\/(D.length - j<=bS L (S.getD i 0)/\bS L (S.getD i 0)<D.length) then((bQ D (bS L (S.getD i 0)+1):Nat):Int) else 0
theorem aqC (x:T3×aa) (y:aa) (h:t9 x=some y):Tb aI x=some y:=by
 obtain⟨⟨L,D,A⟩,S⟩:=x;simp only[t9] at h;split at h
 ·rename_i hc;rw[<-h];obtain⟨ha,hS,hp⟩:=hc
  try dsimp only at ha hS hp
  obtain⟨vR,hl,_⟩:=rP ha;have n9:=CP ha;have iI:=Ow ha;have hG:jC D:=⟨by omega,fun x hx=>by have:=n9 x hx;omega⟩;simp only[Tb,ai];rw[x3 (by simp only[af,fo];omega)]
  try simp only[dm]
  rw[show bn 0 (af S) (af (dU (af S) (0:Int)))=some () from vQ (by simp[af,dU])]
  try simp only[dm]
  rw[eJ (r:=Sum.inl (qf L D S)) (fun j=>((S,((bQ D (D.length - j):Nat):Int),(D.length:Int) - 1 - (j:Int)),(L,D,A),bB S.length (nT L D S j 0))) D.length ?a1 ?a2 ?a3 (dt (by omega))]
  case a3=>
   rw[oH (by show _<=((af D:Nat):Int) - 1;omega) (by show((af D:Nat):Int) - 1<=_;unfold af;omega),K3];rw[show D.length - 0=D.length from rfl,tT]
   rw[show bB S.length (nT L D S 0 0)=bB (af S) (fun _=>0) from gQ fun i hi=>by
    unfold nT;rw[if_neg (by omega)]]
   show _=((S,((1:Nat):Int),(D.length:Int) - 1 - ((0:Nat):Int)),(L,D,A),_);rw[show(D.length:Int) - 1 - ((0:Nat):Int)=(D.length:Int) - 1 by omega];rfl
  case a2=>
   dsimp only
   rw[show ir (0:Int) ((D.length:Int) - 1 - (D.length:Int))=false from decide_eq_false (by omega),bh rfl]
   try simp only[bF,dm]
   rw[show bB S.length (nT L D S D.length 0)=qf L D S from gQ fun i hi=>by
     unfold nT;by_cases hc:bS L (S.getD i 0)<L.length
     ·rw[if_pos (by omega),if_pos hc]
     ·rw[if_neg (by omega),if_neg hc]]
  case a1=>
   intro j hj;dsimp only
   rw[bk (wA (by omega))]
   try simp only[bF,dm]
   have hk:((D.length:Int) - 1 - (j:Int))=((D.length - 1 - j:Nat):Int):=by omega
   rw[hk];have Vl:=n9 _ (gS (l:=D) (i:=D.length - 1 - j) (by omega));rw[eJ (r:=Sum.inl ((((bQ D (D.length - j):Nat):Int),((D.length - 1 - j:Nat):Int),S),(L,D,A),bB S.length (nT L D S (j+1) 0))) (fun q=>((S,((bQ D (D.length - j):Nat):Int),((D.length - 1 - j:Nat):Int),S,(S.length:Int),(q:Int)),(L,D,A),bB S.length (nT L D S j q))) S.length ?b1 ?b2 ?b3 (dt (by omega))]
   case b3=>rfl
   case b2=>
    dsimp only
    rw[bh (dL (by omega))]
    try simp only[bF,dm]
    rw[show bB S.length (nT L D S j S.length)=bB S.length (nT L D S (j+1) 0) from gQ fun i hi=>by
     unfold nT;by_cases hc:(i<S.length/\bS L (S.getD i 0)+1=D.length - j)\/(D.length - j<=bS L (S.getD i 0)/\bS L (S.getD i 0)<D.length)
     ·rw[if_pos hc,if_pos (by omega)]
     ·rw[if_neg hc,if_neg (by omega)]]
   case b1=>
    intro q hq;dsimp only
    rw[bk (dY (by omega)),e9,e9,jb hq,jb (l:=L) (i:=D.length - 1 - j) (by omega)]
    try simp only[dm]
    rw[f7 (by omega) (by omega)];have AX:=anD (v:=S.getD q 0) iI (k:=D.length - 1 - j) (by omega);by_cases he:S.getD q 0=L.getD (D.length - 1 - j) 0
    ·have fO:=AX.1 he;rw[bk (by unfold c6;exact beq_iff_eq.2 he),s7 _ hq]
     try simp only[dm,gE]
     rw[qw _ hq]
     try simp only[dm]
     rw[yf,show bn 0 (af (bB S.length (nT L D S j q))) (af (bB S.length fun i=>if i=q then((bQ D (D.length - j):Nat):Int) else nT L D S j q i))=some () from nj _ _ _]
     try simp only[dm]
     rw[show bB S.length (fun i=>if i=q then((bQ D (D.length - j):Nat):Int) else nT L D S j q i)=bB S.length (nT L D S j (q+1)) from gQ fun i hi=>by
      by_cases hiq:i=q
      ·subst hiq;rw[if_pos rfl];unfold nT;rw[if_pos (by omega),fO,show D.length - 1 - j+1=D.length - j by omega]
      ·rw[if_neg hiq];unfold nT;by_cases hc:(i<q/\bS L (S.getD i 0)+1=D.length - j)\/(D.length - j<=bS L (S.getD i 0)/\bS L (S.getD i 0)<D.length)
       ·rw[if_pos hc,if_pos (by omega)]
       ·rw[if_neg hc,if_neg (by omega)]]
     rfl
    ·have fO:bS L (S.getD q 0)≠D.length - 1 - j:=fun e=>he (AX.2 e);rw[bh (by simp only[c6,beq_eq_false_iff_ne,ne_eq];exact he)]
     try simp only[bF,dm]
     rw[show bB S.length (nT L D S j (q+1))=bB S.length (nT L D S j q) from gQ fun i hi=>by
      unfold nT;by_cases hc:(i<q/\bS L (S.getD i 0)+1=D.length - j)\/(D.length - j<=bS L (S.getD i 0)/\bS L (S.getD i 0)<D.length)
      ·rw[if_pos hc,if_pos (by omega)]
      ·rw[if_neg hc,if_neg (by
        intro dJ;apply hc;rcases dJ with⟨c1,c2⟩|c2
        ·left;refine⟨?_,c2⟩;have:i≠q:=by intro e;subst e;omega
         omega
        ·exact .inr c2)]]
     rfl
   simp only[ct,Option.bind];rw[e9,jb (l:=D) (i:=D.length - 1 - j) (by omega)]
   try simp only[dm,bF]
   obtain⟨d,d1,d2,d3,d4,d5⟩:=Ub hG (i:=D.length - 1 - j) (by omega);have ht:bQ D (D.length - 1 - j)=d*bQ D (D.length - 1 - j+1):=by rw[tU (by omega),d3]
   rw[show D.length - 1 - j+1=D.length - j by omega] at ht;have jF:=abb hG (i:=D.length - 1 - j) (by omega);rw[d2,qa (by rw[<-zaI];omega) (by rw[<-zaI,zai,<-ht];omega),oH (by omega) (by omega),<-zaI,zai,<-ht];show some (Sum.inl _)=some (Sum.inl ((S,((bQ D (D.length - (j+1)):Nat):Int),(D.length:Int) - 1 - ((j+1:Nat):Int)),(L,D,A),bB S.length (nT L D S (j+1) 0)));rw[show D.length - (j+1)=D.length - 1 - j by omega,show(D.length:Int) - 1 - ((j+1:Nat):Int)=((D.length - 1 - j:Nat):Int) - 1 by omega]
  simp only[ct,Option.bind,iO,dm]
 ·cases h
def fz (m:Int) (r c:Nat) (d:aa):Nat:=(dh m r (bH c d) c).2.1.length
def lL (m:Int) (r c:Nat) (d:aa):aa:=ax r (fz m r c d) (zI (bH c d) (dh m r (bH c d) c).2.1)
def n6 (m:Int) (r c:Nat) (d:aa):aa:=ax (fz m r c d) c (dh m r (bH c d) c).1
def aiL (m:Int) (r k c:Nat) (A B:aa):aa:=ax r c (gp m k (bH k A) (bH c B))
def abI:Int×List aS->Option (Int×List aS):=fun x=>if oI x<=1048576 then some x else none
def Af:Int×List aS->Option (Int×List aS):=abI
def alO (s:aS):Prop:=(0<=s.1/\s.1<=4096)/\(0<=s.2.1/\s.2.1<=4096)/\(0<=s.2.2.1/\s.2.2.1<=4096)
instance (s:aS):Decidable (alO s):=by unfold alO;infer_instance
def Nm:aq:=[(.agg,[.int .i64,.list [.int .i64,.int .i64,.int .i64,.list [.int .i64]]])]
def Y7:aq:=[(.agg,[.int .i64,.list [.int .i64,.int .i64,.int .i64,.list [.int .i64]]])]
def awu:bi:=[]
def SL (NN:Nat):(Int×(List (Int×(Int×(Int×aa)))))->(Option (Int×(List (Int×(Int×(Int×aa)))))):=
 (fun((i0,l1):(Int×(List (Int×(Int×(Int×aa))))))=>
 ct ((bn 0 0 (af (([]:List (Int×(Int×(Int×aa))))))).ae (fun _=>
 (bn 0 0 (af (([]:List (Int×(Int×(Int×aa))))))).ae (fun _=>
 cq NN (fun(((l2,i3,i4),i5,i6,l7,l8):(((List (Int×(Int×(Int×aa))))×(Int×Int))×(Int×(Int×((List (Int×(Int×(Int×aa))))×(List (Int×(Int×(Int×aa)))))))))=>
 aD (cj i4 i3)
 ((cW l2 i4).ae (fun(i9,cX,fj,dO)=>
 (j9 dO).ae (fun dG=>
 (dW dG (af dG)).ae (fun dA=>
 ai l8 (
 (bn 0 1 (af (((i9,cX,fj,dA)::([]:List (Int×(Int×(Int×aa)))))))).ae (fun _=>
 (kC (aJ (af l8) (af (((i9,cX,fj,dA)::([]:List (Int×(Int×(Int×aa)))))))) 48).ae (fun _=>
 ai l7 (
 (bn 0 (aJ (af l8) (af (((i9,cX,fj,dA)::([]:List (Int×(Int×(Int×aa)))))))) (af (d6 l8 (((i9,cX,fj,dA)::([]:List (Int×(Int×(Int×aa))))))))).ae (fun _=>
 some (Sum.inl ((l2,i3,bE .i64 i4 1),i5,i6,l7,d6 l8 (((i9,cX,fj,dA)::([]:List (Int×(Int×(Int×aa)))))))))))))))))
 ((ai l7 (
 ai l8 (
 some (Sum.inl (i5,i6,l7,l8))))).ae (fun eU=>
 some (Sum.inr eU))))
 ((l1,aW (af l1),(0:Int)),(0:Int),i0,([]:List (Int×(Int×(Int×aa)))),([]:List (Int×(Int×(Int×aa))))))))
 (fun(fI,fB,gA,jg)=>
 (dW jg (af jg)).ae (fun hZ=>
 some (fB,hZ))))
theorem sW {m:Int} {r c:Nat} {d:aa} (hl:d.length=r*c) (h:eZ m d):dK m r c (bH c d):=by
 rw[<-kZ,qv hl];exact h
theorem aCW {r c k:Nat} (M:bC) (hk:k<=r):(ax r c M).take (k*c)=ax k c M:=by
 unfold ax;rw[<-List.map_take,List.take_range,Nat.min_eq_left (zas _ hk)]
theorem Jf {m:Int} {r c:Nat} {d:aa} (hm:eW m) (hl:d.length=r*c) (hd:eZ m d):
  FX (m,(r:Int),(c:Int),d)=(((r:Int),(fz m r c d:Int),lL m r c d),((fz m r c d:Int),(c:Int),n6 m r c d))/\fz m r c d<=r/\fz m r c d<=c/\
  (lL m r c d).length=r*fz m r c d/\eZ m (lL m r c d)/\(n6 m r c d).length=fz m r c d*c/\eZ m (n6 m r c d):=by
 have hM:=sW hl hd;have hI:=sI hm hM (r:=r) (c:=c) c;have h1:fz m r c d<=r:=hI.l;refine⟨?_,h1,hI.lj,lp _ _ _,?_,lp _ _ _,?_⟩
 ·simp only[FX,u9,zac];rw[aCW _ hI.l];rfl
 ·unfold lL;rw[kZ];intro i hi t ht;exact hM i hi _ (ajg hI.e ht).2
 ·unfold n6;rw[kZ];exact fun i hi j hj=>hI.m i (by omega) j hj
theorem aq7 {m:Int} {r c:Nat} {d:aa} (hp:dz m=true) (hc:c<=64) (hr:r<=4096) (hl:d.length=r*c) (hd:eZ m d):
  Cp (m,(r:Int),(c:Int),d)=some (if r<=64 then(((r:Int),(fz m r c d:Int),lL m r c d),((fz m r c d:Int),(c:Int),n6 m r c d),true) else((0,0,[]),(0,0,[]),false)):=by
 have hm:=gn hp;have fU:r*c<=4096*64:=zad hr hc;have e:jv m ((r:Int),(c:Int),d)=decide (r<=64):=by
  have f9:qL m d=true:=zaE.2 fun x hx=>decide_eq_true (hd x hx);have e3:(d.length:Int)=(r:Int)*(c:Int):=by rw[hl];norm_cast
  simp only[jv,hp,f9,e3,decide_true,zbi,zbj];rw[decide_eq_true (p:=0<=(c:Int)/\(c:Int)<=64) (by omega),zbj];by_cases h:r<=64
  ·rw[decide_eq_true h,decide_eq_true (by omega)]
  ·rw[decide_eq_false h,decide_eq_false (by omega)]
 simp only[Cp,Sq];rw[if_pos (by show d.length<=_;omega),e,(Jf hm hl hd).1];by_cases h:r<=64
 ·rw[if_pos h,if_pos (decide_eq_true h)]
 ·rw[if_neg h,if_neg (by rw[decide_eq_false h];simp)]
theorem axm {m:Int} {r k c:Nat} {A B:aa} (hm:eW m) (hr:r<=4096) (hk:k<=4096) (hc:c<=4096) (h1:r*k<=1048576) (h2:k*c<=1048576) (h3:r*c<=1048576) (hA:A.length=r*k) (hB:B.length=k*c) (qA:eZ m A) (qB:eZ m B):
  yu (m,((r:Int),(k:Int),A),((k:Int),(c:Int),B))=some ((r:Int),(c:Int),aiL m r k c A B):=by
 have e:=KD (r:=r) (k:=k) (c:=c) hm hr hk hc h1 h2 h3 (sW hA qA) (sW hB qB);rw[qv hA,qv hB] at e;exact e
theorem Lp {m:Int} {s:aS} (h:m4 m s=true):∃(b p c:Nat) (d:aa),s=((b:Int),(p:Int),(c:Int),d)/\b<=32/\c<=32/\(1<=p/\p<=8)/\d.length=b*p*c/\eZ m d:=by
 obtain⟨a,p,c,d⟩:=s;obtain⟨t1,t2,t3,t4,t5⟩:=aas h;obtain⟨a,rfl⟩:=gI t1.1;obtain⟨p,rfl⟩:=gI (show 0<=p by omega);obtain⟨c,rfl⟩:=gI t2.1;refine⟨a,p,c,d,rfl,by omega,by omega,by omega,?_,fun x hx=>of_decide_eq_true (zaE.1 t5 x hx)⟩;have:((a:Int)*(p:Int)*(c:Int))=((a*p*c:Nat):Int):=by norm_cast
 rw[this] at t4;exact_mod_cast t4
theorem Et {m:Int} {b p c:Nat} {d:aa} (hb:b<=32) (hc:c<=32) (hp:1<=p/\p<=8) (hl:d.length=b*p*c) (hd:eZ m d):m4 m ((b:Int),(p:Int),(c:Int),d)=true:=by
 have f9:qL m d=true:=zaE.2 fun x hx=>decide_eq_true (hd x hx);have e3:(d.length:Int)=(b:Int)*(p:Int)*(c:Int):=by rw[hl];norm_cast
 simp only[m4,f9,e3,decide_true,zbj,zaz,decide_eq_true_eq];omega
def FY (m:Int) (L:List aS):Prop:=(∀k,k<L.length->m4 m (L.getD k cm)=true)/\∀k,k+1<L.length->(L.getD (k+1) cm).1=(L.getD k cm).2.2.1
theorem C6 {m:Int} {l:List aS} (h:fi (m,l)=true):FY m l:=by
 obtain⟨hm,hl,_,_,hs⟩:=qX h;refine⟨fun k hk=>?_,fun k hk=>?_⟩
 ·obtain⟨p,M,e,h1,h2,h3,h4,h5⟩:=hs k hk;rw[e];exact Et h1 h2 h3 (lp _ _ _) (kZ.2 h4)
 ·obtain⟨p,M,e,_⟩:=hs k (by omega);obtain⟨p',M',e',_⟩:=hs (k+1) hk;rw[e,e']
theorem Jq {L:List aS} {i:Nat} {s:aS} (hi:i<L.length) (k:Nat):(L.set i s).getD k cm=if k=i then s else L.getD k cm:=by
 rw[zaa,List.getElem?_set,zaa];by_cases h:i=k
 ·subst h;rw[if_pos rfl,if_pos hi,if_pos rfl];rfl
 ·rw[if_neg h,if_neg (fun e=>h e.symm)]
theorem arc {m:Int} {L:List aS} {i:Nat} {s t:aS} (F:FY m L) (hi:i+1<L.length) (hs:m4 m s=true) (ht:m4 m t=true) (h1:s.1=(L.getD i cm).1) (h2:t.1=s.2.2.1) (h3:t.2.2.1=(L.getD (i+1) cm).2.2.1):
  FY m ((L.set i s).set (i+1) t):=by
 have hg:∀k,((L.set i s).set (i+1) t).getD k cm=if k=i+1 then t else if k=i then s else L.getD k cm:=fun k=>by
  rw[Jq (by simpa using hi),Jq (by omega)]
 refine⟨fun k hk=>?_,fun k hk=>?_⟩
 ·rw[hg];by_cases e1:k=i+1
  ·rw[if_pos e1];exact ht
  ·rw[if_neg e1];by_cases e2:k=i
   ·rw[if_pos e2];exact hs
   ·rw[if_neg e2];exact F.1 k (by simpa using hk)
 ·rw[hg,hg];have dg:k+1<L.length:=by simpa using hk
  by_cases e1:k=i
  ·subst e1;rw[if_pos rfl,if_neg (by omega),if_pos rfl];exact h2
  ·by_cases e2:k=i+1
   ·subst e2;rw[if_neg (by omega),if_neg (by omega),if_pos rfl,h3];exact F.2 _ dg
   ·by_cases e3:k+1=i
    ·subst e3;rw[if_neg (by omega),if_pos rfl,if_neg e2,if_neg e1,h1];exact F.2 _ dg
    ·rw[if_neg (by omega),if_neg (by omega),if_neg e2,if_neg e1];exact F.2 _ dg
theorem Um {m:Int} {L:List aS} (F:FY m L) {i:Nat} (hi:i+1<L.length):∃(b p c p' c':Nat) (d d':aa),L[i]? =some ((b:Int),(p:Int),(c:Int),d)/\L[i+1]? =some ((c:Int),(p':Int),(c':Int),d')/\
  L.getD i cm=((b:Int),(p:Int),(c:Int),d)/\L.getD (i+1) cm=((c:Int),(p':Int),(c':Int),d')/\
  b<=32/\c<=32/\c'<=32/\(1<=p/\p<=8)/\(1<=p'/\p'<=8)/\d.length=b*p*c/\d'.length=c*p'*c'/\eZ m d/\eZ m d':=by
 obtain⟨b,p,c,d,e1,a1,a2,a3,a4,a5⟩:=Lp (F.1 i (by omega));obtain⟨b',p',c',d',e2,b1,b2,b3,b4,b5⟩:=Lp (F.1 (i+1) hi);have h:=F.2 i hi;rw[e1,e2] at h;simp only at h;have hbc:b'=c:=by omega
 subst hbc;exact⟨b,p,b',p',c',d,d',by rw[getD_some cm (show i<L.length by omega),e1],by rw[getD_some cm hi,e2],e1,e2,a1,a2,b2,a3,b3,a4,b4,a5,b5⟩
theorem ap4 (x:Int×List aS) (y:Int×List aS) (h:Af x=some y):SL aI x=some y:=by
 obtain⟨m,l⟩:=x;simp only[Af,abI] at h;split at h
 ·rename_i hs;rw[<-h];obtain⟨hlen,eR⟩:=LD hs;simp only[SL,ai];rw[show bn 0 0 (af ([]:List (Int×(Int×(Int×aa)))))=some () from rfl]
  simp only[av];rw[eJ (fun i=>((l,aW (af l),(i:Int)),(0:Int),m,([]:List aS),l.take i)) (r:=Sum.inl ((0:Int),m,([]:List aS),l)) l.length ?_ ?_ ?_ (dt (by omega))]
  ·rw[fE];simp only[iO,av]
  all_goals try simp only
  ·intro j hj;obtain⟨⟨a,p,c,d⟩,hs⟩:∃e,l[j]? =some e:=⟨_,zab hj⟩;have hd:d.length<=1048576:=eR _ (za5 hs);have e1:af (l.take j)=j:=by simp[af];omega
   have e2:d6 (l.take j) [(a,p,c,d)]=l.take (j+1):=by simp[d6,zax,hs]
   rw[bk (zB hs),e9,hs,av];simp only
   rw[show j9 d=some d from if_pos (by omega),av,iO,av]
   simp only[e1,bF,av,G9,show∀s:aS,af [s]=1 from fun _=>rfl,show kC (aJ j 1) 48=some () from pQ (by simp only[aJ,fo];omega),Hm hs (by omega)]
   rw[e2]
  ·rw[bh (xZ l),zan];simp only[bF,av]
  ·rfl
 ·cases h
theorem arx {L:List aS} {i j:Nat} {s:aS} (h:i≠j):cA (bo L i s) j=cA L j:=za4 h
def wF (m:Int) (p p' c':Nat) (X Jn:bC):bC:=fun I J=>iR m (fun q=>X (I%p*p'+J/c') q) (fun q=>Jn (I/p*p+q/p') (q%p'*c'+J%c')) (p*p')
def pu (p p' c':Nat) (W:bC) (i j v:Nat):bC:=fun I J=>if I/p<i\/I/p=i/\(J%c'<j\/J%c'=j/\I%p*p'+J/c'<v) then W I J else 0
def w7 (m:Int) (s t:aS) (X:aa):aa:=
 ax (s.1.toNat*s.2.1.toNat) (t.2.1.toNat*t.2.2.1.toNat) (wF m s.2.1.toNat t.2.1.toNat t.2.2.1.toNat (bH (s.2.1.toNat*t.2.1.toNat) X)
  (gp m s.2.2.1.toNat (bH s.2.2.1.toNat s.2.2.2) (bH (t.2.1.toNat*t.2.2.1.toNat) t.2.2.2)))
def w9 (m:Int) (l:List aS) (k:Nat) (s t:aS) (W:aa):List aS:=
 (l.set k (s.1,s.2.1,(fz m (s.1.toNat*s.2.1.toNat) (t.2.1.toNat*t.2.2.1.toNat) W:Int),lL m (s.1.toNat*s.2.1.toNat) (t.2.1.toNat*t.2.2.1.toNat) W)).set (k+1)
  ((fz m (s.1.toNat*s.2.1.toNat) (t.2.1.toNat*t.2.2.1.toNat) W:Int),t.2.1,t.2.2.1,n6 m (s.1.toNat*s.2.1.toNat) (t.2.1.toNat*t.2.2.1.toNat) W)
def CQ (m:Int) (s t:aS) (x:Int×Int×aa):Prop:=x.1=s.2.1*t.2.1/\x.2.1=s.2.1*t.2.1/\s.1*s.2.1<=64/\t.2.1*t.2.2.1<=64
instance (m:Int) (s t:aS) (x:Int×Int×aa):Decidable (CQ m s t x):=by unfold CQ;infer_instance
def TI (m:Int) (out:List aS):(Int×List aS)×Bool:=if fi (m,out)=true then((m,out),true) else((0,[]),false)
def Oz (m:Int) (l:List aS) (k:Int) (x:Int×Int×aa):(Int×List aS)×Bool:=
 if fi (m,l)=true/\(0<=k/\k+1<l.length)/\jv m x=true then
  if CQ m (l.getD k.toNat cm) (l.getD (k.toNat+1) cm) x then
   TI m (w9 m l k.toNat (l.getD k.toNat cm) (l.getD (k.toNat+1) cm) (w7 m (l.getD k.toNat cm) (l.getD (k.toNat+1) cm) x.2.2))
  else((0,[]),false)
 else((0,[]),false)
def Sm:(Int×List aS)×Int×Int×Int×aa->Option ((Int×List aS)×Bool):=fun x=>
 if oI x.1<=1048576/\vn x.2.2<=1048576 then some (Oz x.1.1 x.1.2 x.2.1 x.2.2) else none
def tY:(Int×List aS)×Int×Int×Int×aa->Option ((Int×List aS)×Bool):=Sm
def MS:aq:=[(.agg,[.int .i64,.list [.int .i64,.int .i64,.int .i64,.list [.int .i64]]]),(.one,[.int .i64]),(.agg,[.int .i64,.int .i64,.list [.int .i64]])]
def YI:aq:=[(.agg,[.int .i64,.list [.int .i64,.int .i64,.int .i64,.list [.int .i64]]]),(.one,[.bool])]
def av9:bi:=[]
def Sv (NN:Nat):((Int×(List (Int×(Int×(Int×aa)))))×(Int×(Int×(Int×aa))))->(Option ((Int×(List (Int×(Int×(Int×aa)))))×Bool)):=
 (fun(((i0,l1),i2,i3,i4,l5):((Int×(List (Int×(Int×(Int×aa)))))×(Int×(Int×(Int×aa)))))=>
 (qi (i0,l1)).ae (fun b6=>
 aD (d9 b6)
 (some (((0:Int),([]:List (Int×(Int×(Int×aa))))),false))
 (aD (cj i2 (0:Int))
 (some (((0:Int),([]:List (Int×(Int×(Int×aa))))),false))
 (aD (ir (iy .i64 (aW (af l1)) (1:Int)) i2)
 (some (((0:Int),([]:List (Int×(Int×(Int×aa))))),false))
 ((sP (i0,i3,i4,l5)).ae (fun b7=>
 aD (d9 b7)
 (some (((0:Int),([]:List (Int×(Int×(Int×aa))))),false))
 ((cW l1 i2).ae (fun(i8,i9,cX,cE)=>
 (cW l1 (bE .i64 i2 1)).ae (fun(ef,fR,fk,eU)=>
 aD (iF i3 (cV .i64 i9 fR))
 (some (((0:Int),([]:List (Int×(Int×(Int×aa))))),false))
 (aD (iF i4 (cV .i64 i9 fR))
 (some (((0:Int),([]:List (Int×(Int×(Int×aa))))),false))
 (aD (cj (64:Int) (cV .i64 i8 i9))
 (some (((0:Int),([]:List (Int×(Int×(Int×aa))))),false))
 (aD (cj (64:Int) (cV .i64 fR fk))
 (some (((0:Int),([]:List (Int×(Int×(Int×aa))))),false))
 ((vz (i0,(cV .i64 i8 i9,cX,cE),ef,cV .i64 fR fk,eU)).ae (fun(fI,fB,gA)=>
 (wV (cV .i64 i8 i9,cV .i64 fR fk)).ae (fun(fC,ff,fW)=>
 ct ((bn 0 0 (af (([]:List (Int×(Int×(Int×aa))))))).ae (fun _=>
 ai gA (
 ai fW (
 cq NN (fun(((gG,gL),(gm,iD),(jH,ij,iT),kH,(ik,il,gZ,ji),(io,gH,ly,jq),(jI,iK),(iL,mA),kq,iE,gM):((Int×Int)×((Int×(List (Int×(Int×(Int×aa)))))×((Int×(Int×aa))×(Int×((Int×(Int×(Int×aa)))×((Int×(Int×(Int×aa)))×((Int×Int)×((Int×Int)×((List (Int×(Int×(Int×aa))))×(aa×aa)))))))))))=>
 aD (cj gL ik)
 (ct (ai kq (
 ai iE (
 ai gM (
 cq NN (fun(((iS,jJ,jo),(kj,lB),(mB,ou,sr),pV,(ov,r6,rn,ic),(wc,wg,wh,kN),(nF,lz),(i64,ox),sv,G0,uO):((Int×(Int×Int))×((Int×(List (Int×(Int×(Int×aa)))))×((Int×(Int×aa))×(Int×((Int×(Int×(Int×aa)))×((Int×(Int×(Int×aa)))×((Int×Int)×((Int×Int)×((List (Int×(Int×(Int×aa))))×(aa×aa)))))))))))=>
 aD (cj jo wh)
 (ct (ai sv (
 ai G0 (
 ai uO (
 cq NN (fun(((tz,rp,pW,tA),(nG,xV),(nH,lQ,wq),mU,(oY,rq,r9,lC),(xJ,Bp,sd,tE),(zl,DD),(DE,DF),uT,ww,zy):((Int×(Int×(Int×Int)))×((Int×(List (Int×(Int×(Int×aa)))))×((Int×(Int×aa))×(Int×((Int×(Int×(Int×aa)))×((Int×(Int×(Int×aa)))×((Int×Int)×((Int×Int)×((List (Int×(Int×(Int×aa))))×(aa×aa)))))))))))=>
 aD (cj tA nH)
 (ct (ct (ai uT (
 ai ww (
 ai zy (
 cq NN (fun(((zm,zn,Br,GL,zo,zp),(Dw,Bx),(zj,xF,xS),Dx,(J2,J3,GH,GS),(GI,wb,Dy,DQ),(GK,Bo),(P6,Wc),sn,xT,DR):((Int×(Int×(Int×(Int×(Int×Int)))))×((Int×(List (Int×(Int×(Int×aa)))))×((Int×(Int×aa))×(Int×((Int×(Int×(Int×aa)))×((Int×(Int×(Int×aa)))×((Int×Int)×((Int×Int)×((List (Int×(Int×(Int×aa))))×(aa×aa)))))))))))=>
 aD (cj zp xF)
 ((mg ((zj,xF,xS),GL,zp)).ae (fun J4=>
 (Ef .i64 zp wb).ae (fun Wg=>
 (gJ zp wb).ae (fun Wh=>
 (bZ xT 0 (af xT)).ae (fun Xh=>
 (mg ((GK,Bo,Xh),bE .i64 (cV .i64 zn J3) Wg,bE .i64 (cV .i64 Wh Dy) Br)).ae (fun Wj=>
 (gJ (bE .i64 zo (cV .i64 J4 Wj)) Dw).ae (fun afW=>
 ai sn (
 ai xT (
 ai DR (
 some (Sum.inl ((zm,zn,Br,GL,afW,bE .i64 zp 1),(Dw,Bx),(zj,xF,xS),Dx,(J2,J3,GH,GS),(GI,wb,Dy,DQ),(GK,Bo),(P6,Wc),sn,xT,DR))))))))))))
 ((ai sn (
 ai xT (
 ai DR (
 some (Sum.inl ((zo,GL,zm,zn,Br),(Dw,Bx),(zj,xF,xS),Dx,(J2,J3,GH,GS),(GI,wb,Dy,DQ),(GK,Bo),(P6,Wc),sn,xT,DR)))))).ae (fun Ql=>
 some (Sum.inr Ql))))
 ((tz,rp,pW,tA,(0:Int),(0:Int)),(nG,xV),(nH,lQ,wq),mU,(oY,rq,r9,lC),(xJ,Bp,sd,tE),(zl,DD),(DE,DF),uT,ww,zy)))))
 (fun((J5,xG,Wk,zk,tx),(xH,zv),(Wl,J6,GV),J7,(J8,afY,Wm,Qp),(af0,J9,P7,GW),(Wo,asJ),(P8,af1),xU,GY,Ku)=>
 (Ef .i64 xG J9).ae (fun Ka=>
 (gJ xG J9).ae (fun Wp=>
 ai Ku (
 (qQ ((P8,af1,Ku),bE .i64 (cV .i64 zk afY) Ka,bE .i64 (cV .i64 Wp P7) tx,J5)).ae (fun GZ=>
 ai xU (
 ai GY (
 (bn 0 (af Ku) (af GZ)).ae (fun _=>
 some (Sum.inl ((xG,Wk,zk,tx),(xH,zv),(Wl,J6,GV),J7,(J8,afY,Wm,Qp),(af0,J9,P7,GW),(Wo,asJ),(P8,af1),xU,GY,GZ)))))))))))
 (fun((Wq,Kc,asL,Wr),(Ws,Xn),(Kd,asN,Xp),Wt,(Wu,asP,af2,avC),(asQ,asR,asS,Xq),(asT,asU),(asV,asW),Qt,Qu,Qv)=>
 ai Qt (
 ai Qu (
 ai Qv (
 some (Sum.inl ((Kc,asL,Wr,bE .i64 Wq 1),(Ws,Xn),(Kd,asN,Xp),Wt,(Wu,asP,af2,avC),(asQ,asR,asS,Xq),(asT,asU),(asV,asW),Qt,Qu,Qv)))))))
 ((ai uT (
 ai ww (
 ai zy (
 some (Sum.inl ((pW,tz,rp),(nG,xV),(nH,lQ,wq),mU,(oY,rq,r9,lC),(xJ,Bp,sd,tE),(zl,DD),(DE,DF),uT,ww,zy)))))).ae (fun Xr=>
 some (Sum.inr Xr))))
 ((iS,jJ,jo,(0:Int)),(kj,lB),(mB,ou,sr),pV,(ov,r6,rn,ic),(wc,wg,wh,kN),(nF,lz),(i64,ox),sv,G0,uO)))))
 (fun((asX,asY,asZ),(as0,avG),(as1,as2,avH),as3,(as4,as5,as6,avI),(as7,as8,as9,avJ),(ata,atb),(atc,atd),agI,agJ,agK)=>
 ai agI (
 ai agJ (
 ai agK (
 some (Sum.inl ((asY,asZ,bE .i64 asX 1),(as0,avG),(as1,as2,avH),as3,(as4,as5,as6,avI),(as7,as8,as9,avJ),(ata,atb),(atc,atd),agI,agJ,agK)))))))
 ((ai sv (
 ai G0 (
 ai uO (
 some (Sum.inl ((jJ,iS),(kj,lB),(mB,ou,sr),pV,(ov,r6,rn,ic),(wc,wg,wh,kN),(nF,lz),(i64,ox),sv,G0,uO)))))).ae (fun avK=>
 some (Sum.inr avK))))
 ((gG,gL,(0:Int)),(gm,iD),(jH,ij,iT),kH,(ik,il,gZ,ji),(io,gH,ly,jq),(jI,iK),(iL,mA),kq,iE,gM)))))
 (fun((ate,atf),(atg,avL),(ath,ati,avM),atj,(atk,atl,atm,avN),(atn,ato,atp,avO),(atq,atr),(ats,att),agL,agM,agN)=>
 ai agL (
 ai agM (
 ai agN (
 some (Sum.inl ((atf,bE .i64 ate 1),(atg,avL),(ath,ati,avM),atj,(atk,atl,atm,avN),(atn,ato,atp,avO),(atq,atr),(ats,att),agL,agM,agN)))))))
 ((ai kq (
 ai gM (
 some (Sum.inl (gG,(gm,iD),kH,(ik,il,gZ,ji),(io,gH,ly,jq),(iL,mA),kq,gM))))).ae (fun avP=>
 some (Sum.inr avP))))
 ((i2,(0:Int)),(i0,l1),(i3,i4,l5),(0:Int),(i8,i9,cX,cE),(ef,fR,fk,eU),(fI,fB),(fC,ff),([]:List (Int×(Int×(Int×aa)))),gA,fW)))))
 (fun(af4,(af5,avQ),aDW,(Wv,Ww,aDX,aD8),(aDY,af6,af7,aD9),(atu,atv),aEa,agO)=>
 (bZ agO 0 (af agO)).ae (fun avR=>
 (Cp (af5,atu,atv,avR)).ae (fun((aDZ,Wx,agP),(af8,aD0,agQ),anL)=>
 aD (d9 anL)
 (some (((0:Int),([]:List (Int×(Int×(Int×aa))))),false))
 ((Af (af5,avQ)).ae (fun(af9,BB)=>
 (c7 af4 (af BB)).ae (fun Qe=>
 (cA BB (aJ 0 Qe)).ae (fun(aD1,aD2,aD3,aEb)=>
 (dW agP (af agP)).ae (fun Xs=>
 (c7 (bE .i64 af4 1) (af BB)).ae (fun W3=>
 (cA (bo BB (aJ 0 Qe) (Wv,Ww,Wx,Xs)) (aJ 0 W3)).ae (fun(aD4,aD5,aD6,aEc)=>
 (dW agQ (af agQ)).ae (fun agR=>
 (bZ (bo (bo BB (aJ 0 Qe) (Wv,Ww,Wx,Xs)) (aJ 0 W3) (af8,af6,af7,agR)) 0 (af BB)).ae (fun avS=>
 (qi (af9,avS)).ae (fun anM=>
 aD (d9 anM)
 (some (((0:Int),([]:List (Int×(Int×(Int×aa))))),false))
 ((dW (bo (bo BB (aJ 0 Qe) (Wv,Ww,Wx,Xs)) (aJ 0 W3) (af8,af6,af7,agR)) (af BB)).ae (fun avT=>
 some ((af9,avT),true)))))))))))))))))))))))))))))))
theorem aa2 {α:Type} {f:α->Nat} {B:Nat}:∀{l:List α},(∀e∈l,f e<=B)->(l.map f).sum<=l.length*B
 |[],_=>by simp
 |a::l,h=>by
  have h1:=h a zbg;have h2:=aa2 (f:=f) (B:=B) (l:=l) fun e he=>h e (zaQ _ he);rw[zav,zaU,zag,zat];omega
theorem lx1 {a i b j w v:Nat} (h:a=i/\b=j/\w=v):a<i\/a=i/\(b<j\/b=j/\w<v+1):=by omega
theorem lx2 {a i b j w v:Nat} (q:a<i\/a=i/\(b<j\/b=j/\w<v)):a<i\/a=i/\(b<j\/b=j/\w<v+1):=by omega
theorem lx3 {a i b j w v:Nat} (h:¬(a=i/\b=j/\w=v)) (q:¬(a<i\/a=i/\(b<j\/b=j/\w<v))):¬(a<i\/a=i/\(b<j\/b=j/\w<v+1)):=by omega
theorem lx4 {a i b j w n:Nat} (q:a<i\/a=i/\(b<j\/b=j/\w<n)):a<i\/a=i/\(b<j+1\/b=j+1/\w<0):=by omega
theorem lx5 {a i b j w n:Nat} (hw:w<n) (q:¬(a<i\/a=i/\(b<j\/b=j/\w<n))):¬(a<i\/a=i/\(b<j+1\/b=j+1/\w<0)):=by omega
theorem lx6 {a i b w n:Nat} (q:a<i\/a=i/\(b<n\/b=n/\w<0)):a<i+1\/a=i+1/\(b<0\/b=0/\w<0):=by omega
theorem lx7 {a i b w n:Nat} (hb:b<n) (q:¬(a<i\/a=i/\(b<n\/b=n/\w<0))):¬(a<i+1\/a=i+1/\(b<0\/b=0/\w<0)):=by omega
theorem lx8 {a b w:Nat}:¬(a<0\/a=0/\(b<0\/b=0/\w<0)):=by omega
theorem aDk {R C p p' c':Nat} {W:bC} {i j v:Nat} (hR:∀I,I<R->I/p*p+I%p=I) (hp:0<p) (cd:0<p') (hj:j<c') (hv:v<p*p') (hC:C=p'*c'):
  ax R C (m7 (pu p p' c' W i j v) (i*p+v/p') (v%p'*c'+j) (W (i*p+v/p') (v%p'*c'+j)))=ax R C (pu p p' c' W i j (v+1)):=by
 refine jD fun I hI J hJ=>?_;have dJ:0<c':=by omega
 have hx:v%p'<p':=zay _ cd;have hu:v/p'<p:=(zaj cd).2 hv;have PF:J/c'<p':=(zaj dJ).2 (by rw[<-hC];exact hJ);have hI2:=zay I hp;have cN:(I=i*p+v/p'/\J=v%p'*c'+j)↔(I/p=i/\J%c'=j/\I%p*p'+J/c'=v):=by
  constructor
  ·rintro⟨rfl,rfl⟩;rw[qF hu,rr hu,qF hj,rr hj];exact⟨rfl,rfl,by rw[zai];exact zaC v p'⟩
  ·rintro⟨h1,h2,h3⟩;have e1:v/p'=I%p:=by rw[<-h3];exact qF PF
   have e2:v%p'=J/c':=by rw[<-h3];exact rr PF
   refine⟨by rw[e1,<-h1];exact(hR I hI).symm,?_⟩;rw[e2,<-h2,zai];exact(zaC J c').symm
 unfold m7 pu;by_cases h:I=i*p+v/p'/\J=v%p'*c'+j
 ·rw[if_pos h];have h':=cN.1 h;rw[if_pos (lx1 h'),h.1,h.2]
 ·rw[if_neg h];have h':¬(I/p=i/\J%c'=j/\I%p*p'+J/c'=v):=fun e=>h (cN.2 e);by_cases q:I/p<i\/I/p=i/\(J%c'<j\/J%c'=j/\I%p*p'+J/c'<v)
  ·rw[if_pos q,if_pos (lx2 q)]
  ·rw[if_neg q,if_neg (lx3 h' q)]
theorem aDj {R C p p' c':Nat} {W:bC} {i j:Nat} (hp:0<p) (dJ:0<c') (hC:C=p'*c'):ax R C (pu p p' c' W i j (p*p'))=ax R C (pu p p' c' W i (j+1) 0):=by
 refine jD fun I hI J hJ=>?_;have PF:J/c'<p':=(zaj dJ).2 (by rw[<-hC];exact hJ);have hI2:=zay I hp;have cC:=jK hI2 PF;unfold pu;by_cases q:I/p<i\/I/p=i/\(J%c'<j\/J%c'=j/\I%p*p'+J/c'<p*p')
 ·rw[if_pos q,if_pos (lx4 q)]
 ·rw[if_neg q,if_neg (lx5 cC q)]
theorem aDh {R C p p' c':Nat} {W:bC} {i:Nat} (dJ:0<c'\/C=0):ax R C (pu p p' c' W i c' 0)=ax R C (pu p p' c' W (i+1) 0 0):=by
 refine jD fun I hI J hJ=>?_;have hc:0<c':=by omega
 have:=zay J hc;unfold pu;by_cases q:I/p<i\/I/p=i/\(J%c'<c'\/J%c'=c'/\I%p*p'+J/c'<0)
 ·rw[if_pos q,if_pos (lx6 q)]
 ·rw[if_neg q,if_neg (lx7 this q)]
theorem aDi {b C p p' c':Nat} {W:bC} (hp:0<p):ax (b*p) C (pu p p' c' W b 0 0)=ax (b*p) C W:=
 jD fun I hI J _=>if_pos (.inl ((zaj hp).2 hI))
theorem aDg {R C p p' c':Nat} {W:bC}:ax R C (pu p p' c' W 0 0 0)=ax R C fun _ _=>0:=jD fun I _ J _=>if_neg lx8
theorem amM {m:Int} {p p' c' i j v:Nat} {X Jn:bC} (cd:0<p') (hj:j<c') (hv:v<p*p'):
  wF m p p' c' X Jn (i*p+v/p') (v%p'*c'+j)=iR m (fun q=>X v q) (fun q=>Jn (i*p+q/p') (q%p'*c'+j)) (p*p'):=by
 have hu:v/p'<p:=(zaj cd).2 hv;unfold wF;rw[qF hu,rr hu,qF hj,rr hj,show v/p'*p'+v%p'=v by rw[zai];exact zaC v p']
theorem aju {a b:Nat} (hb:0<b) (ha:a<=1048576):Ef .i64 (a:Int) (b:Int)=some ((a/b:Nat):Int):=an6 hb ha
theorem ahd {m:Int} {x:Int×Int×aa} (h:jv m x=true):∃(r c:Nat) (d:aa),x=((r:Int),(c:Int),d)/\r<=64/\c<=64/\d.length=r*c/\eZ m d:=by
 obtain⟨r,c,M,e,_,h1,h2,h3,h4,h5⟩:=ahc h;exact⟨r,c,ax r c M,e,h1,h2,lp _ _ _,kZ.2 h4⟩
theorem anY {m:Int} {l out:List aS} {k:Nat} {s t:aS} (hk:fi (m,l)=true) (hs:s.2.2.2.length<=8192) (ht:t.2.2.2.length<=8192):oI (m,(l.set k s).set (k+1) t)<=131072:=by
 have hl:=(qX hk).2.1;have F:=C6 hk;have asv:∀e∈l,sL e<=8192:=fun e he=>by
  obtain⟨q,hq⟩:=zbp.1 he;have Gx:=D5 hq;obtain⟨b,p,c,d,e1,h1,h2,h3,h4,_⟩:=Lp (F.1 q Gx);have e2:=getD_some cm Gx;rw[hq] at e2;injection e2 with e2;rw[<-e2] at e1;subst e1;show d.length<=_;have q1:b*p<=32*8:=zad h1 h3.2;have q2:b*p*c<=(32*8)*32:=zad q1 h2;omega
 show((l.set k s).set (k+1) t).length+(((l.set k s).set (k+1) t).map sL).sum<=_;have h:=aa2 (f:=sL) (B:=8192) (l:=(l.set k s).set (k+1) t) fun e he=>by
  rcases zau he with he|rfl
  ·rcases zau he with he|rfl
   ·exact asv e he
   ·exact hs
  ·exact ht
 have jF:((l.set k s).set (k+1) t).length=l.length:=by simp
 rw[jF] at h⊢;have:l.length*8192<=8*8192:=zas _ hl.2;omega
theorem anX {m:Int} {l:List aS} {k:Nat} {x:Int×Int×aa} (hc:fi (m,l)=true) (hk:k+1<l.length) (hx:jv m x=true) (hb:CQ m (l.getD k cm) (l.getD (k+1) cm) x):
  ∃(b p c p' c':Nat) (d d' xd:aa),l[k]? =some ((b:Int),(p:Int),(c:Int),d)/\l[k+1]? =some ((c:Int),(p':Int),(c':Int),d')/\
   l.getD k cm=((b:Int),(p:Int),(c:Int),d)/\l.getD (k+1) cm=((c:Int),(p':Int),(c':Int),d')/\x=(((p*p':Nat):Int),((p*p':Nat):Int),xd)/\
   b<=32/\c<=32/\c'<=32/\(1<=p/\p<=8)/\(1<=p'/\p'<=8)/\d.length=b*p*c/\d'.length=c*p'*c'/\eZ m d/\eZ m d'/\b*p<=64/\p'*c'<=64/\p*p'<=64/\xd.length=p*p'*(p*p')/\eZ m xd:=by
 obtain⟨b,p,c,p',c',d,d',g1,g2,g3,g4,h1,h2,h3,h4,h5,h6,h7,h8,h9⟩:=Um (C6 hc) hk;obtain⟨r,q,xd,rfl,r1,r2,r3,r4⟩:=ahd hx;rw[g3,g4] at hb;obtain⟨q1,q2,q3,q4⟩:=hb;simp only at q1 q2 q3 q4;have e1:((p:Int)*(p':Int))=((p*p':Nat):Int):=by norm_cast
 have e2:((b:Int)*(p:Int))=((b*p:Nat):Int):=by norm_cast
 have e3:((p':Int)*(c':Int))=((p'*c':Nat):Int):=by norm_cast
 rw[e1] at q1 q2;rw[e2] at q3;rw[e3] at q4;have hr:r=p*p':=by omega
 have hq:q=p*p':=by omega
 subst hr hq;exact⟨b,p,c,p',c',d,d',xd,g1,g2,g3,g4,rfl,h1,h2,h3,h4,h5,h6,h7,h8,h9,by omega,by omega,r1,r3,r4⟩
theorem anW {m:Int} {l:List aS} {k:Nat} (hm:eW m) (hk:fi (m,l)=true) {b p c p' c':Nat} {d d' W:aa} (h1:b*p<=64) (h2:p'*c'<=64) (hl:W.length=b*p*(p'*c')) (hW:eZ m W):
  oI (m,w9 m l k ((b:Int),(p:Int),(c:Int),d) ((c:Int),(p':Int),(c':Int),d') W)<=131072:=by
 obtain⟨_,f1,f2,f3,f4,f5,f6⟩:=Jf hm hl hW;have k1:b*p*fz m (b*p) (p'*c') W<=64*64:=zad h1 (by omega);have k2:fz m (b*p) (p'*c') W*(p'*c')<=64*64:=zad (by omega) h2;simp only[w9,zac];exact anY (out:=l) hk (by rw[f3];omega) (by rw[f5];omega)
theorem abl {m:Int} (hm:eW m) (p p' c':Nat) (X Jn:bC) (I J:Nat):fx m (wF m p p' c' X Jn I J):=ui hm _ _ _
theorem apB (x:(Int×List aS)×Int×Int×Int×aa) (y:(Int×List aS)×Bool) (h:tY x=some y):Sv aI x=some y:=by
 obtain⟨⟨m,l⟩,k,x1,x2,xd⟩:=x;simp only[tY,Sm] at h;split at h
 ·rename_i hs;obtain⟨zb,JW⟩:=hs;rw[<-h];simp only[Sv,Oz,ai];rw[show qi (m,l)=some (fi (m,l)) from if_pos zb,av]
  cases hc:fi (m,l) with
  |false=>rw[bk (by rfl),if_neg (by simp)]
  |true=>
   rw[bh (by rfl)];obtain⟨hm,hl,_⟩:=qX hc;have cf:dz m=true:=by have:=hc;simp only[fi,zaz] at this;exact this.1
   by_cases k0:k<0
   ·rw[bk (dY k0),if_neg (fun h=>by have:=h.2.1;omega)]
   rw[bh (dL (by omega)),nl,oH (by omega) (by omega)];by_cases k1:(l.length:Int) - 1<=k
   ·rw[bk (wA k1),if_neg (fun h=>by have:=h.2.1;omega)]
   rw[bh (DZ (by omega)),show sP (m,x1,x2,xd)=some (jv m (x1,x2,xd)) from if_pos JW,av]
   cases hx:jv m (x1,x2,xd) with
   |false=>rw[bk (by rfl),if_neg (by simp)]
   |true=>
   rw[bh (by rfl),if_pos ⟨rfl,⟨by omega,by omega⟩,rfl⟩];obtain⟨k,rfl⟩:=gI (show 0<=k by omega);have hk:k+1<l.length:=by omega
   simp only[zac];obtain⟨b,p,c,p',c',d,d',g1,g2,g3,g4,h1,h2,h3,h4,h5,h6,h7,h8,h9⟩:=Um (C6 hc) hk;rw[e9,g1,av];simp only
   rw[fq (by omega),e9,g2,av];simp only
   rw[D6 (by omega) (by omega),D6 (by omega) (by omega),D6 (by omega) (by omega)];have e1:((p:Int)*(p':Int))=((p*p':Nat):Int):=by norm_cast
   have e2:((b:Int)*(p:Int))=((b*p:Nat):Int):=by norm_cast
   have e3:((p':Int)*(c':Int))=((p'*c':Nat):Int):=by norm_cast
   have Df:CQ m (l.getD k cm) (l.getD (k+1) cm) (x1,x2,xd)↔x1=((p*p':Nat):Int)/\x2=((p*p':Nat):Int)/\b*p<=64/\p'*c'<=64:=by
    rw[g3,g4];simp only[CQ,e1,e2,e3];constructor<;>(rintro⟨a1,a2,a3,a4⟩;exact⟨a1,a2,by omega,by omega⟩)
   by_cases q1:x1=((p*p':Nat):Int)
   rotate_left
   ·rw[bk (uY q1),if_neg (fun h=>q1 (Df.1 h).1)]
   rw[bh (sD q1)];by_cases q2:x2=((p*p':Nat):Int)
   rotate_left
   ·rw[bk (uY q2),if_neg (fun h=>q2 (Df.1 h).2.1)]
   rw[bh (sD q2)];by_cases q3:b*p<=64
   rotate_left
   ·rw[bk (dY (by omega)),if_neg (fun h=>q3 (Df.1 h).2.2.1)]
   rw[bh (dL (by omega))];by_cases q4:p'*c'<=64
   rotate_left
   ·rw[bk (dY (by omega)),if_neg (fun h=>q4 (Df.1 h).2.2.2)]
   rw[bh (dL (by omega))];have hb:=Df.2 ⟨q1,q2,q3,q4⟩;rw[if_pos hb];obtain⟨b_,p_,c_,bM,c'_,d_,d'_,xd_,_,_,z3,z4,z5,_,_,_,_,_,_,_,_,_,_,_,hD,ot,V6⟩:=anX hc hk hx hb;rw[g3] at z3;rw[g4] at z4;have ep:p_=p:=by injection z3 with _ z;injection z with z _;omega
   have ep':bM=p':=by injection z4 with _ z;injection z with z _;omega
   subst ep ep';have ex:xd_=xd:=by injection z5 with _ z;injection z with _ z;exact z.symm
   subst ex;subst q1 q2;rw[g3,g4];have rV:d'.length=c*(bM*c'):=by rw[h7,zaq]
   have s1:b*p_*c<=64*32:=zad q3 h2;have s2:c*(bM*c')<=32*64:=zad h2 q4;have s3:b*p_*(bM*c')<=64*64:=zad q3 q4;have s4:p_*bM*(p_*bM)<=64*64:=zad hD hD;rw[show vz (m,(((b*p_:Nat):Int),(c:Int),d),((c:Int),((bM*c':Nat):Int),d'))=_ from axm hm (by omega) (by omega) (by omega) (by omega) (by omega) (by omega) h6 rV h8 h9,av]
   simp only
   rw[Hk (by omega) (by omega) (by omega),av];simp only
   rw[show bn 0 0 (af ([]:List (Int×(Int×(Int×aa)))))=some () from rfl]
   simp only[av,bF];have Ju:=qv ot;generalize hX:bH (p_*bM) xd_=X at*
   have Jv:dK m (p_*bM) (p_*bM) X:=by rw[<-kZ,Ju];exact V6
   have hJn:aiL m (b*p_) c (bM*c') d d'=ax (b*p_) (bM*c') (gp m c (bH c d) (bH (bM*c') d')):=rfl;generalize hJ:gp m c (bH c d) (bH (bM*c') d')=Jn at*
   have arG:∀I J,fx m (Jn I J):=fun I J=>by rw[<-hJ];exact ui hm _ _ _
   rw[hJn];have hRd:∀I,I<b*p_->I/p_*p_+I%p_=I:=fun I _=>by rw[zai];exact zaC I p_
   generalize hW:wF m p_ bM c' X Jn=W;rw[<-Ju];rw[eJ (fun i=>(((k:Int),(i:Int)),(m,l),(((p_*bM:Nat):Int),((p_*bM:Nat):Int),ax (p_*bM) (p_*bM) X),(0:Int),((b:Int),(p_:Int),(c:Int),d),((c:Int),(bM:Int),(c':Int),d'),(((b*p_:Nat):Int),((bM*c':Nat):Int)),(((b*p_:Nat):Int),((bM*c':Nat):Int)),([]:List aS),ax (b*p_) (bM*c') Jn,ax (b*p_) (bM*c') (pu p_ bM c' W i 0 0)))
    (r:=Sum.inl ((k:Int),(m,l),(0:Int),((b:Int),(p_:Int),(c:Int),d),((c:Int),(bM:Int),(c':Int),d'),(((b*p_:Nat):Int),((bM*c':Nat):Int)),([]:List aS),ax (b*p_) (bM*c') W)) b ?_ ?_ ?_ (dt (by omega))]
   ·rw[fE];simp only[dj,av];have PH:(ax (b*p_) (bM*c') W).length=b*p_*(bM*c'):=lp _ _ _;have arN:eZ m (ax (b*p_) (bM*c') W):=kZ.2 fun I _ J _=>by rw[<-hW];exact abl hm _ _ _ _ _ _ _
    rw[aq7 cf (by omega) (by omega) PH arN,av,if_pos q3];simp only
    rw[bh (by rfl),show Af (m,l)=some (m,l) from if_pos zb,av]
    simp only
    rw[pI (by show k<l.length;omega)];simp only[av,gE];rw[show cA l k=_ from g1]
    simp only[av,iO];rw[fq (by omega),pI (by show k+1<l.length;omega)];simp only[av,gE];rw[arx (by omega),show cA l (k+1)=_ from g2]
    simp only[av,iO];have hTe:w9 m l k ((b:Int),(p_:Int),(c:Int),d) ((c:Int),(bM:Int),(c':Int),d') (w7 m ((b:Int),(p_:Int),(c:Int),d) ((c:Int),(bM:Int),(c':Int),d') (ax (p_*bM) (p_*bM) X))=
      bo (bo l k ((b:Int),(p_:Int),(fz m (b*p_) (bM*c') (ax (b*p_) (bM*c') W):Int),lL m (b*p_) (bM*c') (ax (b*p_) (bM*c') W))) (k+1) ((fz m (b*p_) (bM*c') (ax (b*p_) (bM*c') W):Int),(bM:Int),(c':Int),n6 m (b*p_) (bM*c') (ax (b*p_) (bM*c') W)):=by
     have eB:w7 m ((b:Int),(p_:Int),(c:Int),d) ((c:Int),(bM:Int),(c':Int),d') (ax (p_*bM) (p_*bM) X)=ax (b*p_) (bM*c') W:=by
      simp only[w7,zac];rw[Ju,hX,hJ,hW]
     simp only[w9,zac,eB];rfl
    rw[<-hTe];have dd:oI (m,w9 m l k ((b:Int),(p_:Int),(c:Int),d) ((c:Int),(bM:Int),(c':Int),d') (w7 m ((b:Int),(p_:Int),(c:Int),d) ((c:Int),(bM:Int),(c':Int),d') (ax (p_*bM) (p_*bM) X)))<=131072:=by
     refine anW hm hc q3 q4 ?_ ?_
     ·simp only[w7,zac,lp]
     ·simp only[w7,zac];exact kZ.2 fun I _ J _=>abl hm _ _ _ _ _ _ _
    have jF:af l=af (w9 m l k ((b:Int),(p_:Int),(c:Int),d) ((c:Int),(bM:Int),(c':Int),d') (w7 m ((b:Int),(p_:Int),(c:Int),d) ((c:Int),(bM:Int),(c':Int),d') (ax (p_*bM) (p_*bM) X))):=by
     simp[w9,af]
    rw[jF];generalize w9 m l k ((b:Int),(p_:Int),(c:Int),d) ((c:Int),(bM:Int),(c':Int),d') (w7 m ((b:Int),(p_:Int),(c:Int),d) ((c:Int),(bM:Int),(c':Int),d') (ax (p_*bM) (p_*bM) X))=out at*
    simp only[dj,av];rw[show qi (m,out)=some (fi (m,out)) from if_pos (by omega),av,TI]
    cases fi (m,out) with
    |false=>rfl
    |true=>
     rw[bh (by rfl),if_pos rfl];simp only[iO,av]
   ·intro i hi;simp only
    rw[bk (ju hi)];rw[eJ (fun j=>(((k:Int),(i:Int),(j:Int)),(m,l),(((p_*bM:Nat):Int),((p_*bM:Nat):Int),ax (p_*bM) (p_*bM) X),(0:Int),((b:Int),(p_:Int),(c:Int),d),((c:Int),(bM:Int),(c':Int),d'),(((b*p_:Nat):Int),((bM*c':Nat):Int)),(((b*p_:Nat):Int),((bM*c':Nat):Int)),([]:List aS),ax (b*p_) (bM*c') Jn,ax (b*p_) (bM*c') (pu p_ bM c' W i j 0)))
     (r:=Sum.inl (((i:Int),(k:Int)),(m,l),(((p_*bM:Nat):Int),((p_*bM:Nat):Int),ax (p_*bM) (p_*bM) X),(0:Int),((b:Int),(p_:Int),(c:Int),d),((c:Int),(bM:Int),(c':Int),d'),(((b*p_:Nat):Int),((bM*c':Nat):Int)),(((b*p_:Nat):Int),((bM*c':Nat):Int)),([]:List aS),ax (b*p_) (bM*c') Jn,ax (b*p_) (bM*c') (pu p_ bM c' W (i+1) 0 0))) c' ?_ ?_ ?_ (dt (by omega))]
    ·rw[fE];simp only[bF,av,fq (show i<=1048577 by omega)]
    ·intro j hj;simp only
     rw[bk (ju hj)];rw[eJ (fun v=>(((k:Int),(i:Int),(j:Int),(v:Int)),(m,l),(((p_*bM:Nat):Int),((p_*bM:Nat):Int),ax (p_*bM) (p_*bM) X),(0:Int),((b:Int),(p_:Int),(c:Int),d),((c:Int),(bM:Int),(c':Int),d'),(((b*p_:Nat):Int),((bM*c':Nat):Int)),(((b*p_:Nat):Int),((bM*c':Nat):Int)),([]:List aS),ax (b*p_) (bM*c') Jn,ax (b*p_) (bM*c') (pu p_ bM c' W i j v)))
      (r:=Sum.inl (((j:Int),(k:Int),(i:Int)),(m,l),(((p_*bM:Nat):Int),((p_*bM:Nat):Int),ax (p_*bM) (p_*bM) X),(0:Int),((b:Int),(p_:Int),(c:Int),d),((c:Int),(bM:Int),(c':Int),d'),(((b*p_:Nat):Int),((bM*c':Nat):Int)),(((b*p_:Nat):Int),((bM*c':Nat):Int)),([]:List aS),ax (b*p_) (bM*c') Jn,ax (b*p_) (bM*c') (pu p_ bM c' W i (j+1) 0))) (p_*bM) ?_ ?_ ?_ (dt (by omega))]
     ·rw[fE];simp only[bF,av,fq (show j<=1048577 by omega)]
     ·intro v hv;have hvx:v%bM<bM:=zay _ (by omega);have hvu:v/bM<p_:=(zaj (by omega)).2 hv;have hI:=jK hi hvu;have hJJ:=jK hvx hj;simp only
      rw[bk (ju hv)];rw[eJ (fun q=>(((k:Int),(i:Int),(j:Int),(v:Int),iR m (fun q=>X v q) (fun q=>Jn (i*p_+q/bM) (q%bM*c'+j)) q,(q:Int)),(m,l),(((p_*bM:Nat):Int),((p_*bM:Nat):Int),ax (p_*bM) (p_*bM) X),(0:Int),((b:Int),(p_:Int),(c:Int),d),((c:Int),(bM:Int),(c':Int),d'),(((b*p_:Nat):Int),((bM*c':Nat):Int)),(((b*p_:Nat):Int),((bM*c':Nat):Int)),([]:List aS),ax (b*p_) (bM*c') Jn,ax (b*p_) (bM*c') (pu p_ bM c' W i j v)))
       (r:=Sum.inl ((W (i*p_+v/bM) (v%bM*c'+j),(v:Int),(k:Int),(i:Int),(j:Int)),(m,l),(((p_*bM:Nat):Int),((p_*bM:Nat):Int),ax (p_*bM) (p_*bM) X),(0:Int),((b:Int),(p_:Int),(c:Int),d),((c:Int),(bM:Int),(c':Int),d'),(((b*p_:Nat):Int),((bM*c':Nat):Int)),(((b*p_:Nat):Int),((bM*c':Nat):Int)),([]:List aS),ax (b*p_) (bM*c') Jn,ax (b*p_) (bM*c') (pu p_ bM c' W i j v))) (p_*bM) ?_ ?_ ?_ (dt (by omega))]
      ·rw[fE];simp only
       rw[aju (by omega) (by omega),av,acw (by omega),av]
       try simp only[bF,av]
       rw[xL (by omega) (by omega) (by omega),xL (by omega) (by omega) (by omega),yg (by omega) (by omega) (by omega) hI hJJ,av];rw[aDk hRd (by omega) (by omega) hj hv rfl];simp only[xo,av];rw[fE];simp only[fq (show v<=1048577 by omega)]
      ·intro q hq;have hqx:q%bM<bM:=zay _ (by omega);have hqu:q/bM<p_:=(zaj (by omega)).2 hq;simp only
       rw[bk (ju hq),pC (by omega) (by omega) (by omega) hv hq,av,aju (by omega) (by omega),av,acw (by omega),av];simp only[dj,av];rw[xL (by omega) (by omega) (by omega),xL (by omega) (by omega) (by omega),pC (by omega) (by omega) (by omega) (jK hi hqu) (jK hqx hj),av,KA hm ((ui hm _ _ q).s hm) (Jv v hv q hq).le (arG _ _).le,av];simp only[bF,av,fq (show q<=1048577 by omega),iR]
      ·simp only
       rw[bh (jt (zaf _)),<-hW,amM (by omega) hj hv]
       try simp only[bF,av]
      ·rfl
     ·simp only
      rw[bh (jt (zaf _)),aDj (by omega) (by omega) rfl]
      try simp only[bF,av]
     ·rfl
    ·simp only
     rw[bh (jt (zaf _)),aDh (by rcases zaV c' with h|h;exact .inr (by rw[h];simp);exact .inl h)]
     try simp only[bF,av]
    ·rfl
   ·simp only
    rw[bh (jt (zaf _)),aDi (by omega)]
    try simp only[bF,av]
   ·rw[aDg];rfl
 ·cases h
section
variable {A1 A2 A3 A4 A5 X Y Z T ρ:Type}
end
section
variable {p:Int} {n:Nat} {a b:aa} {ms:List mJ} {N k:Nat}
end
section
variable {p:Int} {n:Nat} {a b:aa} {ms:List mJ} {N k:Nat}
theorem UQ {α:Type} (l r:List α):bn 0 (aJ (af l) (af r)) (af (d6 l r))=some ():=vQ (by simp[aJ,af,d6])
end
def NM:aq:=[(.agg,[.int .i64,.int .i64,.int .i64]),(.agg,[.list [.int .i64],.list [.int .i64],.list [.int .i64]]),(.one,[.list [.int .i64]])]
def Zu:aq:=[(.agg,[.list [.int .i64],.list [.int .i64],.list [.int .i64]])]
def awO:bi:=[]
def S5 (NN:Nat):((Int×(Int×Int))×((aa×(aa×aa))×aa))->(Option (aa×(aa×aa))):=
 (fun(((i0,i1,i2),(l3,l4,l5),l6):((Int×(Int×Int))×((aa×(aa×aa))×aa)))=>
 (j9 l6).ae (fun l7=>
 (mE (aW (af l6)) (aW (af l6)) 8).ae (fun k8=>
 ct ((bn 0 0 (af (([]:aa)))).ae (fun _=>
 (bn 0 0 (af (([]:aa)))).ae (fun _=>
 (bn 0 0 (af (([]:aa)))).ae (fun _=>
 ai l7 (
 (bn 0 k8 (af (dU k8 (0:Int)))).ae (fun _=>
 (bn 0 0 (af (([]:aa)))).ae (fun _=>
 cq NN (fun(((l9,cR,fj,ef),(fR,fk,gx),(eF,dv,gA),jg,hZ,fW,eo,jp,jh):((aa×(aa×(Int×Int)))×((Int×(Int×Int))×((aa×(aa×aa))×(aa×(aa×(aa×(aa×(aa×aa)))))))))=>
 aD (cj ef fj)
 ((cW cR ef).ae (fun ii=>
 (wU ((eF,dv,gA),ii)).ae (fun jH=>
 (cW dv jH).ae (fun ij=>
 (c7 ef (af jp)).ae (fun sj=>
 (cA jp (aJ 0 sj)).ae (fun kH=>
 ai jg (
 ai hZ (
 ai fW (
 ai eo (
 (bn 0 (af jp) (af (bo jp (aJ 0 sj) ij))).ae (fun _=>
 ai jh (
 some (Sum.inl ((l9,cR,fj,bE .i64 ef 1),(fR,fk,gx),(eF,dv,gA),jg,hZ,fW,eo,bo jp (aJ 0 sj) ij,jh))))))))))))))
 ((ai jg (
 ai hZ (
 ai fW (
 ai eo (
 ai jp (
 ai jh (
 some (Sum.inl (l9,(fR,fk,gx),(eF,dv,gA),jg,hZ,fW,eo,jp,jh))))))))).ae (fun kL=>
 some (Sum.inr kL))))
 ((l6,l6,aW (af l6),(0:Int)),(i0,i1,i2),(l3,l4,l5),([]:aa),([]:aa),([]:aa),l7,dU k8 (0:Int),([]:aa)))))))))
 (fun(iU,(gZ,kI,io),(ru,iN,jq),lA,kM,lR,ib,kq,iE)=>
 (t9 ((ru,iN,jq),iU)).ae (fun gM=>
 (mE (aW (af iU)) (aW (af iU)) 8).ae (fun W7=>
 ai gM (
 (bn 0 W7 (af (dU W7 (0:Int)))).ae (fun _=>
 ai lA (
 ai kM (
 ai lR (
 ai ib (
 ai kq (
 ai iE (
 cq NN (fun(((jJ,jo,kj),(lB,uN,sq),sr,oC,nI,mD,kt,ic,mX,iV):((Int×(Int×Int))×((aa×(aa×aa))×(aa×(aa×(aa×(aa×(aa×(aa×(aa×aa))))))))))=>
 (bZ mX 0 (af mX)).ae (fun ku=>
 (bZ iV 0 (af iV)).ae (fun kN=>
 (vu (ku,kN)).ae (fun nF=>
 (sQ ((jJ,jo,kj),(lB,uN,sq),nF)).ae (fun rv=>
 ai ic (
 (kC (aJ (af ic) (af rv)) 8).ae (fun _=>
 (bZ kt 0 (af kt)).ae (fun Kw=>
 ai iV (
 (t7 (Kw,iV)).ae (fun(b65,sv)=>
 aD (d9 b65)
 (((dW mD (af mD)).ae (fun G0=>
 (dW kt (af kt)).ae (fun uO=>
 (dW (d6 ic rv) (aJ (af ic) (af rv))).ae (fun uP=>
 some (G0,uO,uP))))).ae (fun((uQ,tD,nK):(aa×(aa×aa)))=>
 some (Sum.inr (uQ,tD,nK))))
 (ai mX (
 (bn 0 (af iV) (af sv)).ae (fun _=>
 ai sr (
 ai oC (
 ai nI (
 ai mD (
 ai kt (
 (bn 0 (aJ (af ic) (af rv)) (af (d6 ic rv))).ae (fun _=>
 some (Sum.inl ((jJ,jo,kj),(lB,uN,sq),sr,oC,nI,mD,kt,d6 ic rv,mX,sv)))))))))))))))))))))
 ((gZ,kI,io),(ru,iN,jq),lA,kM,lR,ib,kq,iE,gM,dU W7 (0:Int))))))))))))))))
theorem zY {r:Rg} {L D A:aa} (h:gB r (L,D,A)=true):oN L D=true/\eH D<=4096:=by
 simp only[gB,zaz,decide_eq_true_eq] at h;obtain⟨h1,h2,h3,h4⟩:=h;by_cases ha:oN L D=true/\eH D<=4096
 ·exact ha
 ·have e:kx L D= -1:=if_neg ha;rw[e] at h2;exact absurd h2 (by decide)
theorem acs (r:Rg) (A:aa) (off:Nat->Nat):∀n,(qW r A off n).length<=n*cI r
 |0=>by simp[qW]
 |n+1=>by
  have ih:=acs r A off n;unfold qW;rw[zae,zat,zaT];have:(lZ A (off n*cI r) (cI r)).length<=cI r:=by unfold lZ;rw[zaS];omega
  omega
theorem azc {L D S:aa} (I:kz L D S) (n:Nat):sN (fun i=>((bV (fY L D S) n).getD i 0).toNat*((vm L D S).getD i 0).toNat) (vm L D S).length=mG L D S n:=by
 rw[show(vm L D S).length=S.length from dV _ _]
 unfold mG;refine Lc _ fun i hi=>?_;rw[zq (by unfold fY;rw[dV];exact hi)];unfold gP;rw[rC I.nS hi];congr 1;unfold vm;rw[zaa,lD _ hi];exact zac _
theorem aCA {L D S:aa} (I:kz L D S) (hp:aL D<=4096):HP (vm L D S) 1048576:=by
 refine⟨by unfold vm;rw[dV,I.Lr];exact I.dO,fun x hx=>?_⟩;obtain⟨i,hi,rfl⟩:=zaH.1 hx;have h1:=I.CN (zaA.1 hi);have:=abb I.jC (i:=bS L (S.getD i 0)+1) (by have:=I.len;omega);omega
theorem atx {L D S:aa} (I:kz L D S) (n:Nat):HP (bV (fY L D S) n) 8:=by
 refine⟨by unfold bV fY;rw[dV,dV,I.Lr];exact I.dO,fun x hx=>?_⟩;obtain⟨i,hi,rfl⟩:=zaH.1 hx;have hi:i<S.length:=by have:=zaA.1 hi;unfold fY at this;rwa[dV] at this
 have h1:=I.ac4 n hi;have h2:=I.iQ _ (gS (l:=D) (i:=bS L (S.getD i 0)) (by have:=I.CN hi;have:=I.len;omega));omega
theorem anI {L D A S:aa} (I:kz L D S) {i:Nat} (hi:i<S.length):rR L (S.getD i 0)=((bS L (S.getD i 0):Nat):Int):=if_pos (I.CN hi)
def Eb (L D S:aa) (j:Nat) (i:Nat):Int:=if i<j then D.getD (bS L (S.getD i 0)) 0 else 0
theorem aCz {L D S:aa} (I:kz L D S):qf L D S=vm L D S:=gQ fun i hi=>if_pos (I.CN hi)
theorem aqs (x:Rg×T3×aa) (y:T3) (h:E1 x=some y):S5 aI x=some y:=by
 obtain⟨⟨k,p,m⟩,⟨L,D,A⟩,S⟩:=x;simp only[E1,abF] at h;split at h
 ·rename_i hc;rw[<-h];obtain⟨ht,hS⟩:=hc
  try dsimp only at ht hS
  have nq:=(zY ht).1;have I:=kz.mk' nq hS;obtain⟨hr,⟨hl,hd⟩,GC,⟨tv,rj⟩,hA,hD,mr,hpI,_⟩:=zZ ht;have hw:=Cf hr;have vR:=I.dO;have hll:=I.len;have lv:=I.Lr;have PY:=I.prod;have hDP:=I.aoK;have lO:(fY L D S).length=S.length:=dV _ _;simp only[S5,ai];rw[show j9 S=some S from if_pos (by omega)]
  simp only[dm];rw[x3 (by simp only[af,fo];omega)];simp only[dm,bF];rw[show bn 0 0 (af ([]:aa))=some () from rfl,show bn 0 (af S) (af (dU (af S) (0:Int)))=some () from vQ (by simp[af,dU])]
  simp only[dm];rw[eJ (r:=Sum.inl (S,(k,p,m),(L,D,A),([]:aa),([]:aa),([]:aa),S,fY L D S,([]:aa))) (fun j=>((S,S,(S.length:Int),(j:Int)),(k,p,m),(L,D,A),([]:aa),([]:aa),([]:aa),S,bB S.length (Eb L D S j),([]:aa))) S.length ?a1 ?a2 ?a3 (dt (by omega))]
  case a3=>
   rw[K3];rfl
  case a2=>
   dsimp only
   rw[bh (dL (by omega))]
   try simp only[bF,dm]
   rw[show bB S.length (Eb L D S S.length)=fY L D S from gQ fun i hi=>if_pos hi]
  case a1=>
   intro i hi;dsimp only
   have cY:=I.CN hi;rw[bk (dY (by omega)),e9,jb hi];simp only[dm];rw[show wU ((L,D,A),S.getD i 0)=some (rR L (S.getD i 0)) from if_pos (by dsimp only;omega),anI (A:=A) I hi]
   simp only[dm];rw[e9,jb (l:=D) (i:=bS L (S.getD i 0)) (by omega)];simp only[dm];rw[s7 _ hi];simp only[dm,gE];rw[qw _ hi];simp only[dm,bF];rw[yf,show bn 0 (af (bB S.length (Eb L D S i))) (af (bB S.length fun q=>if q=i then D.getD (bS L (S.getD i 0)) 0 else Eb L D S i q))=some () from nj _ _ _]
   simp only[dm];rw[f7 (by omega) (by omega)];rw[show bB S.length (fun q=>if q=i then D.getD (bS L (S.getD i 0)) 0 else Eb L D S i q)=bB S.length (Eb L D S (i+1)) from gQ fun q hq=>by
    unfold Eb;by_cases mS:q=i
    ·subst mS;rw[if_pos rfl,if_pos (by omega)]
    ·rw[if_neg mS];by_cases cC:q<i
     ·rw[if_pos cC,if_pos (by omega)]
     ·rw[if_neg cC,if_neg (by omega)]]
   rfl
  simp only[ct,Option.bind];rw[show t9 ((L,D,A),S)=some (vm L D S) from(if_pos ⟨nq,by dsimp only;have:=I.Lr;have:=I.dO;omega,rj⟩).trans (congrArg some (aCz I))]
  simp only[dm];rw[x3 (by simp only[af,fo];omega)];simp only[dm,bF];rw[show bn 0 (af S) (af (dU (af S) (0:Int)))=some () from vQ (by simp[af,dU])]
  simp only[dm];have ar2:dU (af S) (0:Int)=bV (fY L D S) 0:=by
   have:=agb hDP;rw[show af (fY L D S)=af S from lO] at this
   exact this
  have JV:∀n,n<aL D->vu (vm L D S,bV (fY L D S) n)=some ((mG L D S n:Nat):Int)/\sQ ((k,p,m),(L,D,A),((mG L D S n:Nat):Int))=some (lZ A (mG L D S n*cI (k,p,m)) (cI (k,p,m)))/\
    kC (aJ (af (qW (k,p,m) A (mG L D S) n)) (af (lZ A (mG L D S n*cI (k,p,m)) (cI (k,p,m))))) 8=some ()/\t7 (fY L D S,bV (fY L D S) n)=some (decide (n+1<aL D),bV (fY L D S) (n+1)):=by
   intro n hn;have ho:=I.aiW n;refine⟨?_,?_,?_,?_⟩
   ·rw[<-azc I n];exact if_pos ⟨(aCA I rj).m,(atx I n).m,by show(vm L D S).length=(bV (fY L D S) n).length;unfold vm bV;rw[dV,dV,lO]⟩
   ·have h1:(mG L D S n+1)*cI (k,p,m)<=aL D*cI (k,p,m):=zas _ ho;have h2:aL D*cI (k,p,m)<=4096*6:=zad rj hw.2.2;rw[show sQ ((k,p,m),(L,D,A),((mG L D S n:Nat):Int))=_ from if_pos ⟨hr,by dsimp only;omega,by dsimp only;rw[zac];omega,by dsimp only;omega⟩]
    rfl
   ·have h1:=acs (k,p,m) A (mG L D S) n;have h2:n*cI (k,p,m)<=4096*6:=zad (by omega) hw.2.2;have h3:(lZ A (mG L D S n*cI (k,p,m)) (cI (k,p,m))).length<=6:=by unfold lZ;rw[zaS];omega
    exact pQ (by simp only[aJ,af,fo];omega)
   ·have:=XX hDP (n:=n) (by rw[PY];exact hn) (by rw[PY];omega);rw[PY] at this;exact this
  rw[ar2];rw[eJ (r:=zH (k,p,m) (L,D,A) S) (fun n=>((k,p,m),(L,D,A),([]:aa),([]:aa),([]:aa),S,fY L D S,qW (k,p,m) A (mG L D S) n,vm L D S,bV (fY L D S) n)) (aL D - 1) ?b1 ?b2 ?b3 (dt (by omega))]
  case b3=>rfl
  case b2=>
   obtain⟨q1,q2,q3,q4⟩:=JV (aL D - 1) (by omega);dsimp only
   simp only[dj,bF,dm];rw[q1];simp only[dm];rw[q2];simp only[dm];rw[q3];simp only[dm];rw[q4];simp only[dm];rw[decide_eq_false (by omega),bk (b:=d9 false) rfl];simp only[iO,dm];rw[aCO (by simp[aJ,af,d6])];simp only[dm];show some (Sum.inr (S,fY L D S,qW (k,p,m) A (mG L D S) (aL D - 1)++lZ A (mG L D S (aL D - 1)*cI (k,p,m)) (cI (k,p,m))))=some (Sum.inr (S,fY L D S,qW (k,p,m) A (mG L D S) (aL (fY L D S))));rw[PY];obtain⟨N,hN⟩:∃N,aL D=N+1:=⟨aL D - 1,by omega⟩;rw[hN];rfl
  case b1=>
   intro n hn;obtain⟨q1,q2,q3,q4⟩:=JV n (by omega);dsimp only
   simp only[dj,bF,dm];rw[q1];simp only[dm];rw[q2];simp only[dm];rw[q3];simp only[dm];rw[q4];simp only[dm];rw[decide_eq_true (by omega),bh (b:=d9 true) rfl];rw[show bn 0 (af (bV (fY L D S) n)) (af (bV (fY L D S) (n+1)))=some () from by unfold bV;exact nj _ _ _]
   simp only[dm];rw[UQ];rfl
 ·cases h
def Nh:aq:=[(.agg,[.int .i64,.int .i64,.int .i64]),(.agg,[.list [.int .i64],.list [.int .i64],.list [.int .i64]])]
def Y1:aq:=[(.agg,[.list [.int .i64],.list [.int .i64],.list [.int .i64]])]
def awp:bi:=[]
def SH (NN:Nat):((Int×(Int×Int))×(aa×(aa×aa)))->(Option (aa×(aa×aa))):=
 (fun(((i0,i1,i2),l3,l4,l5):((Int×(Int×Int))×(aa×(aa×aa))))=>
 (oM ((i0,i1,i2),l3,l4,l5)).ae (fun b6=>
 aD (d9 b6)
 (some (([]:aa),([]:aa),([]:aa)))
 ((E7 l3).ae (fun l7=>
 (bZ l7 0 (af l7)).ae (fun l8=>
 (E1 ((i0,i1,i2),(l3,l4,l5),l8)).ae (fun(l9,cR,cE)=>
 (dW l9 (af l9)).ae (fun dO=>
 (dW cR (af cR)).ae (fun dG=>
 (dW cE (af cE)).ae (fun dA=>
 some (dO,dG,dA))))))))))
theorem Cg {α:Type} (x:α):bZ [x] 0 1=some [x]:=rfl
theorem apV (x:Rg×T3) (y:T3) (h:Ad x=some y):SH aI x=some y:=by
 obtain⟨⟨k,p,m⟩,L,D,A⟩:=x;simp only[Ad,abz] at h;split at h
 ·rename_i hc;rw[<-h];simp only[SH];rw[show oM ((k,p,m),L,D,A)=some (gB (k,p,m) (L,D,A)) from if_pos hc]
  simp only[dm];unfold ph;cases ht:gB (k,p,m) (L,D,A) with
  |false=>rw[bk (b:=d9 false) rfl,if_neg (by simp)]
  |true=>
   have vR:=(rP (zY ht).1).1;rw[bh (b:=d9 true) rfl,if_pos rfl,show E7 L=some (iw L L.length) from if_pos vR]
   simp only[dm,dj];rw[show E1 ((k,p,m),(L,D,A),iw L L.length)=some (zH (k,p,m) (L,D,A) (iw L L.length)) from if_pos ⟨ht,rfl⟩]
   simp only[dm,zH,iO]
 ·cases h
abbrev qh:=Nat×aa×List aS
def cK (m:Int) (D:aa) (i:Nat) (st:qh):Nat:=fz m (st.1*(D.getD i 0).toNat) (bQ D (i+1)) st.2.1
def yD (m:Int) (D:aa) (i:Nat) (st:qh):qh:=
 (cK m D i st,n6 m (st.1*(D.getD i 0).toNat) (bQ D (i+1)) st.2.1,st.2.2++[((st.1:Int),D.getD i 0,(cK m D i st:Int),lL m (st.1*(D.getD i 0).toNat) (bQ D (i+1)) st.2.1)])
def II (D:aa) (i:Nat) (st:qh):Bool:=decide (st.1*(D.getD i 0).toNat<=64/\bQ D (i+1)<=64)
def T2 (m:Int) (D:aa) (i:Nat) (st:qh) (_:Nat):Option qh:=if II D i st=true then(if cK m D i st<=32 then some (yD m D i st) else none) else none
def DY (D:aa) (st:qh):List aS:=st.2.2++[((st.1:Int),D.getD (D.length - 1) 0,1,st.2.1)]
structure yq (m:Int) (D A:aa):Prop where
 pr:dz m=true
 l1:1<=D.length
 l8:D.length<=8
 iQ:∀x∈D,1<=x/\x<=8
 pn:aL D<=4096
 len:A.length=aL D
 el:eZ m A
structure wX (m:Int) (D:aa) (i:Nat) (st:qh):Prop where
 left:st.1<=64
 len:st.2.1.length=st.1*bQ D i
 el:eZ m st.2.1
 lH:st.2.2.length=i
 sz:zW st.2.2<=i*5000
theorem aCK (L:List aS) (s:aS):zW (L++[s])=zW L+1+s.2.2.2.length:=by
 simp only[zW,zae,zar,zbA,zag,zah,zav,List.map_nil,zaU,List.sum_nil];show _=_+1+sL s;omega
theorem wX.rc {m:Int} {D A:aa} (h:yq m D A) {i:Nat} (hi:i<D.length - 1) {st:qh} (I:wX m D i st):st.2.1.length=st.1*(D.getD i 0).toNat*bQ D (i+1):=by
 rw[I.len,tU (by omega),zaq]
theorem wX.next {m:Int} {D A:aa} (h:yq m D A) {i:Nat} (hi:i<D.length - 1) {st:qh} (I:wX m D i st) (hf:II D i st=true):wX m D (i+1) (yD m D i st):=by
 have hf:=of_decide_eq_true hf;obtain⟨_,f1,f2,f3,f4,f5,f6⟩:=Jf (gn h.pr) (wX.rc h hi I) I.el;refine⟨by show fz _ _ _ _<=64;omega,f5,f6,by show(st.2.2++[_]).length=_;rw[zae,I.lH];rfl,?_⟩;show zW (st.2.2++[_])<=_;rw[aCK];show zW st.2.2+1+(lL _ _ _ _).length<=_;rw[f3];have h1:st.1*(D.getD i 0).toNat*fz m (st.1*(D.getD i 0).toNat) (bQ D (i+1)) st.2.1<=64*64:=zad hf.1 (by omega);have:=I.sz;omega
structure CF (m:Int) (D:aa) (i:Nat) (st:qh):Prop where
 s:wX m D i st
 left:st.1<=32
 ch:iH (qq m) 0 1 st.2.2=some (st.1:Int)
 I0:bw st.2.2=D.take i
theorem Pt {S α:Type} (step:Nat->S->α->Option S) (a:α):∀(l:List α) (i:Nat) (s:S),iH step i s (l++[a])=match iH step i s l with|some s'=>step (i+l.length) s' a|none=>none
 |[],i,s=>by
  simp only[za9,iH,zah,zbq];cases step i s a<;>rfl
 |b::l,i,s=>by
  simp only[zbJ,iH];cases step i s b with
  |none=>rfl
  |some s1=>
   simp only
   rw[Pt step a l (i+1) s1,zag,show i+1+l.length=i+(l.length+1) by omega]
theorem ac5 {m:Int} {D A:aa} (h:yq m D A) {i:Nat} (hi:i<D.length):∃d:Nat,D.getD i 0=(d:Int)/\(D.getD i 0).toNat=d/\1<=d/\d<=8:=by
 have:=h.iQ _ (gS hi);exact⟨(D.getD i 0).toNat,by omega,rfl,by omega,by omega⟩
theorem CF.next {m:Int} {D A:aa} (h:yq m D A) {i:Nat} (hi:i<D.length - 1) {st:qh} (I:CF m D i st) (hf:II D i st=true) (hk:cK m D i st<=32):CF m D (i+1) (yD m D i st):=by
 have hs:=wX.next h hi I.s hf;obtain⟨d,d1,d2,d3,d4⟩:=ac5 h (i:=i) (by omega);obtain⟨_,f1,f2,f3,f4,f5,f6⟩:=Jf (gn h.pr) (wX.rc h hi I.s) I.s.el;refine⟨hs,hk,?_,?_⟩
 ·show iH (qq m) 0 1 (st.2.2++[_])=some ((cK m D i st:Nat):Int);rw[Pt,I.ch];show qq m _ _ _=_;refine if_pos ⟨?_,rfl⟩;have Ui:(lL m (st.1*(D.getD i 0).toNat) (bQ D (i+1)) st.2.1).length=st.1*(D.getD i 0).toNat*cK m D i st:=f3;generalize lL m (st.1*(D.getD i 0).toNat) (bQ D (i+1)) st.2.1=fa at Ui f4⊢;rw[d2] at Ui;rw[d1];exact Et I.left hk ⟨d3,d4⟩ Ui f4
 ·show bw (st.2.2++[_])=_;unfold bw;rw[zar];show bw st.2.2++[D.getD i 0]=_;rw[I.I0,zax,jb (by omega)];rfl
theorem CF.fin {m:Int} {D A:aa} (h:yq m D A) {st:qh} (I:CF m D (D.length - 1) st):fi (m,DY D st)=true:=by
 have l1:=h.l1;obtain⟨d,d1,d2,d3,d4⟩:=ac5 h (i:=D.length - 1) (by omega);have hlen:=I.s.len;rw[tU (by omega),show D.length - 1+1=D.length by omega,tT,zam,d2] at hlen;have JC:=I.s.lH;have kE:iH (qq m) 0 1 (DY D st)=some 1:=by
  unfold DY;rw[Pt,I.ch];show qq m _ _ _=_;refine if_pos ⟨?_,rfl⟩;rw[d1];exact Et (c:=1) I.left (by omega) ⟨d3,d4⟩ (by rw[hlen,zam]) I.s.el
 have n9:bw (DY D st)=D:=by
  unfold DY bw;rw[zar];show bw st.2.2++[D.getD (D.length - 1) 0]=_;rw[I.I0];have:=zax (l:=D) (i:=D.length - 1);rw[show D.length - 1+1=D.length by omega,zan,jb (by omega)] at this;exact this.symm
 have hp:eH D<=4096:=by
  rw[x7 fun x hx=>(h.iQ x hx).1];have:=h.pn;omega
 have hll:(DY D st).length=D.length:=by
  unfold DY;rw[zae,JC];show D.length - 1+1=_;omega
 simp only[fi,h.pr,kE,n9,hll,zbi];rw[decide_eq_true ⟨l1,h.l8⟩,decide_eq_true hp];rfl
theorem aol {n:Nat} (h1:1<=n) (h:n<=1000):iy .i64 (n:Int) 1=((n - 1:Nat):Int):=by rw[oH (by omega) (by omega)];omega

def Oh:aq:=[(.ptr,[.list [.int .u8],.int .i64,.int .i64]),(.one,[.int .i64]),(.one,[.int .i64]),(.one,[.int .i64])]
def ZZ:aq:=[(.agg,[.int .i64,.int .i64,.list [.int .i64]]),(.ptr,[.list [.int .u8],.int .i64,.int .i64])]
def axh:bi:=[[some .aV]]
def MD (NN:Nat):((aa×(Int×Int))×(Int×(Int×Int)))->(Option ((Int×(Int×aa))×(aa×(Int×Int)))):=
 (fun(((l0,i1,i2),i3,i4,i5):((aa×(Int×Int))×(Int×(Int×Int))))=>
 (CD (i4,i5)).ae (fun(i6,i7,l8)=>
 ct ((bn 0 0 (af (([]:aa)))).ae (fun _=>
 ai l8 (
 cq NN (fun(((i9,cX,fj,ef,fR),(dA,gx,fI),(fB,fS),(fC,ff),fW,eo):((Int×(Int×(Int×(Int×Int))))×((aa×(Int×Int))×((Int×Int)×((Int×Int)×(aa×aa))))))=>
 aD (cj fR ef)
 ((Ao ((dA,gx,fI),(3:Int))).ae (fun(IG,jh,ii,jH)=>
 aD (d9 IG)
 ((vA ((jh,ii,jH),iW i9 (256:Int))).ae (fun(ij,iT,kH,ik)=>
 (c7 fR (af eo)).ae (fun wk=>
 (cA eo (aJ 0 wk)).ae (fun gZ=>
 ai fW (
 (bn 0 (af eo) (af (bo eo (aJ 0 wk) ij))).ae (fun _=>
 some (Sum.inl ((i9,cX,fj,ef,bE .i64 fR 1),(iT,kH,ik),(fB,fS),(fC,ff),fW,bo eo (aJ 0 wk) ij))))))))
 (ai fW (
 ai eo (
 some (Sum.inl ((i9,cX,fj,ef,bE .i64 fR 1),(jh,ii,jH),(fB,fS),(fC,ff),fW,eo)))))))
 ((ai fW (
 ai eo (
 some (Sum.inl ((cX,fj),(dA,gx,fI),(fB,fS),(fC,ff),fW,eo))))).ae (fun ji=>
 some (Sum.inr ji))))
 ((i3,i4,i5,aW (af l8),(0:Int)),(l0,i1,i2),((0:Int),(0:Int)),(i6,i7),([]:aa),l8))))
 (fun((io,gH),(iN,jW,jI),(iK,iL),(mA,iM),iE,gM)=>
 aD (cj (1:Int) io)
 ((Ao ((iN,jW,jI),(3:Int))).ae (fun(b45,jr,jo,kj)=>
 ct (aD (b45)
 (ai iE (
 ai gM (
 cq NN (fun(((oW,mB),(sq,nE,pV),(ov,r6),(rn,xI),mX,iV):((Int×Int)×((aa×(Int×Int))×((Int×Int)×((Int×Int)×(aa×aa))))))=>
 aD (cj mB oW)
 ((c7 mB (af iV)).ae (fun k60=>
 (cA iV (aJ 0 k60)).ae (fun Dz=>
 (c7 (bE .i64 oW mB) (af iV)).ae (fun Xa=>
 (cA iV (aJ 0 Xa)).ae (fun lz=>
 ai mX (
 (bn 0 (af iV) (af (bo iV (aJ 0 Xa) Dz))).ae (fun _=>
 some (Sum.inl ((oW,bE .i64 mB 1),(sq,nE,pV),(ov,r6),(rn,xI),mX,bo iV (aJ 0 Xa) Dz)))))))))
 ((ai mX (
 ai iV (
 some (Sum.inl ((sq,nE,pV),(ov,r6),(rn,xI),mX,iV))))).ae (fun Kw=>
 some (Sum.inr Kw))))
 ((gH,(0:Int)),(jr,jo,kj),(iK,iL),(mA,iM),iE,gM))))
 (ai iE (
 ai gM (
 some (Sum.inl ((jr,jo,kj),(iK,iL),(mA,iM),iE,gM))))))
 (fun((DU,r7,kJ),(r8,tz),(rp,pW),nK,G4)=>
 (bZ G4 0 (af G4)).ae (fun xV=>
 some ((rp,pW,xV),DU,r7,kJ)))))
 (ct (ai iE (
 ai gM (
 some (Sum.inl ((iN,jW,jI),(iK,iL),(mA,iM),iE,gM)))))
 (fun((xW,lQ,tB),(mU,oY),(rq,r9),lC,oD)=>
 (bZ oD 0 (af oD)).ae (fun wv=>
 some ((rq,r9,wv),xW,lQ,tB)))))))
def CC:((aa×(Int×Int))×(Int×(Int×Int)))->(Option ((Int×(Int×aa))×(aa×(Int×Int)))):=MD aI
theorem aqY (x:((aa×(Int×Int))×(Int×(Int×Int)))) (z:((Int×(Int×aa))×(aa×(Int×Int)))) (h:CC x=some z):MD aI x=some z:=h
def N8:aq:=[(.one,[.list [.int .u8]]),(.one,[.int .i64]),(.one,[.int .i64]),(.one,[.int .i64]),(.one,[.int .i64])]
def ZQ:aq:=[(.agg,[.int .i64,.int .i64,.list [.int .i64]])]
def aw8:bi:=[[some .aV]]
def Mu (NN:Nat):(aa×(Int×(Int×(Int×Int))))->(Option (Int×(Int×aa))):=
 (fun((l0,i1,i2,i3,i4):(aa×(Int×(Int×(Int×Int)))))=>
 (wW (l0,i1)).ae (fun(l5,i6,i7)=>
 (CC ((l5,i6,i7),i2,i3,i4)).ae (fun((i8,i9,cR),cE,ef,fR)=>
 some (i8,i9,cR))))
def Al:(aa×(Int×(Int×(Int×Int))))->(Option (Int×(Int×aa))):=Mu aI
theorem aqO (x:(aa×(Int×(Int×(Int×Int))))) (z:(Int×(Int×aa))) (h:Al x=some z):Mu aI x=some z:=h
theorem ahh {p:Int} (h:2<=p):1<=iW p 256/\iW p 256<=p:=by rw[ahf];omega
theorem Xv {α:Type} (l:List α):af l=l.length:=rfl
theorem ade (c:Cu) (p:Int) (r k:Nat) (h:mf c) (hp:eW p) (hr:r<=100) (hk:k<=100):
  ∃d c',CC (c,p,(r:Int),(k:Int))=some (((r:Int),(k:Int),d),c')/\d.length=r*k/\eZ p d/\mf c':=by
 obtain⟨cl,ci,ch⟩:=c;have hrk:r*k<=10000:=by
  have:=zad hr hk;omega
 simp only[CC,MD,ai];rw[aiR (by omega) (by omega) (by omega)];simp only[av,ae4,bF];generalize hL:cq aI _ _=o;obtain⟨s,rfl,c',d,rfl,dJ,hl,hd⟩:∃s,o=some s/\∃(c':Cu) (d:aa),s=Sum.inl (((r:Int),(k:Int)),c',(0,0),((r:Int),(k:Int)),[],d)/\mf c'/\d.length=r*k/\eZ p d:=by
  rw[<-hL];refine Hd (r*k) (fun j (s:((Int×(Int×(Int×(Int×Int))))×((aa×(Int×Int))×((Int×Int)×((Int×Int)×(aa×aa))))))=>∃(c':Cu) (d:aa),s=((p,(r:Int),(k:Int),((r*k:Nat):Int),(j:Int)),c',(0,0),((r:Int),(k:Int)),[],d)/\mf c'/\d.length=r*k/\eZ p d) _ ?_ ?_ ?_ (dt (by omega))
  ·rintro j s hj ⟨⟨l1,i1,h1⟩,d,rfl,hc,hl,hd⟩;dsimp only
   rw[bk (dY (by omega))];obtain⟨b,⟨l2,i2,h2⟩,e2,hc⟩:=X8 _ 3 hc (by decide);rw[e2];simp only[av];cases b
   ·rw[bk (show d9 false=true from rfl)]
    obtain⟨x,⟨l3,i3,h3⟩,e3,hx,_,hc⟩:=Fw _ (iW p 256) hc (ahh hp.1).1;have hm:=(ahh hp.1).2;rw[e3];simp only[av];have oS:j<d.length:=by omega
    rw[pI (show j<af d by rw[Xv];exact oS)];simp only[av,gE];rw[show cA d j=some d[j] from zab oS]
    simp only[av];rw[show bn 0 (af d) (af (bo d j x))=some () from vQ (by simp[af,bo])]
    simp only[av];rw[f7 (by omega) (by omega)];refine⟨_,rfl,_,_,rfl,hc,by unfold bo;rw[zba];exact hl,?_⟩;intro e he;unfold bo at he;rcases zau he with h|h
    ·exact hd e h
    ·subst h;exact⟨hx.1,by omega⟩
   ·rw[bh (show d9 true=false from rfl)]
    rw[f7 (by omega) (by omega)];exact⟨_,rfl,_,_,rfl,hc,hl,hd⟩
  ·rintro s ⟨⟨l1,i1,h1⟩,d,rfl,hc,hl,hd⟩;dsimp only
   rw[bh (dL (by omega))];exact⟨_,rfl,_,_,rfl,hc,hl,hd⟩
  ·refine⟨_,_,?_,h,lp r k _,kZ.2 (fun i j _ _=>⟨Int.le_refl _,by have:=hp.1;omega⟩)⟩;rw[show aW (af (ax r k fun _ _=>0))=((r*k:Nat):Int) by unfold aW af;rw[lp]];rfl
 obtain⟨l1,i1,h1⟩:=c';simp only[ct,Option.bind,Option.ae];by_cases hc:1<r
 ·rw[bk (dY (by omega))];obtain⟨b,⟨l2,i2,h2⟩,e2,AY⟩:=X8 _ 3 dJ (by decide);rw[e2];dsimp only
  cases b
  ·simp only[CU,bF,dj];exact⟨_,_,rfl,hl,hd,AY⟩
  ·simp only[FK,bF,dj];generalize hL:cq aI _ _=o;obtain⟨s,rfl,d',rfl,fv,rV⟩:∃s,o=some s/\∃(d':aa),s=Sum.inl ((l2,i2,h2),(0,0),((r:Int),(k:Int)),[],d')/\d'.length=r*k/\eZ p d':=by
    rw[<-hL];refine Hd k (fun j (s:((Int×Int)×((aa×(Int×Int))×((Int×Int)×((Int×Int)×(aa×aa))))))=>∃(d:aa),s=(((k:Int),(j:Int)),(l2,i2,h2),(0,0),((r:Int),(k:Int)),[],d)/\d.length=r*k/\eZ p d) _ ?_ ?_ ⟨_,rfl,hl,hd⟩ (dt (by omega))
    ·rintro j s hj ⟨d,rfl,hl,hd⟩;dsimp only
     have aDS:2*k<=r*k:=zas k hc;rw[bk (dY (by omega))];have VA:j<d.length:=by omega
     have hj2:k+j<d.length:=by omega
     rw[f7 (by omega) (by omega),show((k:Int)+(j:Int))=((k+j:Nat):Int) by push_cast;rfl];rw[pI (show j<af d by rw[Xv];exact VA),pI (show k+j<af d by rw[Xv];exact hj2)];simp only[gE];rw[show cA d j=some d[j] from zab VA,show cA d (k+j)=some d[k+j] from zab hj2]
     dsimp only
     rw[show bn 0 (af d) (af (bo d (k+j) d[j]))=some () from vQ (by simp[af,bo])]
     dsimp only
     rw[f7 (by omega) (by omega)];refine⟨_,rfl,_,rfl,by unfold bo;rw[zba];exact hl,?_⟩;intro e he;unfold bo at he;rcases zau he with h|h
     ·exact hd e h
     ·subst h;exact hd _ (za2 VA)
    ·rintro s ⟨d,rfl,hl,hd⟩;dsimp only
     rw[bh (dL (by omega))];exact⟨_,rfl,_,rfl,hl,hd⟩
   simp only[dj];exact⟨_,_,rfl,fv,rV,AY⟩
 ·rw[bh (dL (by omega))];simp only[bF,dj];exact⟨_,_,rfl,hl,hd,dJ⟩
theorem Tg (l:aa) (n p:Int) (r k:Nat) (h:l.length<=1048576) (hn:0<=n) (hp:eW p) (hr:r<=100) (hk:k<=100):
  ∃d,Al (l,n,p,(r:Int),(k:Int))=some ((r:Int),(k:Int),d)/\d.length=r*k/\eZ p d:=by
 obtain⟨⟨l',i',k'⟩,e,hc⟩:=IE l n h hn;obtain⟨d,⟨l1,i1,k1⟩,e1,hl,hd,_⟩:=ade _ p r k hc hp hr hk;simp only[Al,Mu];rw[e];simp only[av];rw[e1];exact⟨_,rfl,hl,hd⟩
theorem aAr:dz 2=true:=by decide+kernel
theorem aAs:dz 3=true:=by decide+kernel
theorem aAt:dz 7=true:=by decide+kernel
theorem aAq:dz 101=true:=by decide+kernel
theorem aAp:dz 1000003=true:=by decide+kernel
structure Iy (p:Int) (r:Nat) (M N:bC) (t k j:Nat) (inv:Int):Prop where
 tk:t<=k
 kr:k<r
 ne:M k j≠0
 one:M k j*inv%p=1
 nt:∀b,N t b=M k b*inv%p
 na:∀a,a<r->a≠t->∀b,N a b=(eN M t k a b+(p - eN M t k a j)*N t b)%p
 first:∀i,t<=i->i<k->M i j=0
theorem Yr {p:Int} {r c:Nat} {s:bC×aa×Int} {j:Nat} (cf:dz p=true) (I:RI p r c s j) (hj:j<c):
  (nP p r s j=s/\∀i,s.2.1.length<=i->i<r->s.1 i j=0)\/
   ∃k N inv,nP p r s j=(N,s.2.1++[(j:Int)],Q7 p s.1 s.2.1.length j k s.2.2)/\Iy p r s.1 N s.2.1.length k j inv/\s.2.1.length<r:=by
 have hp:eW p:=gn cf;by_cases hl:s.2.1.length<r
 ·cases hk:tK s.1 j (r - s.2.1.length) s.2.1.length with
  |none=>exact .inl ⟨Ys hl hk,fun i h1 h2=>Q5 hk i h1 (by omega)⟩
  |some k=>
   have hq:=KR hk;have rf:k<r:=by omega
   have hx:fx p (s.1 k j):=I.m k rf j hj;have hi:=agn cf hx hq.2.2;have Gz:eN s.1 s.2.1.length k s.2.1.length j=s.1 k j:=if_pos rfl;refine .inr ⟨k,_,oz p 1 (s.1 k j) (p - 2).toNat,Yt hl hk,⟨hq.1,rf,hq.2.2,hi,fun b=>?_,fun a ha cY b=>?_,Yj hk⟩,hl⟩
   ·unfold g8;rw[if_neg (by omega)];unfold sF wL;rw[if_pos rfl,Gz];congr 2;exact if_pos rfl
   ·have e1:∀y,sF p s.1 s.2.1.length j k a y=eN s.1 s.2.1.length k a y:=fun y=>by unfold sF wL;rw[if_neg cY]
    show g8 p _ _ _ _ a b=_;rw[show g8 p (sF p s.1 s.2.1.length j k) s.2.1.length j r s.2.1.length b=sF p s.1 s.2.1.length j k s.2.1.length b from if_neg (by omega)]
    unfold g8;rw[if_pos ⟨ha,cY⟩,e1,e1]
 ·refine .inl ⟨by unfold nP;rw[if_neg hl],fun i h1 h2=>by omega⟩
def pv (L:aa) (i:Nat):Nat:=(L.getD i 0).toNat
theorem Yp {L:aa} {x:Int} {i:Nat} (h:i<L.length):pv (L++[x]) i=pv L i:=by
 unfold pv;rw[zaa,zaa,zap h]
theorem Ed {L:aa} {j:Nat}:pv (L++[(j:Int)]) L.length=j:=by
 unfold pv;rw[zaa,zao (zaf _),zbG];rfl
structure RF (r:Nat) (s:bC×aa×Int) (j:Nat):Prop where
 lt:∀i,i<s.2.1.length->pv s.2.1 i<j
 mono:∀i i',i<i'->i'<s.2.1.length->pv s.2.1 i<pv s.2.1 i'
 one:∀i,i<s.2.1.length->s.1 i (pv s.2.1 i)=1
 gu:∀i,i<s.2.1.length->∀a,a<r->a≠i->s.1 a (pv s.2.1 i)=0
 low:∀i,i<s.2.1.length->∀b,b<pv s.2.1 i->s.1 i b=0
 zero:∀i,s.2.1.length<=i->i<r->∀b,b<j->s.1 i b=0
theorem RF.step {p:Int} {r c:Nat} {s:bC×aa×Int} {j:Nat} (cf:dz p=true) (I:RI p r c s j) (hj:j<c) (h:RF r s j):RF r (nP p r s j) (j+1):=by
 have hp:eW p:=gn cf;rcases Yr cf I hj with⟨e,hz⟩|⟨k,N,inv,e,P,hl⟩
 ·rw[e];refine⟨fun i hi=>by have:=h.lt i hi;omega,h.mono,h.one,h.gu,h.low,fun i h1 h2 b hb=>?_⟩;by_cases De:b=j
  ·rw[De];exact hz i h1 h2
  ·exact h.zero i h1 h2 b (by omega)
 ·rw[e];obtain⟨M,L,d⟩:=s;obtain⟨tk,kr,ne,one,nt,na,first⟩:=P
  dsimp only at tk kr ne one nt na first hl e⊢
  have cC:∀i,i<L.length->pv L i<j:=h.lt;have Gw:∀i,i<L.length->pv (L++[(j:Int)]) i=pv L i:=fun i hi=>Yp hi;have tv:=hp.1;have X3:∀b,b<j->N L.length b=0:=fun b hb=>by
   rw[nt,show M k b=0 from h.zero k tk kr b hb,zbH,za7]
  have X4:N L.length j=1:=by rw[nt];exact one
  have iv:∀a,a<r->a≠L.length->∀b,b<j->N a b=eN M L.length k a b:=fun a ha cY b hb=>by
   rw[na a ha cY,X3 b hb,zaJ,zbN];have hs:fx p (eN M L.length k a b):=RW I.m hl kr a ha b (by omega);exact za1 hs.1 hs.2
  have abi:∀i,i<L.length->∀b,eN M L.length k i b=M i b:=fun i hi b=>by
   unfold eN;rw[if_neg (by omega),if_neg (by omega)]
  have ag7:∀a,L.length<=a->a<r->∀b,b<j->eN M L.length k a b=0:=fun a h1 h2 b hb=>by
   unfold eN;split
   ·exact h.zero k tk kr b hb
   ·split
    ·exact h.zero _ (zaf _) hl b hb
    ·exact h.zero a h1 h2 b hb
  refine⟨?_,?_,?_,?_,?_,?_⟩<;>dsimp only
  ·intro i hi;simp only[zae,zag,zah] at hi;by_cases gk:i<L.length
   ·rw[Gw i gk];have:=cC i gk;omega
   ·rw[show i=L.length by omega,Ed];omega
  ·intro i i' h1 h2;simp only[zae,zag,zah] at h2;rw[Gw i (by omega)];by_cases gk:i'<L.length
   ·rw[Gw i' gk];exact h.mono i i' h1 gk
   ·rw[show i'=L.length by omega,Ed];exact cC i (by omega)
  ·intro i hi;simp only[zae,zag,zah] at hi;by_cases gk:i<L.length
   ·rw[Gw i gk,iv i (by omega) (by omega) _ (cC i gk),abi i gk];exact h.one i gk
   ·rw[show i=L.length by omega,Ed];exact X4
  ·intro i hi a ha hai;simp only[zae,zag,zah] at hi;by_cases gk:i<L.length
   ·rw[Gw i gk];by_cases cY:a=L.length
    ·rw[cY];exact X3 _ (cC i gk)
    ·rw[iv a ha cY _ (cC i gk)];by_cases hal:a<L.length
     ·rw[abi a hal];exact h.gu i gk a ha hai
     ·exact ag7 a (by omega) ha _ (cC i gk)
   ·have PS:i=L.length:=by omega
    rw[PS,Ed];rw[na a ha (by omega),X4,zaK];rw[show eN M L.length k a j+(p - eN M L.length k a j)=p by omega];exact zbL
  ·intro i hi b hb;simp only[zae,zag,zah] at hi;by_cases gk:i<L.length
   ·rw[Gw i gk] at hb;have hlj:=cC i gk;rw[iv i (by omega) (by omega) _ (by omega),abi i gk];exact h.low i gk b hb
   ·have PS:i=L.length:=by omega
    rw[PS,Ed] at hb;rw[PS];exact X3 b hb
  ·intro i h1 h2 b hb;simp only[zae,zag,zah] at h1;by_cases De:b=j
   ·rw[De,na i h2 (by omega),X4,zaK];rw[show eN M L.length k i j+(p - eN M L.length k i j)=p by omega];exact zbL
   ·rw[iv i h2 (by omega) b (by omega)];exact ag7 i (by omega) h2 b (by omega)
theorem Eg {p:Int} {r c:Nat} {M:bC} (cf:dz p=true) (hM:dK p r c M):∀j,j<=c->RF r (dh p r M j) j
 |0,_=>⟨fun i hi=>absurd hi (zaL i),fun i i' _ hi=>absurd hi (zaL i'),fun i hi=>absurd hi (zaL i),fun i hi=>absurd hi (zaL i),fun i hi=>absurd hi (zaL i),fun i _ _ b hb=>absurd hb (zaL b)⟩
 |j+1,hj=>RF.step cf (sI (gn cf) hM j) (by omega) (Eg cf hM j (by omega))
def Sp (p:Int) (r c:Nat) (M:bC) (x:Nat->Int):Prop:=∃y:Nat->Int,∀b,b<c->x b%p=sm r (fun i=>y i*M i b)%p
theorem ql {p:Int} {r c:Nat} {M:bC} {i:Nat} (hi:i<r):Sp p r c M (M i):=
 ⟨fun k=>if k=i then 1 else 0,fun b _=>by
  have e:sm r (fun k=>(if k=i then 1 else 0)*M k b)=M i b:=by
   rw[vk (a:=i) r hi (fun k _ aR=>by simp[aR])];simp
  exact congrArg (·%p) e.symm⟩
theorem As {p:Int} {r c:Nat} {M:bC} {x x':Nat->Int} (h:Sp p r c M x) (e:∀b,b<c->x' b%p=x b%p):Sp p r c M x':=by
 obtain⟨y,hy⟩:=h;exact⟨y,fun b hb=>(e b hb).trans (hy b hb)⟩
theorem Tl {p:Int} {r c:Nat} {M:bC} {x x':Nat->Int} (f:Int) (h:Sp p r c M x) (h':Sp p r c M x'):Sp p r c M (fun b=>x b+f*x' b):=by
 obtain⟨y,hy⟩:=h;obtain⟨y',hy'⟩:=h';refine⟨fun i=>y i+f*y' i,fun b hb=>?_⟩;have e:sm r (fun i=>(y i+f*y' i)*M i b)=sm r (fun i=>y i*M i b)+f*sm r (fun i=>y' i*M i b):=by
  rw[<-zS,<-RB];exact lE fun i _=>by rw[Int.add_mul,zbk]
 rw[e,zbI,zaM,hy b hb,hy' b hb,<-zaM,<-zbI]
theorem ana {p:Int} {r c:Nat} {M:bC}:Sp p r c M (fun _=>0):=⟨fun _=>0,fun b _=>by rw[yj r fun i _=>zbH _]⟩
theorem abU {p:Int} {r c:Nat} {M:bC} {x:Nat->Int} (f:Int) (h:Sp p r c M x):Sp p r c M (fun b=>x b*f):=
 As (Tl f ana h) fun b _=>by rw[zbO,zbf]
theorem ua {p:Int} {r r' c:Nat} {M N:bC} (h:∀i,i<r'->Sp p r c M (N i)) {x:Nat->Int} (hx:Sp p r' c N x):Sp p r c M x:=by
 obtain⟨y,hy⟩:=hx;have h':∀i,∃y:Nat->Int,i<r'->∀b,b<c->N i b%p=sm r (fun k=>y k*M k b)%p:=by
  intro i;by_cases hi:i<r'
  ·obtain⟨y,hy⟩:=h i hi;exact⟨y,fun _=>hy⟩
  ·exact⟨fun _=>0,fun fA=>absurd fA hi⟩
 obtain⟨Y,hY⟩:=Classical.axiomOfChoice h';refine⟨fun k=>sm r' (fun i=>y i*Y i k),fun b hb=>?_⟩;rw[hy b hb];have e:sm r (fun k=>sm r' (fun i=>y i*Y i k)*M k b)=sm r' (fun i=>y i*sm r (fun k=>Y i k*M k b)):=by
  rw[lE (g:=fun k=>sm r' (fun i=>y i*Y i k*M k b)) fun k _=>(alK (M k b) _ r').symm];rw[RE];exact lE fun i _=>by rw[<-zS];exact lE fun k _=>zbk _ _ _
 rw[e];exact HO fun i hi=>by rw[zaM,hY i hi b hb,<-zaM]
theorem Iy.span {p:Int} {r c:Nat} {M N:bC} {t k j:Nat} {inv:Int} (h:Iy p r M N t k j inv) (ht:t<r) (hj:j<c) (x:Nat->Int):Sp p r c N x↔Sp p r c M x:=by
 obtain⟨tk,kr,ne,one,nt,na,_⟩:=h;have sw:∀a,a<r->Sp p r c M (eN M t k a):=by
  intro a ha;unfold eN;by_cases h1:a=t
  ·simp only[h1,if_true];exact ql kr
  ·by_cases h2:a=k
   ·simp only[h2];by_cases h3:k=t
    ·simp only[h3,if_true];exact ql ht
    ·simp only[if_neg h3,if_true];exact ql ht
   ·simp only[if_neg h1,if_neg h2];exact ql ha
 have hNt:Sp p r c M (N t):=As (abU inv (ql kr)) fun b _=>by rw[nt,zaR _ (zbr p)]
 constructor
 ·refine ua fun a ha=>?_;by_cases cY:a=t
  ·rw[cY];exact hNt
  ·exact As (Tl (p - eN M t k a j) (sw a ha) hNt) fun b _=>by rw[na a ha cY,zaR _ (zbr p)]
 ·
  have hk:Sp p r c N (M k):=As (abU (M k j) (ql ht)) fun b _=>by
   rw[nt,zaM,zaR _ (zbr p),<-zaM];rw[show M k b*inv*M k j=M k b*(M k j*inv) by rw[zbk,zbf inv]];rw[zaM,one,zaK,zaR _ (zbr p)]
  have hs:∀a,a<r->Sp p r c N (eN M t k a):=by
   intro a ha;by_cases cY:a=t
   ·have e:eN M t k a=M k:=by unfold eN;funext b;rw[if_pos cY]
    rw[e];exact hk
   ·refine As (Tl (eN M t k a j) (ql ha) (ql ht)) fun b _=>?_;rw[na a ha cY,zbE];rw[show eN M t k a b+(p - eN M t k a j)*N t b+eN M t k a j*N t b=eN M t k a b+p*N t b by grind];rw[zbe]
  refine ua fun a ha=>?_;by_cases cY:a=t
  ·have e:M a=eN M t k k:=by
    unfold eN;funext b;by_cases VF:k=t
    ·rw[if_pos VF,cY,VF]
    ·rw[if_neg VF,if_pos rfl,cY]
   rw[e];exact hs k kr
  ·by_cases hak:a=k
   ·rw[hak];exact hk
   ·have e:M a=eN M t k a:=by unfold eN;funext b;rw[if_neg cY,if_neg hak]
    rw[e];exact hs a ha
theorem Q8 {p:Int} {r c:Nat} {M:bC} (cf:dz p=true) (hM:dK p r c M) (x:Nat->Int):∀j,j<=c->(Sp p r c (dh p r M j).1 x↔Sp p r c M x)
 |0,_=>Iff.rfl
 |j+1,hj=>by
  rw[<-Q8 cf hM x j (by omega)];show Sp p r c (nP p r (dh p r M j) j).1 x↔_;rcases Yr cf (sI (gn cf) hM j) (show j<c by omega) with⟨e,_⟩|⟨k,N,inv,e,P,hl⟩
  ·rw[e]
  ·rw[e];exact P.span hl (by omega) x
def am4 (p:Int) (x:Nat->Int) (j:Nat):Prop:=(∀b,b<j->x b%p=0)/\x j%p≠0
theorem Yk {p:Int} {r c:Nat} {M:bC} (cf:dz p=true) (hM:dK p r c M) {j:Nat} (hj:j<c):
  (∃x,Sp p r c M x/\am4 p x j)↔∃i,i<(dh p r M c).2.1.length/\pv (dh p r M c).2.1 i=j:=by
 have hp:eW p:=gn cf;have tv:=hp.1;have R:=Eg cf hM c (zaf c);have I:=sI hp hM c;have VX:=fun x=>Q8 cf hM x c (zaf c);generalize dh p r M c=s at R I VX;constructor
 ·rintro⟨x,hx,h0,h1⟩;obtain⟨y,hy⟩:=(VX x).2 hx;have cN:∀i,i<s.2.1.length->x (pv s.2.1 i)%p=y i%p:=by
   intro i hi;rw[hy _ (R.lt i hi),vk (a:=i) r (by have:=I.l;omega) fun a ha aR=>by rw[R.gu i hi a ha aR,zaJ]];rw[R.one i hi,zaK]
  rw[hy j hj] at h1;apply Classical.byContradiction;intro dE;apply h1;rw[show(0:Int)=sm r (fun _=>0)%p by rw[yj r fun _ _=>rfl,za7]];refine HO fun i hi=>?_;by_cases gk:i<s.2.1.length
  ·rcases Nat.lt_trichotomy (pv s.2.1 i) j with h|h|h
   ·have hz:y i%p=0:=by rw[<-cN i gk];exact h0 _ h
    rw[zaM,hz,zbH]
   ·exact absurd ⟨i,gk,h⟩ dE
   ·rw[R.low i gk j h,zaJ]
  ·rw[R.zero i (by omega) hi j hj,zaJ]
 ·rintro⟨i,hi,rfl⟩;refine⟨s.1 i,(VX _).1 (ql (by have:=I.l;omega)),fun b hb=>by rw[R.low i hi b hb,za7],?_⟩;rw[R.one i hi,za1 (by decide) (by omega)];decide
def Bw (L:aa) (j:Nat):Bool:=(List.range L.length).any fun i=>pv L i==j
theorem DK {L:aa} {j:Nat}:Bw L j=true↔∃i,i<L.length/\pv L i=j:=by
 simp only[Bw,List.any_eq_true,zaA,beq_iff_eq]
theorem OS (P:Nat->Bool) (j:Nat):(List.range (j+1)).countP P=(List.range j).countP P+(if P j=true then 1 else 0):=by
 rw[List.range_succ,List.countP_append];simp[List.countP_cons]
theorem OT {p:Int} {r c:Nat} {M:bC} (cf:dz p=true) (hM:dK p r c M):∀j,j<=c->(List.range j).countP (Bw (dh p r M j).2.1)=(dh p r M j).2.1.length
 |0,_=>rfl
 |j+1,hj=>by
  have ih:=OT cf hM j (by omega);have R:=Eg cf hM j (by omega);show(List.range (j+1)).countP (Bw (nP p r (dh p r M j) j).2.1)=(nP p r (dh p r M j) j).2.1.length;rw[OS];rcases Yr cf (sI (gn cf) hM j) (show j<c by omega) with⟨e,_⟩|⟨k,N,inv,e,P,hl⟩
  ·rw[e,ih];have:Bw (dh p r M j).2.1 j=false:=by
    rw[Bool.eq_false_iff];intro h;obtain⟨i,hi,he⟩:=DK.1 h;have:=R.lt i hi;omega
   rw[this];simp
  ·rw[e];dsimp only
   have h1:Bw ((dh p r M j).2.1++[(j:Int)]) j=true:=DK.2 ⟨_,by simp,Ed⟩;have h2:(List.range j).countP (Bw ((dh p r M j).2.1++[(j:Int)]))=(List.range j).countP (Bw (dh p r M j).2.1):=by
    refine List.countP_congr fun b hb=>?_;have hb:=zaA.1 hb;rw[DK,DK];constructor
    ·rintro⟨i,hi,he⟩;simp only[zae,zag,zah] at hi;by_cases gk:i<(dh p r M j).2.1.length
     ·rw[Yp gk] at he;exact⟨i,gk,he⟩
     ·rw[show i=(dh p r M j).2.1.length by omega,Ed] at he;omega
    ·rintro⟨i,hi,he⟩;exact⟨i,by simp only[zae];omega,by rw[Yp hi];exact he⟩
   rw[h1,h2,ih];simp
theorem acU {P Q:Nat->Bool}:∀n,(∀i,i<n->P i=true->Q i=true)->(List.range n).countP P<=(List.range n).countP Q
 |0,_=>zaf _
 |n+1,h=>by
  rw[OS,OS];have:=acU n fun i hi=>h i (by omega);cases hP:P n with
  |false=>simp;omega
  |true=>rw[h n (by omega) hP];omega
theorem BV {p:Int} {r r' c:Nat} {M M':bC} (cf:dz p=true) (hM:dK p r c M) (np:dK p r' c M') (h:∀x,Sp p r c M x->Sp p r' c M' x):
  (dh p r M c).2.1.length<=(dh p r' M' c).2.1.length:=by
 rw[<-OT cf hM c (zaf c),<-OT cf np c (zaf c)];refine acU c fun j hj hP=>?_;obtain⟨x,hx,hl⟩:=(Yk cf hM hj).2 (DK.1 hP);exact DK.2 ((Yk cf np hj).1 ⟨x,h x hx,hl⟩)
def N0:aq:=[(.one,[.list [.int .i64]]),(.one,[.list [.int .i64]])]
def ZI:aq:=[(.one,[.bool])]
def aw2:bi:=[]
def Mp (NN:Nat):(aa×aa)->(Option Bool):=
 (fun((l0,l1):(aa×aa))=>
 ct (cq NN (fun((l2,l3,l4,i5,i6):(aa×(aa×(aa×(Int×Int)))))=>
 aD (cj i6 i5)
 ((cW l4 i6).ae (fun i7=>
 aD (ir (aW (af l3)) i6)
 (some (Sum.inr (Sum.inr false)))
 ((cW l3 i6).ae (fun i8=>
 aD (iF i8 i7)
 (some (Sum.inr (Sum.inr false)))
 (some (Sum.inl (l2,l3,l4,i5,bE .i64 i6 1)))))))
 (some (Sum.inr (Sum.inl (l2,l3)))))
 (l0,l1,l0,aW (af l0),(0:Int)))
 (fun(l9,cR)=>
 some (c6 (aW (af l9)) (aW (af cR)))))
def Aj:(aa×aa)->(Option Bool):=Mp aI
theorem aqG (x:(aa×aa)) (z:Bool) (h:Aj x=some z):Mp aI x=some z:=h
def N1:aq:=[(.one,[.list [.int .i64]]),(.one,[.list [.int .i64]])]
def ZJ:aq:=[(.one,[.list [.int .i64]])]
def aw3:bi:=[]
def Mq (NN:Nat):(aa×aa)->(Option aa):=
 (fun((l0,l1):(aa×aa))=>
 (bn 0 0 (af (([]:aa)))).ae (fun _=>
 (kC (aJ (af (([]:aa))) (af l0)) 8).ae (fun _=>
 (bn 0 (aJ (af (([]:aa))) (af l0)) (af (d6 (([]:aa)) l0))).ae (fun _=>
 (kC (aJ (af (d6 (([]:aa)) l0)) (af l1)) 8).ae (fun _=>
 (dW (d6 (d6 (([]:aa)) l0) l1) (aJ (af (d6 (([]:aa)) l0)) (af l1))).ae (fun l2=>
 some l2))))))
def CB:(aa×aa)->(Option aa):=Mq aI
theorem aqH (x:(aa×aa)) (z:aa) (h:CB x=some z):Mq aI x=some z:=h
theorem WL (l:aa) (h:l.length<=1048576):Aj (l,l)=some true:=by
 simp only[Aj,Mp];generalize hL:cq aI _ _=o;obtain⟨r,rfl,rfl⟩:∃r,o=some r/\r=Sum.inl (l,l):=by
  rw[<-hL];refine Hd l.length (fun i (x:aa×aa×aa×Int×Int)=>x=(l,l,l,(l.length:Int),(i:Int))) _ ?_ ?_ rfl (dt (by omega))
  ·rintro i x hi rfl;dsimp only
   rw[bk (dY (by omega)),e9,zab hi];simp only[av];rw[bh (DZ (by unfold aW af;omega))];rw[show iF l[i] l[i]=false from bne_self_eq_false _]
   rw[CU,f7 (by omega) (by omega)];exact⟨_,rfl,rfl⟩
  ·rintro x rfl;dsimp only
   rw[bh (dL (by omega))];exact⟨_,rfl,rfl⟩
 simp only[ct,Option.bind];rw[show c6 (aW (af l)) (aW (af l))=true from beq_self_eq_true _]
theorem atZ (l l':aa) (h:l.length<=1048576) (h':l'.length<=1048576):CB (l,l')=some (l++l'):=by
 simp only[CB,Mq];have hm:fo=140737488355328:=rfl;rw[ae4];simp only[av];rw[pQ (by simp only[aJ,af,zah];omega)];simp only[av];rw[show bn 0 (aJ (af ([]:aa)) (af l)) (af (d6 ([]:aa) l))=some () from vQ (by simp[aJ,af,d6])]
 simp only[av];rw[pQ (by simp only[aJ,af,d6,za9];omega)];simp only[av];have e:dW (d6 (d6 ([]:aa) l) l') (aJ (af (d6 ([]:aa) l)) (af l'))=some (l++l'):=by
  unfold dW d6 aJ af;rw[if_pos (by simp)];congr 1;rw[za9,<-zae,zan]
 rw[e];rfl
def Ok:aq:=[(.ptr,[.list [.int .u8],.int .i64,.int .i64])]
def Z2:aq:=[(.one,[.list [.int .i64]]),(.ptr,[.list [.int .u8],.int .i64,.int .i64])]
def axk:bi:=[[some .aV]]
def MG (NN:Nat):(aa×(Int×Int))->(Option (aa×(aa×(Int×Int)))):=
 (fun((l0,i1,i2):(aa×(Int×Int)))=>
 (vA ((l0,i1,i2),(4:Int))).ae (fun(i3,l4,i5,i6)=>
 ct ((bn 0 0 (af (([]:aa)))).ae (fun _=>
 cq NN (fun((i7,(l8,i9,cX),cE):(Int×((aa×(Int×Int))×aa)))=>
 aD (cj (0:Int) i7)
 ((vA ((l8,i9,cX),(3:Int))).ae (fun(ef,dG,fk,gx)=>
 ai cE (
 (bZ ((bE .i64 (1:Int) ef::([]:aa))) 0 1).ae (fun eF=>
 (kC (aJ (af cE) (af eF)) 8).ae (fun _=>
 (bn 0 (aJ (af cE) (af eF)) (af (d6 cE eF))).ae (fun _=>
 some (Sum.inl (iy .i64 i7 1,(dG,fk,gx),d6 cE eF))))))))
 ((ai cE (
 some (Sum.inl ((l8,i9,cX),cE)))).ae (fun dv=>
 some (Sum.inr dv))))
 (bE .i64 (1:Int) i3,(l4,i5,i6),([]:aa))))
 (fun((gA,fC,ff),fW)=>
 (bZ fW 0 (af fW)).ae (fun eo=>
 some (eo,gA,fC,ff)))))
def Fk:(aa×(Int×Int))->(Option (aa×(aa×(Int×Int)))):=MG aI
theorem aq1 (x:(aa×(Int×Int))) (z:(aa×(aa×(Int×Int)))) (h:Fk x=some z):MG aI x=some z:=h
def N7:aq:=[(.one,[.list [.int .u8]]),(.one,[.int .i64])]
def ZP:aq:=[(.one,[.list [.int .i64]])]
def aw7:bi:=[[some .aV]]
def Mt (NN:Nat):(aa×Int)->(Option aa):=
 (fun((l0,i1):(aa×Int))=>
 (wW (l0,i1)).ae (fun(l2,i3,i4)=>
 (Fk (l2,i3,i4)).ae (fun(l5,l6,i7,i8)=>
 some l5)))
def Fc:(aa×Int)->(Option aa):=Mt aI
theorem aqN (x:(aa×Int)) (z:aa) (h:Fc x=some z):Mt aI x=some z:=h
def Oj:aq:=[(.ptr,[.list [.int .u8],.int .i64,.int .i64]),(.one,[.int .i64]),(.one,[.list [.int .i64]])]
def Z1:aq:=[(.agg,[.int .i64,.list [.int .i64,.int .i64,.int .i64,.list [.int .i64]]]),(.ptr,[.list [.int .u8],.int .i64,.int .i64])]
def axj:bi:=[[some .aV]]
def MF (NN:Nat):((aa×(Int×Int))×(Int×aa))->(Option ((Int×(List (Int×(Int×(Int×aa)))))×(aa×(Int×Int)))):=
 (fun(((l0,i1,i2),i3,l4):((aa×(Int×Int))×(Int×aa)))=>
 ct ((bn 0 0 (af (([]:List (Int×(Int×(Int×aa))))))).ae (fun _=>
 (bn 0 0 (af (([]:List (Int×(Int×(Int×aa))))))).ae (fun _=>
 cq NN (fun(((i5,l6,i7,l8,i9,cX),(cE,ef,fR),fk,gx,eF,dv):((Int×(aa×(Int×(aa×(Int×Int)))))×((aa×(Int×Int))×(Int×(Int×((List (Int×(Int×(Int×aa))))×(List (Int×(Int×(Int×aa))))))))))=>
 aD (cj cX i9)
 ((cW l8 cX).ae (fun fS=>
 (vA ((cE,ef,fR),(4:Int))).ae (fun(fC,hZ,fD,gG)=>
 (Ao ((hZ,fD,gG),(16:Int))).ae (fun(IG,jh,ii,jH)=>
 ct (aD (IG)
 (ai eF (
 ai dv (
 some (Sum.inl ((cX,i7,zC (1:Int) (iW (4:Int) fS),(0:Int),cX,i5,l6,l8,i9),(jh,ii,jH),fk,gx,eF,dv)))))
 (ai eF (
 ai dv (
 some (Sum.inl ((cX,i7,zC (1:Int) (iW (4:Int) fS),bE .i64 (1:Int) fC,cX,i5,l6,l8,i9),(jh,ii,jH),fk,gx,eF,dv))))))
 (fun((ij,lx,kH,ik,il,gZ,ji,oZ,gH),(iN,jW,jI),iK,iL,ib,kq)=>
 ct (aD (c6 ij (iy .i64 (aW (af ji)) (1:Int)))
 (ai ib (
 ai kq (
 some (Sum.inl ((lx,kH,(1:Int),il,gZ,ji,oZ,gH),(iN,jW,jI),iK,iL,ib,kq)))))
 (ai ib (
 ai kq (
 some (Sum.inl ((lx,kH,ik,il,gZ,ji,oZ,gH),(iN,jW,jI),iK,iL,ib,kq))))))
 (fun((iq,jf,iS,jJ,jo,qI,lB,mB),(sq,nE,pV),ov,r6,kt,ic)=>
 (CC ((sq,nE,pV),jo,cV .i64 iq jf,iS)).ae (fun((wc,wg,ku),kN,nF,lz)=>
 ai ic (
 (bn 0 1 (af (((iq,jf,iS,ku)::([]:List (Int×(Int×(Int×aa)))))))).ae (fun _=>
 (kC (aJ (af ic) (af (((iq,jf,iS,ku)::([]:List (Int×(Int×(Int×aa)))))))) 48).ae (fun _=>
 ai kt (
 (bn 0 (aJ (af ic) (af (((iq,jf,iS,ku)::([]:List (Int×(Int×(Int×aa)))))))) (af (d6 ic (((iq,jf,iS,ku)::([]:List (Int×(Int×(Int×aa))))))))).ae (fun _=>
 some (Sum.inl ((jo,qI,iS,lB,mB,bE .i64 jJ 1),(kN,nF,lz),ov,r6,kt,d6 ic (((iq,jf,iS,ku)::([]:List (Int×(Int×(Int×aa))))))))))))))))))))
 ((ai eF (
 ai dv (
 some (Sum.inl ((cE,ef,fR),fk,gx,eF,dv))))).ae (fun Kw=>
 some (Sum.inr Kw))))
 ((i3,l4,(1:Int),l4,aW (af l4),(0:Int)),(l0,i1,i2),(0:Int),i3,([]:List (Int×(Int×(Int×aa)))),([]:List (Int×(Int×(Int×aa))))))))
 (fun((DU,r7,kJ),r8,tz,uQ,tD)=>
 (bZ tD 0 (af tD)).ae (fun nK=>
 some ((tz,nK),DU,r7,kJ))))
def Fj:((aa×(Int×Int))×(Int×aa))->(Option ((Int×(List (Int×(Int×(Int×aa)))))×(aa×(Int×Int)))):=MF aI
theorem aq0 (x:((aa×(Int×Int))×(Int×aa))) (z:((Int×(List (Int×(Int×(Int×aa)))))×(aa×(Int×Int)))) (h:Fj x=some z):MF aI x=some z:=h
def N6:aq:=[(.one,[.list [.int .u8]]),(.one,[.int .i64]),(.one,[.int .i64]),(.one,[.list [.int .i64]])]
def ZO:aq:=[(.agg,[.int .i64,.list [.int .i64,.int .i64,.int .i64,.list [.int .i64]]])]
def aw6:bi:=[[some .aV]]
def Ms (NN:Nat):(aa×(Int×(Int×aa)))->(Option (Int×(List (Int×(Int×(Int×aa)))))):=
 (fun((l0,i1,i2,l3):(aa×(Int×(Int×aa))))=>
 (wW (l0,i1)).ae (fun(l4,i5,i6)=>
 (Fj ((l4,i5,i6),i2,l3)).ae (fun((i7,l8),l9,cX,fj)=>
 some (i7,l8))))
def Fb:(aa×(Int×(Int×aa)))->(Option (Int×(List (Int×(Int×(Int×aa)))))):=Ms aI
theorem aqM (x:(aa×(Int×(Int×aa)))) (z:(Int×(List (Int×(Int×(Int×aa)))))) (h:Fb x=some z):Ms aI x=some z:=h
def N2:aq:=[(.agg,[.list [.int .i64],.list [.int .i64],.list [.int .i64]]),(.agg,[.list [.int .i64],.list [.int .i64],.list [.int .i64]])]
def ZK:aq:=[(.one,[.bool])]
def aw4:bi:=[]
def Mr (NN:Nat):((aa×(aa×aa))×(aa×(aa×aa)))->(Option Bool):=
 (fun(((l0,l1,l2),l3,l4,l5):((aa×(aa×aa))×(aa×(aa×aa))))=>
 (Aj (l0,l3)).ae (fun b6=>
 aD (b6)
 ((Aj (l1,l4)).ae (fun b7=>
 aD (b7)
 ((Aj (l2,l5)).ae (fun b8=>
 some b8))
 (some false)))
 (some false)))
def E8:((aa×(aa×aa))×(aa×(aa×aa)))->(Option Bool):=Mr aI
theorem aqI (x:((aa×(aa×aa))×(aa×(aa×aa)))) (z:Bool) (h:E8 x=some z):Mr aI x=some z:=h
def NT:aq:=[(.one,[.int .i64]),(.one,[.list [.int .i64]]),(.one,[.list [.int .i64]])]
def ZA:aq:=[(.one,[.int .i64])]
def awU:bi:=[]
def Mm (NN:Nat):(Int×(aa×aa))->(Option Int):=
 (fun((i0,l1,l2):(Int×(aa×aa)))=>
 ct (cq NN (fun((i3,l4,l5,i6,i7):(Int×(aa×(aa×(Int×Int)))))=>
 aD (cj i7 i6)
 ((cW l5 i7).ae (fun i8=>
 aD (c6 i8 i3)
 ((cW l4 i7).ae (fun i9=>
 some (Sum.inr (Sum.inr i9))))
 (some (Sum.inl (i3,l4,l5,i6,bE .i64 i7 1)))))
 (some (Sum.inr (Sum.inl i3))))
 (i0,l2,l1,aW (af l1),(0:Int)))
 (fun cX=>
 some cX))
def E5:(Int×(aa×aa))->(Option Int):=Mm aI
theorem aqy (x:(Int×(aa×aa))) (z:Int) (h:E5 x=some z):Mm aI x=some z:=h
def Nc:aq:=[(.agg,[.int .i64,.int .i64,.int .i64]),(.agg,[.list [.int .i64],.list [.int .i64],.list [.int .i64]]),(.one,[.list [.int .i64]]),(.one,[.list [.int .i64]])]
def YX:aq:=[(.agg,[.list [.int .i64],.list [.int .i64],.list [.int .i64]]),(.one,[.bool])]
def awl:bi:=[]
def Ma (NN:Nat):((Int×(Int×Int))×((aa×(aa×aa))×(aa×aa)))->(Option ((aa×(aa×aa))×Bool)):=
 (fun(((i0,i1,i2),(l3,l4,l5),l6,l7):((Int×(Int×Int))×((aa×(aa×aa))×(aa×aa))))=>
 (oM ((i0,i1,i2),l3,l4,l5)).ae (fun b8=>
 aD (d9 b8)
 (some ((([]:aa),([]:aa),([]:aa)),false))
 (aD (iF (aW (af l6)) (aW (af l7)))
 (some ((([]:aa),([]:aa),([]:aa)),false))
 ((ET (l3,l4,l5)).ae (fun(l9,cR,cE)=>
 ct (ai l9 (
 (bn 0 0 (af (([]:aa)))).ae (fun _=>
 (bn 0 0 (af (([]:aa)))).ae (fun _=>
 (bn 0 0 (af (([]:aa)))).ae (fun _=>
 ai l9 (
 ai cR (
 ai cE (
 cq NN (fun(((dO,dG,fk,gx),(fI,fB,fS),jg,hZ,fW,eo,jp,jh):((aa×(aa×(Int×Int)))×((Int×(Int×Int))×(aa×(aa×(aa×(aa×(aa×aa))))))))=>
 aD (cj gx fk)
 ((c7 gx (af eo)).ae (fun zt=>
 (cA eo (aJ 0 zt)).ae (fun jH=>
 (E5 (jH,dO,dG)).ae (fun ij=>
 (c7 gx (af eo)).ae (fun sj=>
 (cA eo (aJ 0 sj)).ae (fun kH=>
 (bn 0 (af eo) (af (bo eo (aJ 0 sj) ij))).ae (fun _=>
 ai jg (
 ai hZ (
 ai fW (
 (bn 0 (af eo) (af (bo eo (aJ 0 sj) ij))).ae (fun _=>
 ai jp (
 ai jh (
 some (Sum.inl ((dO,dG,fk,bE .i64 gx 1),(fI,fB,fS),jg,hZ,fW,bo eo (aJ 0 sj) ij,jp,jh)))))))))))))))
 ((ai jg (
 ai hZ (
 ai fW (
 ai eo (
 ai jp (
 ai jh (
 some (Sum.inl ((fI,fB,fS),jg,hZ,fW,eo,jp,jh))))))))).ae (fun kL=>
 some (Sum.inr kL))))
 ((l6,l7,aW (af l9),(0:Int)),(i0,i1,i2),([]:aa),([]:aa),([]:aa),l9,cR,cE)))))))))
 (fun((il,gZ,kI),oZ,ru,iN,jq,lA,kM)=>
 (bZ jq 0 (af jq)).ae (fun lR=>
 (bZ lA 0 (af lA)).ae (fun ib=>
 (bZ kM 0 (af kM)).ae (fun kq=>
 (oM ((il,gZ,kI),lR,ib,kq)).ae (fun b43=>
 aD (d9 b43)
 (some ((([]:aa),([]:aa),([]:aa)),false))
 ((dW jq (af jq)).ae (fun gM=>
 (dW lA (af lA)).ae (fun mC=>
 (dW kM (af kM)).ae (fun jr=>
 some ((gM,mC,jr),true)))))))))))))))
def EP:((Int×(Int×Int))×((aa×(aa×aa))×(aa×aa)))->(Option ((aa×(aa×aa))×Bool)):=Ma aI
theorem apR (x:((Int×(Int×Int))×((aa×(aa×aa))×(aa×aa)))) (z:((aa×(aa×aa))×Bool)) (h:EP x=some z):Ma aI x=some z:=h
def Nu:aq:=[(.agg,[.list [.int .i64],.list [.int .i64],.list [.int .i64]]),(.agg,[.list [.int .i64],.list [.int .i64],.list [.int .i64]])]
def Ze:aq:=[(.one,[.bool])]
def awB:bi:=[]
def Md (NN:Nat):((aa×(aa×aa))×(aa×(aa×aa)))->(Option Bool):=
 (fun(((l0,l1,l2),l3,l4,l5):((aa×(aa×aa))×(aa×(aa×aa))))=>
 (t6 (l0,l3)).ae (fun b6=>
 aD (b6)
 ((t6 (l1,l4)).ae (fun b7=>
 aD (b7)
 ((t6 (l2,l5)).ae (fun b8=>
 some b8))
 (some false)))
 (some false)))
def Ip:((aa×(aa×aa))×(aa×(aa×aa)))->(Option Bool):=Md aI
theorem aqb (x:((aa×(aa×aa))×(aa×(aa×aa)))) (z:Bool) (h:Ip x=some z):Md aI x=some z:=h
def Nf:aq:=[(.agg,[.int .i64,.int .i64,.int .i64]),(.agg,[.list [.int .i64],.list [.int .i64],.list [.int .i64]]),(.agg,[.list [.int .i64],.list [.int .i64],.list [.int .i64]])]
def YZ:aq:=[(.one,[.bool])]
def awn:bi:=[]
def Mb (NN:Nat):((Int×(Int×Int))×((aa×(aa×aa))×(aa×(aa×aa))))->(Option Bool):=
 (fun(((i0,i1,i2),(l3,l4,l5),l6,l7,l8):((Int×(Int×Int))×((aa×(aa×aa))×(aa×(aa×aa)))))=>
 (oM ((i0,i1,i2),l3,l4,l5)).ae (fun b9=>
 aD (b9)
 ((oM ((i0,i1,i2),l6,l7,l8)).ae (fun qp=>
 aD (qp)
 ((Ad ((i0,i1,i2),l3,l4,l5)).ae (fun(cE,dO,dG)=>
 (Ad ((i0,i1,i2),l6,l7,l8)).ae (fun(dA,eU,eF)=>
 (bZ cE 0 (af cE)).ae (fun dv=>
 (bZ dO 0 (af dO)).ae (fun gA=>
 (bZ dG 0 (af dG)).ae (fun jg=>
 (bZ dA 0 (af dA)).ae (fun hZ=>
 (bZ eU 0 (af eU)).ae (fun fW=>
 (bZ eF 0 (af eF)).ae (fun eo=>
 (Ip ((dv,gA,jg),hZ,fW,eo)).ae (fun IG=>
 some IG))))))))))
 (some false)))
 (some false)))
def ER:((Int×(Int×Int))×((aa×(aa×aa))×(aa×(aa×aa))))->(Option Bool):=Mb aI
theorem apT (x:((Int×(Int×Int))×((aa×(aa×aa))×(aa×(aa×aa))))) (z:Bool) (h:ER x=some z):Mb aI x=some z:=h
theorem aCe (c:Cu) (h:mf c):∃D c',Fk c=some (D,c')/\mf c'/\(1<=D.length/\D.length<=4)/\∀v∈D,1<=v/\v<=3:=by
 obtain⟨l,i,k⟩:=c;obtain⟨x,⟨l',i',k'⟩,e,hx,_,hc⟩:=Fw (l,i,k) 4 h (by decide);simp only[Fk,MG,ai];rw[e];simp only[av];rw[show bn 0 0 (af ([]:aa))=some () from rfl]
 simp only[av];rw[f7 (by omega) (by omega)];obtain⟨t,ht⟩:∃t:Nat,1+x=(t:Int):=⟨(1+x).toNat,by omega⟩;rw[ht];generalize hL:cq aI _ _=o;obtain⟨s,rfl,c',d,rfl,dJ,hl,hd⟩:∃s,o=some s/\∃(c':Cu) (d:aa),s=Sum.inl (c',d)/\mf c'/\d.length=t/\∀v∈d,1<=v/\v<=3:=by
  rw[<-hL];refine Hd t (fun j (s:(Int×((aa×(Int×Int))×aa)))=>∃(c':Cu) (d:aa),s=((t:Int) - (j:Int),c',d)/\mf c'/\d.length=j/\∀v∈d,1<=v/\v<=3) _ ?_ ?_ ?_ (dt (by omega))
  ·rintro j s hj ⟨⟨l1,i1,h1⟩,d,rfl,hc,hl,hd⟩;dsimp only
   rw[bk (dY (by omega))];obtain⟨y,⟨l3,i3,h3⟩,e3,hy,_,hc⟩:=Fw _ 3 hc (by decide);rw[e3];simp only[av,bF];rw[f7 (by omega) (by omega),Cg];simp only[av];rw[pQ (by show(aJ d.length 1)*8<=fo;simp only[aJ,fo];omega)];simp only[av];rw[Jp];simp only[av];rw[oH (by omega) (by omega)];refine⟨_,rfl,(l3,i3,h3),d6 d [1+y],by rw[show(t:Int) - (j:Int) - 1=(t:Int) - ((j+1:Nat):Int) by omega],hc,by simp[d6,hl],?_⟩;intro v hv;rcases zaW.1 hv with hv|hv
   ·exact hd v hv
   ·rw[zbD] at hv;subst hv;omega
  ·rintro s ⟨⟨l1,i1,h1⟩,d,rfl,hc,hl,hd⟩;dsimp only
   rw[bh (dL (by omega))];simp only[av,bF];exact⟨_,rfl,_,_,rfl,hc,hl,hd⟩
  ·exact⟨(l',i',k'),[],by rw[show(t:Int) - ((0:Nat):Int)=(t:Int) by omega],hc,rfl,fun v hv=>by cases hv⟩
 simp only[ct,Option.bind,dj,av];exact⟨d,c',rfl,dJ,by omega,hd⟩
structure Ab (p:Int) (D:aa) (j:Nat) (left:Nat) (L:List aS):Prop where
 lf:left<=4
 fin:j=D.length->left=1
 lH:L.length=j
 I0:bw L=D.take j
 ch:iH (qq p) 0 1 L=some (left:Int)
 b4:∀s∈L,s.2.2.1<=4
theorem Ab.next {p:Int} {D:aa} {j left right:Nat} {L:List aS} {d:aa} (I:Ab p D j left L) (hj:j<D.length) (hd:∀v∈D,1<=v/\v<=3) (hr:right<=4) (hf:j+1=D.length->right=1)
  (hl:d.length=left*(D.getD j 0).toNat*right) (ha:eZ p d):Ab p D (j+1) right (L++[((left:Int),D.getD j 0,(right:Int),d)]):=by
 have hv:=hd _ (gS hj);have aDM:=I.lf;refine⟨hr,hf,by rw[zae,I.lH];rfl,?_,?_,?_⟩
 ·unfold bw;rw[zar];show bw L++[D.getD j 0]=_;rw[I.I0,zax,jb hj];rfl
 ·rw[Pt,I.ch];show qq p _ _ _=_;refine if_pos ⟨?_,rfl⟩;obtain⟨e,he⟩:∃e:Nat,D.getD j 0=(e:Int):=⟨(D.getD j 0).toNat,by omega⟩;rw[he] at hl hv⊢;rw[zac] at hl;exact Et (by omega) (by omega) ⟨by omega,by omega⟩ hl ha
 ·intro s hs;rcases zaW.1 hs with h|h
  ·exact I.b4 s h
  ·rw[zbD] at h;subst h;show(right:Int)<=4;omega
theorem Ab.ok {p:Int} {D:aa} {left:Nat} {L:List aS} (I:Ab p D D.length left L) (hp:dz p=true) (hl:1<=D.length/\D.length<=4) (hd:∀v∈D,1<=v/\v<=3):fi (p,L)=true/\bw L=D:=by
 have n9:bw L=D:=by rw[I.I0,zan]
 have h1:=I.fin rfl;subst h1;have cf:eH D<=4096:=by
  rw[x7 fun x hx=>(hd x hx).1];have:∀(l:aa),(∀v∈l,1<=v/\v<=3)->aL l<=3^l.length:=by
   intro l;induction l with
   |nil=>intro _;decide
   |cons a l ih=>
    intro h;have ha:=h a (by simp);have:=zad (show a.toNat<=3 by omega) (ih fun v hv=>h v (by simp[hv]));simp only[aL,zag,zbP];omega
  have h2:=this D hd;have h3:3^D.length<=3^4:=zbw (by decide) hl.2;omega
 refine⟨?_,n9⟩;simp only[fi,hp,I.ch,n9,I.lH,zbi];rw[decide_eq_true ⟨hl.1,by omega⟩,decide_eq_true cf];rfl
theorem an7 (c:Cu) (p:Int) (D:aa) (h:mf c) (hp:dz p=true) (hl:1<=D.length/\D.length<=4) (hd:∀v∈D,1<=v/\v<=3):
  ∃L c',Fj (c,p,D)=some ((p,L),c')/\mf c'/\Ab p D D.length 1 L:=by
 obtain⟨cl,ci,ck⟩:=c;simp only[Fj,MF,ai];rw[show bn 0 0 (af ([]:List (Int×(Int×(Int×aa)))))=some () from rfl]
 simp only[av];generalize hL:cq aI _ _=o;obtain⟨s,rfl,c',L,rfl,dJ,hI⟩:∃s,o=some s/\∃(c':Cu) (L:List aS),s=Sum.inl (c',(0:Int),p,([]:List aS),L)/\mf c'/\Ab p D D.length 1 L:=by
  rw[<-hL];refine Hd D.length (fun j (s:((Int×(aa×(Int×(aa×(Int×Int)))))×((aa×(Int×Int))×(Int×(Int×((List (Int×(Int×(Int×aa))))×(List (Int×(Int×(Int×aa))))))))))=>∃(c':Cu) (left:Nat) (L:List aS),s=((p,D,(left:Int),D,(D.length:Int),(j:Int)),c',(0:Int),p,([]:List aS),L)/\mf c'/\Ab p D j left L) _ ?_ ?_ ?_ (dt (by omega))
  ·rintro j s hj ⟨⟨l1,i1,h1⟩,left,L,rfl,hc,I⟩;dsimp only
   have hv:=hd _ (gS hj);have hlf:=I.lf;rw[bk (dY (by omega)),e9,jb hj];simp only[av];obtain⟨y,⟨l2,i2,h2⟩,e2,hy,_,hc⟩:=Fw _ 4 hc (by decide);rw[e2];simp only[av];obtain⟨b,⟨l3,i3,h3⟩,e3,hc⟩:=X8 _ 16 hc (by decide);rw[e3];simp only[av,bF];rw[f7 (a:=1) (b:=y) (by omega) (by omega)];have eR:zC (1:Int) (iW (4:Int) (D.getD j 0))=D.getD j 0:=by unfold zC iW;omega
   rw[eR];have jG:iy .i64 (aW (af D)) 1=((D.length - 1:Nat):Int):=aol (n:=D.length) hl.1 (by omega);have cN:∀r:Int,0<=r/\r<=4->∃right:Nat,(right<=4/\(j+1=D.length->right=1))/\(right:Int)=if j=D.length - 1 then 1 else r:=fun r hr=>by
    by_cases e:j=D.length - 1
    ·exact⟨1,⟨by omega,fun _=>rfl⟩,by rw[if_pos e];rfl⟩
    ·exact⟨r.toNat,⟨by omega,fun _=>by omega⟩,by rw[if_neg e];omega⟩
   obtain⟨r,hr,Vh⟩:∃r:Int,(0<=r/\r<=4)/\r=if b=true then 0 else 1+y:=by
    cases b
    ·exact⟨1+y,by omega,rfl⟩
    ·exact⟨0,by omega,rfl⟩
   obtain⟨right,⟨g1,g2⟩,g3⟩:=cN r hr;have hld:cV .i64 (left:Int) (D.getD j 0)=((left*(D.getD j 0).toNat:Nat):Int):=by
    obtain⟨e,he⟩:∃e:Nat,D.getD j 0=(e:Int):=⟨(D.getD j 0).toNat,by omega⟩;rw[he,D6 (by omega) (by omega)];rfl
   have vV:left*(D.getD j 0).toNat<=4*3:=zad hlf (by omega);obtain⟨d,⟨l4,i4,h4⟩,e4,q1,q2,hc⟩:=ade (l3,i3,h3) p (left*(D.getD j 0).toNat) right hc (gn hp) (by omega) (by omega);have I':=I.next hj hd g1 g2 q1 q2;by_cases e:j=D.length - 1
   ·rw[if_pos e] at g3;cases b<;>
    ·first|rw[bh rfl]|rw[bk rfl]
     simp only[ct,Option.bind];rw[jG];rw[bk (by unfold c6;exact beq_iff_eq.2 (by omega))];simp only[bF,av,hld];rw[g3] at e4;rw[e4];simp only[av,bF];rw[show∀s:aS,bn 0 1 (af [s])=some () from fun _=>rfl]
     simp only[av];rw[pQ (by show(aJ L.length 1)*48<=fo;rw[I.lH];simp only[aJ,fo];omega)];simp only[av];rw[UQ,f7 (by omega) (by omega)];exact⟨_,rfl,(l4,i4,h4),right,L++[((left:Int),D.getD j 0,(right:Int),d)],by rw[g3];rfl,hc,I'⟩
   ·rw[if_neg e,Vh] at g3;cases b<;>
    ·first|rw[bh rfl]|rw[bk rfl]
     simp only[ct,Option.bind];rw[jG];rw[bh (by unfold c6;rw[beq_eq_false_iff_ne];omega)];simp only[bF,av,hld];simp only[Bool.false_eq_true,if_false,if_true] at g3;rw[g3] at e4;rw[e4];simp only[av,bF];rw[show∀s:aS,bn 0 1 (af [s])=some () from fun _=>rfl]
     simp only[av];rw[pQ (by show(aJ L.length 1)*48<=fo;rw[I.lH];simp only[aJ,fo];omega)];simp only[av];rw[UQ,f7 (by omega) (by omega)];exact⟨_,rfl,(l4,i4,h4),right,L++[((left:Int),D.getD j 0,(right:Int),d)],by rw[g3];rfl,hc,I'⟩
  ·rintro s ⟨⟨l1,i1,h1⟩,left,L,rfl,hc,I⟩;dsimp only
   rw[bh (dL (by omega))];simp only[av,bF];have:=I.fin rfl;subst this;exact⟨_,rfl,_,_,rfl,hc,I⟩
  ·exact⟨(cl,ci,ck),1,[],rfl,h,⟨by decide,fun _=>rfl,rfl,rfl,rfl,fun s hs=>by cases hs⟩⟩
 simp only[ct,Option.bind,dj,av];exact⟨L,c',rfl,dJ,hI⟩
def d2 (a b c d:Int):Int:=a*d - b*c
def d3 (a b c d e f g h i:Int):Int:=a*d2 e f h i - b*d2 d f g i+c*d2 d e g h
theorem cg.sub {p a b c d:Int} (h:cg p a b) (h':cg p c d):cg p (a - c) (b - d):=by
 obtain⟨q,rfl⟩:=h;obtain⟨q',rfl⟩:=h';exact⟨q - q',by grind⟩
section
variable {p:Int} {n:Nat} {M0:bC}
end
def Hj (n:Nat) (X Y:bC):bC:=fun a b=>sm n (fun i=>X a i*Y i b)
theorem uk {p a b:Int}:cg p a b↔a%p=b%p:=by
 constructor
 ·rintro⟨q,rfl⟩;exact zbe b p q
 ·intro h;exact((FQ p a).symm).trans (by rw[h];exact FQ p b)
theorem ki {p:Int} {f g:Nat->Int} {n:Nat} (h:∀i,i<n->cg p (f i) (g i)):cg p (sm n f) (sm n g):=uk.2 (HO fun i hi=>uk.1 (h i hi))
structure am8 (p:Int) (n:Nat) (A B:bC) (t k:Nat) (inv:Int) (f:Nat->Int):Prop where
 bt:∀b,b<n->cg p (B t b) (inv*A k b)
 ba:∀a,a<n->a≠t->∀b,b<n->cg p (B a b) (eN A t k a b+f a*B t b)
theorem Iy.zP {p:Int} {n:Nat} {M N:bC} {t k j:Nat} {inv:Int} (P:Iy p n M N t k j inv) (Y:bC):am8 p n (Hj n M Y) (Hj n N Y) t k inv (fun a=>p - eN M t k a j):=by
 constructor
 ·intro b _;unfold Hj;rw[<-zS];refine ki fun i _=>?_;rw[P.nt i];refine(cg.mul (FQ p _) (cg.refl p (Y i b))).trans ?_;exact⟨0,by grind⟩
 ·intro a ha cY b _;have e:eN (Hj n M Y) t k a b=sm n (fun i=>eN M t k a i*Y i b):=by
   unfold eN Hj;split
   ·rfl
   ·split<;>rfl
  rw[e];unfold Hj;rw[<-zS,<-RB];refine ki fun i _=>?_;rw[P.na a ha cY i];refine(cg.mul (FQ p _) (cg.refl p (Y i b))).trans ?_;exact⟨0,by grind⟩
theorem acT {P:Nat->Bool}:∀n,(List.range n).countP P=n↔∀i,i<n->P i=true
 |0=>by simp
 |n+1=>by
  rw[OS];have h:=acT (P:=P) n;have jF:(List.range n).countP P<=n:=by have:=List.countP_le_length (p:=P) (l:=List.range n);simpa using this
  constructor
  ·intro hh;cases hP:P n with
   |false=>rw[hP] at hh;simp at hh;omega
   |true=>
    rw[hP] at hh;simp only[if_true] at hh;have:=h.1 (by omega);intro i hi;by_cases gU:i=n
    ·rw[gU];exact hP
    ·exact this i (by omega)
  ·intro hh;rw[hh n (by omega),h.2 fun i hi=>hh i (by omega)];simp
theorem XR (p:Int) (k:Nat) (A B:bC) (i j:Nat):cg p (gp p k A B i j) (sm k (fun t=>A i t*B t j)):=by
 unfold gp;rw[adb];exact FQ _ _
theorem ajK {p:Int} {r c:Nat} {M:bC} (cf:dz p=true) (hM:dK p r c M) {i j:Nat} (hi:i<r) (hj:j<c):
  cg p (sm (dh p r M c).2.1.length (fun t=>M i (pv (dh p r M c).2.1 t)*(dh p r M c).1 t j)) (M i j):=by
 have hp:eW p:=gn cf;have R:=Eg cf hM c (zaf c);have I:=sI hp hM c;obtain⟨y,hy⟩:=(Q8 cf hM (M i) c (zaf c)).2 (ql hi);generalize dh p r M c=s at R I hy;have cN:∀t,t<s.2.1.length->cg p (M i (pv s.2.1 t)) (y t):=fun t ht=>by
  refine uk.2 ?_;rw[hy _ (R.lt t ht),vk (a:=t) r (by have:=I.l;omega) fun a ha aR=>by rw[R.gu t ht a ha aR,zaJ]];rw[R.one t ht,zaK]
 have e1:cg p (sm s.2.1.length (fun t=>M i (pv s.2.1 t)*s.1 t j)) (sm s.2.1.length (fun t=>y t*s.1 t j)):=ki fun t ht=>cg.mul (cN t ht) (cg.refl _ _);refine e1.trans (uk.2 ?_);rw[hy j hj,aaw (m:=s.2.1.length) r I.l fun a ha hla=>by rw[R.zero a hla ha j hj,zaJ]]
theorem amB {p:Int} {r c:Nat} {M:bC} (cf:dz p=true) (hM:dK p r c M):(dh p c (ky M) r).2.1.length<=(dh p r M c).2.1.length:=by
 have hp:eW p:=gn cf;have R:=Eg cf hM c (zaf c);have hT:dK p c r (ky M):=fun j hj i hi=>hM i hi j hj;have hB:dK p (dh p r M c).2.1.length r (fun t i=>M i (pv (dh p r M c).2.1 t)):=fun t ht i hi=>hM i hi _ (R.lt t ht);refine zaG (BV cf hT hB fun x hx=>ua (fun j hj=>?_) hx) (sI hp hB r).l;refine⟨fun t=>(dh p r M c).1 t j,fun i hi=>?_⟩;show M i j%p=_;rw[<-uk.1 (ajK cf hM hi hj)];congr 1;exact lE fun t _=>zbf _ _
theorem aC3 {p:Int} {r c:Nat} {M:bC} (cf:dz p=true) (hM:dK p r c M):(dh p c (ky M) r).2.1.length=(dh p r M c).2.1.length:=
 zbb (amB cf hM) (amB (M:=ky M) cf (fun j hj i hi=>hM i hi j hj))
theorem B6 (N k:Nat) (y g:Nat->Int) (L:bC):sm N (fun u=>y u*sm k (fun t=>L u t*g t))=sm k (fun t=>sm N (fun u=>y u*L u t)*g t):=by
 have e1:sm N (fun u=>y u*sm k (fun t=>L u t*g t))=sm N (fun u=>sm k (fun t=>y u*L u t*g t)):=lE fun u _=>by
  rw[<-zS];exact lE fun t _=>by rw[zbk]
 rw[e1,RE];exact lE fun t _=>by rw[alK]
theorem Ud (p:Int) (f g:Nat->Int) (n:Nat):cg p (iR p f g n) (sm n (fun t=>f t*g t)):=XR p n (fun _=>f) (fun t _=>g t) 0 0
theorem alL {k t:Nat} (g:Nat->Int) (ht:t<k):sm k (fun b=>(if b=t then(1:Int) else 0)*g b)=g t:=by
 rw[vk (a:=t) k ht (fun i _ aR=>by simp[aR])];simp
theorem FR {p a b:Int} (h:a=b):cg p a b:=h▸cg.refl p a
theorem I7 {p a:Int}:cg p (a%p) a:=FQ p a
def LI (m:Int) (N k:Nat) (L:bC):Prop:=∀x:Nat->Int,Sp m N k L x
def uJ:bC:=fun a b=>if b=a then 1 else 0
theorem am9 {m:Int} {k:Nat} (x:Nat->Int):Sp m k k uJ x:=⟨x,fun b hb=>by
 have:sm k (fun i=>x i*uJ i b)=x b:=by
  rw[vk (a:=b) k hb (fun i _ aR=>by unfold uJ;rw[if_neg (fun h=>aR h.symm),zaJ])];unfold uJ;rw[if_pos rfl,zaK]
 rw[this]⟩
theorem am3 {m:Int} {N k:Nat} {L:bC} (h:∀t,t<k->∃i,i<N/\∀b,b<k->uJ t b%m=L i b%m):LI m N k L:=fun x=>
 ua (fun t ht=>by
  obtain⟨i,hi,e⟩:=h t ht;exact As (ql hi) e) (am9 x)
theorem am2 {m:Int} {N k N' k' K:Nat} {L A L':bC} (hL:LI m N k L) (hA:LI m K k' A)
  (h:∀a,a<K->∃(t:Nat) (φ ψ:Nat->Nat),t<k/\ψ t=a/\(∀u,u<N->φ u<N')/\∀u,u<N->∀b,b<k'->cg m (L' (φ u) b) (sm k (fun t=>L u t*A (ψ t) b))):LI m N' k' L':=fun x=>by
 refine ua (fun a ha=>?_) (hA x);obtain⟨t,φ,ψ,ht,hψ,hφ,e⟩:=h a ha;refine ua (N:=fun u=>L' (φ u)) (r':=N) (fun u hu=>ql (hφ u hu)) ?_;obtain⟨y,hy⟩:=hL (fun b=>if b=t then 1 else 0)
 refine⟨y,fun b hb=>uk.1 (cg.symm ?_)⟩;refine(ki fun u hu=>cg.mul (cg.refl _ (y u)) (e u hu b hb)).trans ?_;rw[B6];refine(ki fun q hq=>cg.mul (uk.2 (hy q hq).symm) (cg.refl _ (A (ψ q) b))).trans ?_;rw[alL (fun q=>A (ψ q) b) ht,hψ];exact cg.refl _ _
theorem aga {m:Int} (hm:eW m) (k:Nat):dK m k k uJ:=fun a _ b _=>by
 have:=hm.1;unfold uJ fx;split<;>omega
theorem aAM {m:Int} {k:Nat} (cf:dz m=true):(dh m k uJ k).2.1.length=k:=by
 have hm:=gn cf;have h2:=hm.1;have hI:=aga hm k;rw[<-OT cf hI k (zaf k)];refine(acT k).2 fun j hj=>DK.2 ((Yk cf hI hj).1 ⟨uJ j,ql hj,fun b hb=>?_,?_⟩)
 ·unfold uJ;rw[if_neg (by omega)];exact za7 _
 ·unfold uJ;rw[if_pos rfl,za1 (by omega) (by omega)];decide
theorem aAJ {m:Int} {N k:Nat} {L:bC} (cf:dz m=true) (hL:dK m N k L) (h:LI m N k L):(dh m N L k).2.1.length=k:=by
 have hm:=gn cf;refine zbb (sI hm hL k).lj ?_;have:=BV cf (aga hm k) hL fun x _=>h x;rwa[aAM cf] at this
theorem am1 {m:Int} {N k:Nat} {L L':bC} (h:LI m N k L) (e:∀u,u<N->∀b,b<k->cg m (L' u b) (L u b)):LI m N k L':=fun x=>by
 obtain⟨y,hy⟩:=h x;refine⟨y,fun b hb=>(hy b hb).trans (uk.1 (ki fun u hu=>cg.mul (cg.refl _ _) (e u hu b hb).symm))⟩
theorem aAK {m:Int} {N k c:Nat} {U L R:bC} (cf:dz m=true) (hU:dK m N c U) (hL:LI m N k L) (hR:LI m c k (ky R)) (h:∀u,u<N->∀w,w<c->cg m (U u w) (sm k (fun t=>L u t*R t w))):
  (dh m N U c).2.1.length=k:=by
 have hm:=gn cf;have h2:=hm.1;let R':bC:=fun t w=>R t w%m;have AW:dK m k c R':=fun t _ w _=>⟨za8 _ (by omega),zaF _ (by omega)⟩;have hT:dK m c k (ky R'):=fun w hw t ht=>AW t ht w hw;have k1:(dh m c (ky R') k).2.1.length=k:=aAJ cf hT (am1 hR fun w _ t _=>I7);rw[aC3 cf AW] at k1;refine zbb ?_ ?_
 ·refine zaG (BV cf hU AW fun x hx=>ua (fun u hu=>?_) hx) (Nat.le_of_eq k1);refine⟨fun t=>L u t,fun w hw=>?_⟩;refine uk.1 ((h u hu w hw).trans (ki fun t _=>cg.mul (cg.refl _ _) I7.symm))
 ·rw[<-k1];refine(BV cf AW hU fun x hx=>ua (fun t ht=>?_) hx);obtain⟨y,hy⟩:=hL (fun b=>if b=t then 1 else 0)
  refine⟨y,fun w hw=>uk.1 (cg.symm ?_)⟩;refine(ki fun u hu=>cg.mul (cg.refl _ (y u)) (h u hu w hw)).trans ?_;rw[B6];refine(ki fun q hq=>cg.mul (uk.2 (hy q hq).symm) (cg.refl _ (R q w))).trans ?_;rw[alL (fun q=>R q w) ht];exact I7.symm
theorem aAN {m:Int} {N k c:Nat} {U L R:bC} (cf:dz m=true) (hU:dK m N c U) (h:∀u,u<N->∀w,w<c->cg m (U u w) (sm k (fun t=>L u t*R t w))):(dh m N U c).2.1.length<=k:=by
 have hm:=gn cf;have h2:=hm.1;have AW:dK m k c (fun t w=>R t w%m):=fun t _ w _=>⟨za8 _ (by omega),zaF _ (by omega)⟩;refine zaG (BV cf hU AW fun x hx=>ua (fun u hu=>?_) hx) (sI hm AW c).l;refine⟨fun t=>L u t,fun w hw=>uk.1 ((h u hu w hw).trans (ki fun t _=>cg.mul (cg.refl _ _) I7.symm))⟩
theorem adG {m:Int} {r c:Nat} {d:aa} (cf:dz m=true) (hl:d.length=r*c) (hd:eZ m d) {i j:Nat} (hi:i<r) (hj:j<c):
  cg m (bH c d i j) (sm (fz m r c d) (fun t=>bH (fz m r c d) (lL m r c d) i t*bH c (n6 m r c d) t j)):=by
 have hM:=sW hl hd;refine(ajK cf hM hi hj).symm.trans (ki fun t ht=>?_);have h1:bH (fz m r c d) (lL m r c d) i t=bH c d i (pv (dh m r (bH c d) c).2.1 t):=mZ _ hi ht;have h2:bH c (n6 m r c d) t j=(dh m r (bH c d) c).1 t j:=mZ _ ht hj;rw[h1,h2];exact cg.refl _ _
theorem aq3 {m:Int} {r c:Nat} {d:aa} (cf:dz m=true) (hl:d.length=r*c) (hd:eZ m d):LI m r (fz m r c d) (bH (fz m r c d) (lL m r c d)):=fun x=>by
 have hM:=sW hl hd;have R:=Eg cf hM c (zaf c);have I:=sI (gn cf) hM c;have hs:Sp m r c (dh m r (bH c d) c).1 (fun b=>sm (fz m r c d) (fun s=>x s*(dh m r (bH c d) c).1 s b)):=by
  refine ua (N:=(dh m r (bH c d) c).1) (r':=fz m r c d) (fun i hi=>ql (zbh hi I.l)) ⟨x,fun b _=>rfl⟩
 obtain⟨y,hy⟩:=(Q8 cf hM _ c (zaf c)).1 hs;refine⟨y,fun t ht=>?_⟩;have e1:=hy (pv (dh m r (bH c d) c).2.1 t) (R.lt t ht);have e2:sm (fz m r c d) (fun s=>x s*(dh m r (bH c d) c).1 s (pv (dh m r (bH c d) c).2.1 t))=x t:=by
  rw[vk (a:=t) _ ht (fun s hs aR=>by rw[R.gu t ht s (zbh hs I.l) aR,zaJ]),R.one t ht,zaK]
 have e1:=(congrArg (·%m) e2).symm.trans e1;refine Eq.trans e1 ?_;congr 1;refine lE fun i hi=>?_;have h1:bH (fz m r c d) (lL m r c d) i t=bH c d i (pv (dh m r (bH c d) c).2.1 t):=mZ _ hi ht;rw[h1]
theorem aq4 {m:Int} {r c:Nat} {d:aa} (cf:dz m=true) (hl:d.length=r*c) (hd:eZ m d):LI m c (fz m r c d) (ky (bH c (n6 m r c d))):=by
 have hM:=sW hl hd;have R:=Eg cf hM c (zaf c);have I:=sI (gn cf) hM c;refine am3 fun t ht=>⟨_,R.lt t ht,fun b hb=>?_⟩;have h2:ky (bH c (n6 m r c d)) (pv (dh m r (bH c d) c).2.1 t) b=(dh m r (bH c d) c).1 b (pv (dh m r (bH c d) c).2.1 t):=mZ _ hb (R.lt t ht);rw[h2];unfold uJ;by_cases h:b=t
 ·rw[if_pos h,h,R.one t ht]
 ·rw[if_neg h,R.gu t ht b (zbh hb I.l) h]
theorem QX (c p:Nat) (l:aa) (a v j:Nat):bH c l (a*p+v) j=bH (p*c) l a (v*c+j):=by
 unfold bH;congr 1;rw[zat,zaq,zaX]
def lN (m:Int) (l:List aS) (D:aa):Nat->Nat->Nat->Int
 |0,_=>fun _=>1
 |i+1,u=>zP m (lN m l D i (u/(D.getD i 0).toNat)) (l.getD i cm) (u%(D.getD i 0).toNat)
def rL:List aS->bC
 |[]=>fun _ _=>1
 |s::l=>fun t w=>sm s.2.2.1.toNat (fun j=>m5 s (w/aL (bw l)) t j*rL l j (w%aL (bw l)))
theorem ajI {m:Int} {l:List aS} {D:aa} {n:Nat}:∀i,i<=D.length->vg m l (bV D n) i=lN m l D i (n/bQ D i)
 |0,_=>rfl
 |i+1,hi=>by
  show zP m (vg m l (bV D n) i) _ _=zP m (lN m l D i (n/bQ D (i+1)/(D.getD i 0).toNat)) _ _;rw[ajI i (by omega),zq (by omega),zbm,tU (show i<D.length by omega),zai];rfl
theorem Xt {m:Int} (hm:eW m) (l:List aS) (D:aa):∀i u j,fx m (lN m l D i u j)
 |0,_,_=>by have:=hm.1;exact⟨by show(0:Int)<=1;decide,by show(1:Int)<m;omega⟩
 |i+1,_,_=>ui hm _ _ _
theorem G7 {m:Int} {l:List aS} {D:aa} {i u v j:Nat} (hv:v<(D.getD i 0).toNat):
  cg m (lN m l D (i+1) (u*(D.getD i 0).toNat+v) j) (sm (l.getD i cm).1.toNat (fun t=>lN m l D i u t*m5 (l.getD i cm) v t j)):=by
 show cg m (zP m (lN m l D i ((u*(D.getD i 0).toNat+v)/(D.getD i 0).toNat)) _ ((u*(D.getD i 0).toNat+v)%(D.getD i 0).toNat) j) _;rw[qF hv,rr hv];exact Ud _ _ _ _
theorem Qw {m:Int} {l l':List aS} {D:aa}:∀i,(∀k,k<i->l.getD k cm=l'.getD k cm)->lN m l D i=lN m l' D i
 |0,_=>rfl
 |i+1,h=>by
  funext u;show zP m (lN m l D i _) _ _=zP m (lN m l' D i _) _ _;rw[Qw i (fun k hk=>h k (by omega)),h i (by omega)]
def jR (m:Int) (l:List aS) (n:Nat):Int:=lN m l (bw l) l.length n 0
theorem TU {m:Int} {l:List aS} (n:Nat):vH m l (bV (bw l) n)=jR m l n:=by
 unfold vH jR;rw[ajI l.length (by rw[iC];exact zaf _),<-iC l,tT,zbB]
structure Ch (m:Int) (D:aa) (L:List aS):Prop where
 fit:FY m L
 iQ:bw L=D
 len:1<=L.length
 fst:(L.getD 0 cm).1=1
 Kz:(L.getD (L.length - 1) cm).2.2.1=1
theorem Ch.left {m:Int} {D:aa} {L:List aS} (h:Ch m D L):∀{k:Nat},k<L.length->(L.getD k cm).1.toNat=cu L k
 |0,_=>by rw[h.fst];rfl
 |k+1,hk=>by rw[h.fit.2 k hk];rfl
theorem Ch.ac8 {m:Int} {D:aa} {L:List aS} (h:Ch m D L):D.length=L.length:=by rw[<-h.iQ];exact iC L
theorem Ch.last {m:Int} {D:aa} {L:List aS} (h:Ch m D L):cu L L.length=1:=by
 have:=h.len;have e:L.length=L.length - 1+1:=by omega
 rw[e];show(L.getD (L.length - 1) cm).2.2.1.toNat=1;rw[h.Kz];rfl
theorem aoV (L:List aS) (k:Nat):aL (bw (L.drop k))=bQ (bw L) k:=by
 unfold bQ bw;rw[List.map_drop]
theorem aoW {L:List aS} {k:Nat} (hk:k<L.length):L.drop k=L.getD k cm::L.drop (k+1):=by
 rw[zak hk];congr 1;rw[zaa,zab hk];rfl
theorem aAH {m:Int} {D:aa} {L:List aS} (h:Ch m D L) {i t v w:Nat} (hi:i<L.length) (hw:w<bQ D (i+1)):
  rL (L.drop i) t (v*bQ D (i+1)+w)=sm (cu L (i+1)) (fun j=>m5 (L.getD i cm) v t j*rL (L.drop (i+1)) j w):=by
 rw[aoW hi];show sm _ (fun j=>m5 (L.getD i cm) ((v*bQ D (i+1)+w)/aL (bw (L.drop (i+1)))) t j*rL (L.drop (i+1)) j ((v*bQ D (i+1)+w)%aL (bw (L.drop (i+1)))))=_;rw[aoV,h.iQ,qF hw,rr hw];rfl
theorem Ch.split {m:Int} {D:aa} {L:List aS} (h:Ch m D L):∀(q i:Nat),i+q=L.length->∀u w,w<bQ D i->
  cg m (lN m L D L.length (u*bQ D i+w) 0) (sm (cu L i) (fun t=>lN m L D i u t*rL (L.drop i) t w))
 |0,i,hi,u,w,hw=>by
  have hi:i=L.length:=hi;subst hi;have e:bQ D L.length=1:=by rw[<-h.ac8];exact tT D
  rw[e] at hw⊢;have:w=0:=by omega
  subst this;rw[h.last,List.drop_length,zam,zbq];refine FR ?_;show _=0+_*1;rw[zaK,zbO]
 |q+1,i,hi,u,w,hw=>by
  have gk:i<L.length:=by omega
  have ih:=Ch.split h q (i+1) (by omega);rw[tU (by rw[h.ac8];exact gk)] at hw⊢;have hP:0<bQ D (i+1):=by
   rcases zaV (bQ D (i+1)) with h0|h0
   ·rw[h0,zbs] at hw;omega
   ·exact h0
  have hv:w/bQ D (i+1)<(D.getD i 0).toNat:=zbx (by rw[zai];exact hw);have hr:w%bQ D (i+1)<bQ D (i+1):=zay _ hP;have ew:w=w/bQ D (i+1)*bQ D (i+1)+w%bQ D (i+1):=by rw[zai];exact(zaC _ _).symm
  generalize w/bQ D (i+1)=v at hv ew;generalize w%bQ D (i+1)=w' at hr ew;subst ew;have e:u*((D.getD i 0).toNat*bQ D (i+1))+(v*bQ D (i+1)+w')=(u*(D.getD i 0).toNat+v)*bQ D (i+1)+w':=by
   rw[zat,zaq,zaX]
  rw[e];refine(ih _ _ hr).trans ?_;refine(ki fun j _=>cg.mul (G7 hv) (cg.refl _ _)).trans (FR ?_);rw[h.left gk,<-B6];exact lE fun t _=>by rw[aAH h gk hr]
def amE (m:Int) (L:List aS) (D:aa) (i:Nat):bC:=fun u w=>lN m L D L.length (u*bQ D i+w) 0
theorem Ch.BV {m:Int} {D:aa} {L:List aS} (h:Ch m D L) (cf:dz m=true) {i:Nat} (hi:i<=L.length) (N:Nat):(dh m N (amE m L D i) (bQ D i)).2.1.length<=cu L i:=
 aAN cf (fun _ _ _ _=>Xt (gn cf) _ _ _ _ _) fun u _ w hw=>Ch.split h (L.length - i) i (by omega) u w hw
def nr (D:aa):Nat->Nat
 |0=>1
 |i+1=>nr D i*(D.getD i 0).toNat
theorem head_tail (D:aa):∀i,i<=D.length->nr D i*bQ D i=aL D
 |0,_=>by rw[LF];exact zaT _
 |i+1,hi=>by
  rw[<-head_tail D i (by omega),tU (show i<D.length by omega),<-zaq];rfl
def vq (D A:aa) (i:Nat):bC:=bH (bQ D i) A
structure Ap (m:Int) (D A:aa) (i:Nat) (st:qh):Prop where
 c:CF m D i st
 b4:st.1<=4
 val:∀u,u<nr D i->∀w,w<bQ D i->cg m (vq D A i u w) (sm st.1 (fun t=>lN m st.2.2 D i u t*bH (bQ D i) st.2.1 t w))
 li:LI m (nr D i) st.1 (lN m st.2.2 D i)
 rk:∀k,k<i->(dh m (nr D (k+1)) (vq D A (k+1)) (bQ D (k+1))).2.1.length=((st.2.2.getD k cm).2.2.1).toNat
theorem ae9 {l l':List aS} {k:Nat} (h:k<l.length):(l++l').getD k cm=l.getD k cm:=by
 rw[zaa,zaa,zap h]
theorem afa {l:List aS} {s:aS} {k:Nat} (h:l.length=k):(l++[s]).getD k cm=s:=by
 rw[zaa,zao (by omega),h,zbG];rfl
theorem HY {d u N:Nat} (hu:u<N*d):∃u' v,u=u'*d+v/\u'<N/\v<d:=by
 have hd:0<d:=by
  rcases zaV d with h|h
  ·rw[h,zbs] at hu;omega
  ·exact h
 exact⟨u/d,u%d,by rw[zai];exact(zaC _ _).symm,zbx (by rw[zai];exact hu),zay _ hd⟩
theorem amD {m:Int} {D A:aa} (h:yq m D A) {i:Nat} (hi:i<=D.length):dK m (nr D i) (bQ D i) (vq D A i):=
 sW (by rw[h.len,head_tail D i hi]) h.el
theorem alQ {m:Int} {D:aa} {l:List aS} {a k i u v z:Nat} {fa:aa} (hl:l.length=i) (hv:v<(D.getD i 0).toNat):
  cg m (lN m (l++[((a:Int),D.getD i 0,(k:Int),fa)]) D (i+1) (u*(D.getD i 0).toNat+v) z) (sm a (fun t=>lN m l D i u t*bH k fa (t*(D.getD i 0).toNat+v) z)):=by
 refine(G7 hv).trans (FR ?_);rw[afa hl,Qw (l:=l++[((a:Int),D.getD i 0,(k:Int),fa)]) (l':=l) i (fun q hq=>ae9 (by omega))];rfl
theorem Ap.next {m:Int} {D A:aa} (h:yq m D A) (qz:∀x∈D,x<=3) (hn:D.length<=4) {i:Nat} (hi:i<D.length - 1)
  (hr:(dh m (nr D (i+1)) (vq D A (i+1)) (bQ D (i+1))).2.1.length<=4) {st:qh} (I:Ap m D A i st):II D i st=true/\cK m D i st<=4/\Ap m D A (i+1) (yD m D i st):=by
 have fA:i<D.length:=by omega
 have h3:(D.getD i 0).toNat<=3:=by have:=qz _ (gS fA);omega
 have fU:=wX.rc h (by omega) I.c.s;have cf:=h.pr;have jE:II D i st=true:=by
  refine decide_eq_true ⟨zaG (zad I.b4 h3) (by decide),?_⟩;have cN:∀q i,i+q=D.length->1<=i->bQ D i<=3^q:=by
   intro q;induction q with
   |zero=>intro i hi _;have:i=D.length:=hi;subst this;rw[tT];decide
   |succ q ih=>
    intro i hi h1;rw[tU (by omega),zbP,zai];have h3:(D.getD i 0).toNat<=3:=by have:=qz _ (gS (l:=D) (i:=i) (by omega));omega
    exact zad (ih (i+1) (by omega) (by omega)) h3
  have:=cN (D.length - (i+1)) (i+1) (by omega) (by omega);have h4:3^(D.length - (i+1))<=3^3:=zbw (by decide) (by omega);have:(3:Nat)^3=27:=by decide
  omega
 have hN:nr D (i+1)=nr D i*(D.getD i 0).toNat:=rfl;have hT:bQ D i=(D.getD i 0).toNat*bQ D (i+1):=tU fA;have JC:=I.c.s.lH;have amI:∀u,u<nr D (i+1)->∀w,w<bQ D (i+1)->cg m (vq D A (i+1) u w) (sm (cK m D i st) (fun t=>lN m (yD m D i st).2.2 D (i+1) u t*bH (bQ D (i+1)) (yD m D i st).2.1 t w)):=by
  intro u hu w hw;obtain⟨u',v,rfl,nB,hv⟩:=HY hu;have e1:vq D A (i+1) (u'*(D.getD i 0).toNat+v) w=vq D A i u' (v*bQ D (i+1)+w):=by
   unfold vq;rw[QX,<-hT]
  rw[e1];have hw2:v*bQ D (i+1)+w<bQ D i:=by rw[hT];exact jK hv hw
  refine(I.val u' nB _ hw2).trans ?_;have e2:∀t,t<st.1->cg m (bH (bQ D i) st.2.1 t (v*bQ D (i+1)+w)) (sm (cK m D i st) (fun z=>bH (cK m D i st) (lL m (st.1*(D.getD i 0).toNat) (bQ D (i+1)) st.2.1) (t*(D.getD i 0).toNat+v) z*bH (bQ D (i+1)) (yD m D i st).2.1 z w)):=by
   intro t ht;rw[hT,<-QX];exact adG cf fU I.c.s.el (jK ht hv) hw
  refine(ki fun t ht=>cg.mul (cg.refl _ _) (e2 t ht)).trans ?_;rw[B6];exact ki fun z _=>cg.mul (alQ JC hv).symm (cg.refl _ _)
 have li':LI m (nr D (i+1)) (cK m D i st) (lN m (yD m D i st).2.2 D (i+1)):=by
  refine am2 I.li (aq3 cf fU I.c.s.el) fun a ha=>?_;obtain⟨t,v,rfl,ht,hv⟩:=HY ha;refine⟨t,fun u=>u*(D.getD i 0).toNat+v,fun t=>t*(D.getD i 0).toNat+v,ht,rfl,fun u hu=>jK hu hv,fun u hu b hb=>alQ JC hv⟩
 have hk:(dh m (nr D (i+1)) (vq D A (i+1)) (bQ D (i+1))).2.1.length=cK m D i st:=
  aAK cf (amD h (by omega)) li' (aq4 cf fU I.c.s.el) amI
 have JM:cK m D i st<=4:=by omega
 refine⟨jE,JM,CF.next h hi I.c jE (by omega),JM,amI,li',fun k dg=>?_⟩;by_cases Dn:k<i
 ·rw[I.rk k Dn];show _=((st.2.2++[_]).getD k cm).2.2.1.toNat
  rw[ae9 (by omega)]
 ·have:k=i:=by omega
  subst this;rw[hk];show _=((st.2.2++[_]).getD k cm).2.2.1.toNat
  rw[afa JC];rfl
theorem Ap.run {m:Int} {D A:aa} (h:yq m D A) (qz:∀x∈D,x<=3) (hn:D.length<=4)
  (hr:∀i,i<D.length - 1->(dh m (nr D (i+1)) (vq D A (i+1)) (bQ D (i+1))).2.1.length<=4):∀(es:List Nat) (i:Nat) (st:qh),i+es.length=D.length - 1->Ap m D A i st->
  ∃st',iH (T2 m D) i st es=some st'/\Ap m D A (D.length - 1) st'
 |[],i,st,hi,I=>by
  rw[zah,zbq] at hi;subst hi;exact⟨st,rfl,I⟩
 |e::es,i,st,hi,I=>by
  rw[zag] at hi;obtain⟨h1,h2,h3⟩:=Ap.next h qz hn (i:=i) (by omega) (hr i (by omega)) I;simp only[iH];rw[show T2 m D i st e=some (yD m D i st) by unfold T2;rw[if_pos h1,if_pos (by omega)]];exact Ap.run h qz hn hr es (i+1) _ (by omega) h3
def Bd (L:List aS):Prop:=∀k,k<L.length->(L.getD k cm).1.toNat<=4/\(L.getD k cm).2.1.toNat<=3/\(L.getD k cm).2.2.1.toNat<=4
theorem afe {L:List aS} {i:Nat} {s t:aS} (hi:i+1<L.length) (k:Nat):((L.set i s).set (i+1) t).getD k cm=if k=i+1 then t else if k=i then s else L.getD k cm:=by
 rw[Jq (by simpa using hi),Jq (by omega)]
theorem yL {l l':aa} (hl:l.length=l'.length) (h:∀k,k<l.length->l.getD k 0=l'.getD k 0):l=l':=
 List.ext_getElem hl fun k h1 h2=>by
  have:=h k h1;rw[zaa,zaa,zab h1,zab h2] at this;exact this
structure Two (m:Int) (D:aa) (L L':List aS) (i:Nat):Prop where
 len:L'.length=L.length
 ch:Ch m D L'
 bd:∀k,k<=L.length->k≠i+1->cu L' k=cu L k
 val:∀k,k<=L.length->k≠i+1->∀u j,j<cu L k->lN m L' D k u j=lN m L D k u j
 b4:Bd L'
theorem agT {m:Int} {D:aa} {L:List aS} (h:Ch m D L) {i u v v' j:Nat} (hi:i+1<L.length) (hv:v<(D.getD i 0).toNat) (fH:v'<(D.getD (i+1) 0).toNat):
  cg m (lN m L D (i+2) ((u*(D.getD i 0).toNat+v)*(D.getD (i+1) 0).toNat+v') j) (sm (cu L i) (fun t=>lN m L D i u t*sm (cu L (i+1)) (fun q=>m5 (L.getD i cm) v t q*m5 (L.getD (i+1) cm) v' q j))):=by
 refine(G7 fH).trans ?_;rw[h.left (show i+1<L.length from hi),B6]
 refine ki fun q _=>cg.mul ?_ (cg.refl _ _);rw[<-h.left (show i<L.length by omega)];exact G7 hv
theorem aat (b p c:Nat) (d:aa) (v x q:Nat):m5 ((b:Int),(p:Int),(c:Int),d) v x q=bH c d (x*p+v) q:=rfl
structure FwI (m:Int) (D:aa) (l L:List aS) (i:Nat):Prop where
 ch:Ch m D L
 len:L.length=l.length
 b4:Bd L
 val:∀u,lN m L D l.length u 0=lN m l D l.length u 0
 li:∀k,k<=i->LI m (nr D k) (cu L k) (lN m L D k)
structure BwI (m:Int) (D:aa) (l L:List aS) (i:Nat):Prop where
 f:FwI m D l L (l.length - 1)
 ri:∀k,i<k->k<=l.length->LI m (bQ D k) (cu L k) (ky (rL (L.drop k)))
theorem Ch.of {m:Int} {l:List aS} (h:fi (m,l)=true):Ch m (bw l) l:=by
 obtain⟨_,⟨h1,h8⟩,_,hb,hs⟩:=qX h;refine⟨C6 h,rfl,h1,?_,?_⟩
 ·obtain⟨p,M,e,_⟩:=hs 0 (by omega);rw[e];rfl
 ·obtain⟨p,M,e,_⟩:=hs (l.length - 1) (by omega);have e1:l.length - 1+1=l.length:=by omega
  rw[e,e1,hb];rfl
theorem Ch.ok {m:Int} {D:aa} {L:List aS} (h:Ch m D L) (cf:dz m=true) (h8:L.length<=8) (hp:eH D<=4096):fi (m,L)=true:=by
 have kE:iH (qq m) 0 1 L=some 1:=by
  refine(TS L 0 1 1).2 ⟨fun k hk=>⟨h.fit.1 k hk,?_⟩,?_⟩
  ·cases k with
   |zero=>exact h.fst
   |succ k=>exact h.fit.2 k hk
  ·have:=h.len;rw[show L.length=L.length - 1+1 by omega];exact h.Kz.symm
 simp only[fi,cf,kE,h.iQ,zbi];rw[decide_eq_true ⟨h.len,h8⟩,decide_eq_true hp];rfl
theorem OI {m:Int} {l:List aS} (h:fi (m,l)=true):dz m=true/\l.length<=8/\eH (bw l)<=4096:=by
 obtain⟨_,h8,hp,_⟩:=qX h;refine⟨?_,h8.2,hp⟩;simp only[fi,zaz] at h;exact h.1
theorem QA {p:Int} {r c:Nat} {M:bC} (cf:dz p=true) (hr:r<=64) (hc:c<=64) (hM:dK p r c M):jv p ((r:Int),(c:Int),ax r c M)=true:=by
 simp only[jv,zaz,decide_eq_true_eq];exact⟨cf,⟨by omega,by omega⟩,⟨by omega,by omega⟩,by rw[lp];push_cast;rfl,aA5.2 (kZ.2 hM)⟩
theorem amn {r c:Nat} {M:bC} (hr:r<=64) (hc:c<=64):vn ((r:Int),(c:Int),ax r c M)<=1048576:=by
 show(ax r c M).length<=_;rw[lp];have:=zad hr hc;omega
theorem aAL {p:Int} {r c:Nat} {A B:bC} (cf:dz p=true) (hA:dK p r c A) (hB:dK p r c B) (h:∀a,a<r->∀b,b<c->A a b=B a b):(dh p r A c).2.1.length=(dh p r B c).2.1.length:=by
 apply zbb
 ·exact BV cf hA hB fun x hx=>ua (fun i hi=>As (ql hi) fun b hb=>by rw[h i hi b hb]) hx
 ·exact BV cf hB hA fun x hx=>ua (fun i hi=>As (ql hi) fun b hb=>by rw[h i hi b hb]) hx
theorem ae7 {r c:Nat} (M:bC):∀a,a<r->∀b,b<c->bH c (ax r c M) a b=M a b:=fun a ha b hb=>mZ M ha hb
theorem axr {p:Int} {r k c:Nat} {A B:bC} (cf:dz p=true) (hr:r<=64) (hk:k<=64) (hc:c<=64) (hA:dK p r k A) (hB:dK p k c B):
  EO (p,((r:Int),(k:Int),ax r k A),((k:Int),(c:Int),ax k c B))=some (((r:Int),(c:Int),ax r c (gp p k A B)),true):=by
 simp only[EO,LY,zac];rw[if_pos ⟨amn hr hk,amn hk hc⟩,if_pos ⟨QA cf hr hk hA,QA cf hk hc hB,trivial⟩];rw[jD fun i hi j hj=>XQ (fun t ht=>ae7 A i hi t ht) (fun t ht=>ae7 B t ht j hj)]
theorem bc {α β:Type} (x:α) (f:α->Option β):(some x).ae f=f x:=by
 have h:∀o:Option α,o=some x->o.ae f=f x:=by intro o h;subst h;rfl
 exact h _ rfl
theorem s9 {α:Type} (x y:α):aD true x y=x:=rfl
theorem nZ {α:Type} (x y:α):aD false x y=y:=rfl
theorem ard {m:Int} {L:List aS} (F:FY m L) (h:L.length<=8):oI (m,L)<=131072:=by
 show L.length+(L.map sL).sum<=_;have cN:∀l:List aS,(∀e∈l,sL e<=8192)->(l.map sL).sum<=l.length*8192:=by
  intro l;induction l with
  |nil=>intro _;simp
  |cons a l ih=>
   intro hl;have h1:=hl a zbg;have h2:=ih fun e he=>hl e (zaQ _ he);rw[zav,zaU,zag,zat];omega
 have:=cN L fun e he=>by
  obtain⟨k,hk⟩:=zbp.1 he;have hl:=D5 hk;obtain⟨b,p,c,d,e1,h1,h2,h3,h4,_⟩:=Lp (F.1 k hl);have e2:=getD_some cm hl;rw[hk] at e2;injection e2 with e2;rw[<-e2] at e1;subst e1;show d.length<=_;have q1:b*p<=32*8:=zad h1 h3.2;have q2:b*p*c<=(32*8)*32:=zad q1 h2;omega
 have h2:L.length*8192<=8*8192:=zas _ h;omega
theorem BO {m:Int} {L:List aS} (h:fi (m,L)=true):oI (m,L)<=1048576:=by
 have:=ard (C6 h) (OI h).2.1;omega
theorem R1 {m:Int} {L:List aS} (h:fi (m,L)=true):wT (m,L)=some (oJ m L):=by
 simp only[wT,So];rw[if_pos (BO h),if_pos h]
theorem aC0 {m:Int} {L L':List aS} (hd:bw L'=bw L) (hv:∀n,n<aL (bw L)->jR m L' n=jR m L n):oJ m L'=oJ m L:=by
 have hl:L'.length=L.length:=by rw[<-iC,<-iC,hd]
 unfold oJ;rw[hl];congr 2
 ·rw[hd];refine gQ fun n hn=>?_;have e1:=TU (m:=m) (l:=L') n;rw[hd] at e1;rw[e1,TU,hv n hn]
theorem R3 {m:Int} {L:List aS} (h:fi (m,L)=true):(oJ m L).1.length=L.length/\(oJ m L).2.1.length=L.length/\(oJ m L).2.2.length=aL (bw L)/\L.length<=8/\aL (bw L)<=4096:=by
 obtain⟨_,⟨_,hp⟩,h8,_⟩:=Ua h;rw[iC] at h8;exact⟨dV _ _,iC L,dV _ _,h8,hp⟩
theorem aBt (t:aa×aa×aa) (h1:t.1.length<=1048576) (h2:t.2.1.length<=1048576) (h3:t.2.2.length<=1048576):E8 (t,t)=some true:=by
 obtain⟨a,b,c⟩:=t;simp only[E8,Mr];rw[WL a h1];simp only[bc,s9];rw[WL b h2];simp only[bc,s9];rw[WL c h3];rfl
theorem HJ {n k:Nat} (h:k<n):(dC n).getD k 0=(k:Int):=by
 unfold dC;rw[zaa,lD _ h];rfl
theorem aB2 {l:aa} (h:∀k,k+1<l.length->l.getD k 0<=l.getD (k+1) 0):∀k,k<l.length->rG k l=l
 |0,_=>rfl
 |k+1,hk=>by
  unfold rG;rw[if_neg (by have:=h k hk;omega)]
theorem alW {l:aa} (h:∀k,k+1<l.length->l.getD k 0<=l.getD (k+1) 0):∀i,i<=l.length->iw l i=l
 |0,_=>rfl
 |i+1,hi=>by
  show rG i (iw l i)=l;rw[alW h i (by omega),aB2 h i (by omega)]
theorem aCg (n:Nat):iw (dC n) n=dC n:=by
 have hl:(dC n).length=n:=dV _ _;have:=alW (l:=dC n) (fun k hk=>by rw[hl] at hk;rw[HJ (by omega),HJ hk];omega) n (by rw[hl];exact zaf n);exact this
theorem anH {D:aa} (hl:D.length<=12) (hd:∀x∈D,1<=x/\x<=8):oN (dC D.length) D=true:=by
 have hs:(dC D.length).length=D.length:=dV _ _;simp only[oN,zaz,decide_eq_true_eq];refine⟨by omega,hs,fun j hj=>⟨?_,hd _ (gS (by omega)),?_⟩⟩
 ·rw[HJ (by omega)];omega
 ·rw[HJ (by omega)];intro hm;obtain⟨k,hk,e⟩:=zby.1 hm;rw[zaS,hs] at hk;rw[List.getElem_take] at e;have e2:=HJ (n:=D.length) (k:=k) (by omega);rw[zaa,zab (by omega)] at e2;have e2:(dC D.length)[k]'(by omega)=(k:Int):=e2;rw[e2] at e;omega
theorem aA2 {p:Int} (h:dz p=true):j5 (2,p,0)=true:=by
 have:j5 (2,p,0)=(dz p&&decide ((0:Int)=0)):=rfl;rw[this,h];rfl
theorem LH {p:Int} {L D A:aa} (hp:dz p=true) (nq:oN L D=true) (hP:aL D<=4096) (hA:A.length=aL D) (ha:eZ p A):gB (2,p,0) (L,D,A)=true:=by
 have hd:=CP nq;have hI:=x7 (D:=D) fun x hx=>(hd x hx).1;have ht:kx L D=eH D:=if_pos ⟨nq,by omega⟩;simp only[gB,zaz,decide_eq_true_eq];refine⟨aA2 hp,by rw[ht,hI];omega,?_,?_⟩
 ·rw[ht,hI,hA];show _=(aL D:Int)*1;omega
 ·refine zaE.2 fun x hx=>decide_eq_true ?_;have h1:=ha x hx;have h2:gf (2,p,0)=p - 1:=rfl;rw[h2];exact⟨h1.1,by have:=h1.2;omega⟩
theorem acv {p:Int} {A:aa} {off:Nat->Nat}:∀n,n<=A.length->(∀k,k<n->off k=k)->qW (2,p,0) A off n=A.take n
 |0,_,_=>rfl
 |n+1,hn,h=>by
  unfold qW;rw[acv n (by omega) fun k hk=>h k (by omega),h n (by omega),show cI (2,p,0)=1 from rfl,zam]
  unfold lZ;have cb:n<A.length:=by omega
  have e1:A.take (n+1)=A.take n++[A[n]]:=by rw[zax,zab cb];rfl
  rw[e1,zak cb];rfl
theorem aCq {p:Int} {D A:aa} (ht:gB (2,p,0) (dC D.length,D,A)=true):ph (2,p,0) (dC D.length,D,A)=(dC D.length,D,A):=by
 have nq:=(zY ht).1;have hs:(dC D.length).length=D.length:=dV _ _;have hS:iw (dC D.length) (dC D.length).length=dC D.length:=by rw[hs];exact aCg _
 have I:=kz.mk' nq (S:=dC D.length) hS.symm;obtain⟨_,_,_,_,hA,hG,_⟩:=zZ ht;have JT:fY (dC D.length) D (dC D.length)=D:=by
  unfold fY;rw[hs];refine yL (dV _ _) fun k hk=>?_;rw[dV] at hk;rw[zaa,lD _ hk];show D.getD (bS (dC D.length) ((dC D.length).getD k 0)) 0=_;rw[rC I.nL (by rw[hs];exact hk)]
 have Gu:∀k,k<aL D->mG (dC D.length) D (dC D.length) k=k:=fun k hk=>by
  rw[<-I.off k];have e:sE (dC D.length) D (dC D.length) k=bV D k:=by
   unfold sE bV;refine gQ fun q hq=>?_;rw[JT,rC I.nL (by rw[hs];exact hq)]
  rw[e,QW hG hk D.length (zaf _),tT,zbB]
 have e:ph (2,p,0) (dC D.length,D,A)=zH (2,p,0) (dC D.length,D,A) (dC D.length):=by
  unfold ph;rw[if_pos ht];show zH _ _ (iw (dC D.length) (dC D.length).length)=_;rw[hS]
 rw[e];unfold zH;have AS:A.length=aL D:=by rw[hA,show cI (2,p,0)=1 from rfl,zam]
 show(dC D.length,fY (dC D.length) D (dC D.length),qW (2,p,0) A (mG (dC D.length) D (dC D.length)) (aL (fY (dC D.length) D (dC D.length))))=_;rw[JT,acv _ (by omega) Gu,<-AS,zan]
structure DC (p:Int) (L:List aS):Prop where
 ok:fi (p,L)=true
 b4:Bd L
 n4:L.length<=4
theorem DC.pr {p:Int} {L:List aS} (h:DC p L):dz p=true:=(OI h.ok).1
theorem DC.d3 {p:Int} {L:List aS} (h:DC p L):∀x∈bw L,1<=x/\x<=3:=fun x hx=>by
 obtain⟨hG,_⟩:=Ua h.ok;obtain⟨k,hk,e⟩:=zby.1 hx;have e2:(bw L).getD k 0=x:=by rw[zaa,zab hk];exact e
 rw[ta] at e2;rw[iC] at hk;have:=(h.b4 k hk).2.1;have:=(hG.2 x hx).1;omega
theorem DC.len {p:Int} {L:List aS} (h:DC p L):1<=L.length:=(Ch.of h.ok).len
theorem Ii {p:Int} (hp:dz p=true) (L:List aS) (n:Nat):fx p (jR p L n):=Xt (gn hp) _ _ _ _ _
theorem R4 {m:Int} {L:List aS}:oJ m L=(dC (bw L).length,bw L,bB (aL (bw L)) (jR m L)):=by
 unfold oJ;rw[iC];congr 2;exact gQ fun n _=>TU n
theorem K6 {p:Int} {n:Nat} {f:Nat->Int} (h:∀k,fx p (f k)):eZ p (bB n f):=fun x hx=>by
 unfold bB at hx;obtain⟨k,_,rfl⟩:=zaH.1 hx;exact h k
theorem DC.ten {p:Int} {L:List aS} (h:DC p L):gB (2,p,0) (oJ p L)=true:=by
 have n4:=h.n4;obtain⟨_,_,_,_,hP⟩:=R3 h.ok;rw[R4];refine LH h.pr (anH (by rw[iC];omega) fun x hx=>?_) hP (dV _ _) (K6 fun k=>Ii h.pr L k);have:=h.d3 x hx;omega
theorem DC.da {p:Int} {L:List aS} (h:DC p L):yq p (bw L) (bB (aL (bw L)) (jR p L)):=by
 have n4:=h.n4;have l1:=h.len;obtain⟨_,_,_,_,hP⟩:=R3 h.ok;refine⟨h.pr,by rw[iC];exact l1,by rw[iC];omega,fun x hx=>?_,hP,dV _ _,K6 fun k=>Ii h.pr L k⟩;have:=h.d3 x hx;omega
theorem DC.kS {p:Int} {L:List aS} (h:DC p L) {i:Nat} (hi:i<=L.length):
  (dh p (nr (bw L) i) (vq (bw L) (bB (aL (bw L)) (jR p L)) i) (bQ (bw L) i)).2.1.length=(dh p (nr (bw L) i) (amE p L (bw L) i) (bQ (bw L) i)).2.1.length:=by
 refine aAL h.pr (amD h.da (by rw[iC];exact hi)) (fun _ _ _ _=>Xt (gn h.pr) _ _ _ _ _) fun u hu w hw=>?_;have hn:u*bQ (bw L) i+w<aL (bw L):=by
  rw[<-head_tail (bw L) i (by rw[iC];exact hi)];exact jK hu hw
 unfold vq bH;rw[zaa,lD _ hn];rfl
theorem aoL (l:aa) (n:Int) (h:l.length<=1048576) (hn:0<=n):∃D,Fc (l,n)=some D/\(1<=D.length/\D.length<=4)/\∀v∈D,1<=v/\v<=3:=by
 obtain⟨⟨a,b,c⟩,e,hc⟩:=IE l n h hn;obtain⟨D,⟨a',b',c'⟩,e2,_,h1,h2⟩:=aCe _ hc;refine⟨D,?_,h1,h2⟩;simp only[Fc,Mt];rw[e];simp only[bc];rw[e2];rfl
theorem an8 (l:aa) (n p:Int) (D:aa) (h:l.length<=1048576) (hn:0<=n) (hp:dz p=true) (hl:1<=D.length/\D.length<=4) (hd:∀v∈D,1<=v/\v<=3):
  ∃L,Fb (l,n,p,D)=some (p,L)/\DC p L/\bw L=D:=by
 obtain⟨⟨a,b,c⟩,e,hc⟩:=IE l n h hn;obtain⟨L,⟨a',b',c'⟩,e2,_,I⟩:=an7 _ p D hc hp hl hd;obtain⟨h1,h2⟩:=I.ok hp hl hd;refine⟨L,?_,⟨h1,fun k hk=>?_,by rw[<-iC,h2];exact hl.2⟩,h2⟩
 ·simp only[Fb,Ms];rw[e];simp only[bc];rw[e2];rfl
 ·have hF:=C6 h1;have hb:∀k,k<L.length->(L.getD k cm).2.2.1.toNat<=4:=fun k hk=>by
   have:=I.b4 (L.getD k cm) (za5 (getD_some cm hk));omega
  refine⟨?_,?_,hb k hk⟩
  ·have hC:=Ch.of h1;cases k with
   |zero=>rw[hC.fst];decide
   |succ k=>rw[hF.2 k hk];exact hb k (by omega)
  ·rw[<-ta,h2];have:=hd _ (gS (l:=D) (i:=k) (by rw[<-h2,iC];exact hk));omega
theorem aBO {m:Int} {D:aa} {L:List aS} {i:Nat} {s t:aS} (h:Ch m D L) (hi:i+1<L.length) (hs:m4 m s=true) (ht:m4 m t=true)
  (s1:s.1=(L.getD i cm).1) (s2:s.2.1=(L.getD i cm).2.1) (t1:t.1=s.2.2.1) (t2:t.2.1=(L.getD (i+1) cm).2.1) (t3:t.2.2.1=(L.getD (i+1) cm).2.2.1):
  Ch m D ((L.set i s).set (i+1) t)/\((L.set i s).set (i+1) t).length=L.length/\(∀k,k<=L.length->k≠i+1->cu ((L.set i s).set (i+1) t) k=cu L k)/\((L.set i s).set (i+1) t).drop (i+2)=L.drop (i+2):=by
 have JD:((L.set i s).set (i+1) t).drop (i+2)=L.drop (i+2):=by
  rw[zbc (by omega),zbc (by omega)]
 have hg:=afe (s:=s) (t:=t) hi;have hlen:((L.set i s).set (i+1) t).length=L.length:=by simp
 have jE:=arc h.fit hi hs ht s1 t1 t3;generalize (L.set i s).set (i+1) t=L' at hg hlen jE JD;refine⟨⟨jE,?_,by rw[hlen];exact h.len,?_,?_⟩,hlen,?_,JD⟩
 ·rw[<-h.iQ];refine yL (by rw[iC,iC,hlen]) fun k _=>?_;rw[ta,ta,hg];by_cases e1:k=i+1
  ·rw[if_pos e1,t2,e1]
  ·rw[if_neg e1];by_cases e2:k=i
   ·rw[if_pos e2,s2,e2]
   ·rw[if_neg e2]
 ·rw[hg,if_neg (by omega)];by_cases e2:0=i
  ·rw[if_pos e2,s1,<-e2];exact h.fst
  ·rw[if_neg e2];exact h.fst
 ·rw[hg,hlen];by_cases e1:L.length - 1=i+1
  ·rw[if_pos e1,t3,<-e1];exact h.Kz
  ·rw[if_neg e1,if_neg (by omega)];exact h.Kz
 ·intro k hk aR;cases k with
  |zero=>rfl
  |succ k=>
   show(L'.getD k cm).2.2.1.toNat=(L.getD k cm).2.2.1.toNat
   rw[hg];by_cases e1:k=i+1
   ·rw[if_pos e1,t3,e1]
   ·rw[if_neg e1,if_neg (by omega)]
theorem alN (k P:Nat) (l x:Nat->Int) (Y:bC):sm k (fun t=>l t*sm P (fun q=>x q*Y q t))=sm P (fun q=>x q*sm k (fun t=>l t*Y q t)):=by
 have e1:sm k (fun t=>l t*sm P (fun q=>x q*Y q t))=sm k (fun t=>sm P (fun q=>x q*(l t*Y q t))):=lE fun t _=>by
  rw[<-zS];exact lE fun q _=>by rw[Int.mul_left_comm]
 rw[e1,RE];exact lE fun q _=>by rw[zS]
structure MK (m:Int) (L L':List aS) (k P:Nat) (X:aa):Prop where
 ok:fi (m,L')=true
 iQ:bw L'=bw L
 bd:∀i,i<=L.length->i≠k+1->cu L' i=cu L i
 val:∀u r w,r<P->w<bQ (bw L) (k+2)->cg m (jR m L' ((u*P+r)*bQ (bw L) (k+2)+w)) (sm P (fun q=>bH P X r q*jR m L ((u*P+q)*bQ (bw L) (k+2)+w)))
theorem TJ {m:Int} {L:List aS} {k P:Nat} {X:aa} (h:fi (m,L)=true) (hk:k+1<L.length) (hP:P=((bw L).getD k 0).toNat*((bw L).getD (k+1) 0).toNat) (PD:P<=64)
  (h1:cu L k*((bw L).getD k 0).toNat<=32) (h2:((bw L).getD (k+1) 0).toNat*cu L (k+2)<=64) (hX:X.length=P*P) (U2:eZ m X):
  ∃L',tY ((m,L),(k:Int),((P:Int),(P:Int),X))=some ((m,L'),true)/\MK m L L' k P X:=by
 obtain⟨cf,h8,hp⟩:=OI h;have hm:=gn cf;have hC:=Ch.of h;obtain⟨b,p,c,p',c',d,d',g1,g2,e1,e2,a1,a2,a3,a4,a5,a6,a7,a8,a9⟩:=Um hC.fit hk;have hd:((bw L).getD k 0).toNat=p:=by rw[ta,e1];rfl
 have rV:((bw L).getD (k+1) 0).toNat=p':=by rw[ta,e2];rfl
 have PK:cu L k=b:=by rw[<-hC.left (by omega),e1];rfl
 have uA:cu L (k+1)=c:=by show(L.getD k cm).2.2.1.toNat=c;rw[e1];rfl
 have yT:cu L (k+2)=c':=by show(L.getD (k+1) cm).2.2.1.toNat=c';rw[e2];rfl
 rw[hd,rV] at hP;rw[hd,PK] at h1;rw[rV,yT] at h2;have VJ:jv m ((P:Int),(P:Int),X)=true:=by
  have:=QA (M:=bH P X) cf PD PD (sW hX U2);rwa[qv hX] at this
 have Df:CQ m (L.getD k cm) (L.getD (k+1) cm) ((P:Int),(P:Int),X):=by
  rw[e1,e2];refine⟨?_,?_,?_,?_⟩<;>simp only
  ·rw[hP];norm_cast
  ·rw[hP];norm_cast
  ·exact_mod_cast (show b*p<=64 by omega)
  ·exact_mod_cast h2
 have hW:∃W,w7 m (L.getD k cm) (L.getD (k+1) cm) X=W/\W=ax (b*p) (p'*c') (wF m p p' c' (bH (p*p') X) (gp m c (bH c d) (bH (p'*c') d'))):=by
  refine⟨_,rfl,?_⟩;rw[e1,e2];rfl
 obtain⟨W,hW1,U0⟩:=hW;have PH:W.length=b*p*(p'*c'):=by rw[U0,lp]
 have hWm:eZ m W:=by rw[U0,kZ];exact fun _ _ _ _=>abl hm _ _ _ _ _ _ _
 obtain⟨_,f1,f2,f3,f4,f5,f6⟩:=Jf hm PH hWm;have afx:fz m (b*p) (p'*c') W<=32:=by omega
 have zb:=Et (m:=m) a1 afx a4 f3 f4;have JW:=Et (m:=m) afx a3 a5 (by rw[f5,zaq]) f6;obtain⟨c1,c2,c3,c4⟩:=aBO (s:=((b:Int),(p:Int),(fz m (b*p) (p'*c') W:Int),lL m (b*p) (p'*c') W)) (t:=((fz m (b*p) (p'*c') W:Int),(p':Int),(c':Int),n6 m (b*p) (p'*c') W)) hC hk zb JW (by rw[e1]) (by rw[e1]) rfl (by rw[e2]) (by rw[e2]);have hg:=afe (L:=L) (s:=((b:Int),(p:Int),(fz m (b*p) (p'*c') W:Int),lL m (b*p) (p'*c') W)) (t:=((fz m (b*p) (p'*c') W:Int),(p':Int),(c':Int),n6 m (b*p) (p'*c') W)) hk;have hT:w9 m L k (L.getD k cm) (L.getD (k+1) cm) W=(L.set k ((b:Int),(p:Int),(fz m (b*p) (p'*c') W:Int),lL m (b*p) (p'*c') W)).set (k+1) ((fz m (b*p) (p'*c') W:Int),(p':Int),(c':Int),n6 m (b*p) (p'*c') W):=by
  rw[e1,e2];rfl
 generalize (L.set k ((b:Int),(p:Int),(fz m (b*p) (p'*c') W:Int),lL m (b*p) (p'*c') W)).set (k+1) ((fz m (b*p) (p'*c') W:Int),(p':Int),(c':Int),n6 m (b*p) (p'*c') W)=L' at c1 c2 c3 c4 hg hT;have fT:fi (m,L')=true:=c1.ok cf (by omega) hp;refine⟨L',?_,fT,c1.iQ,c3,?_⟩
 ·simp only[tY,Sm];have hz:vn ((P:Int),(P:Int),X)<=1048576:=by
   show X.length<=_;rw[hX];have:=zad PD PD;omega
  rw[if_pos ⟨BO h,hz⟩];unfold Oz;rw[if_pos ⟨h,⟨by omega,by omega⟩,VJ⟩,zac,if_pos Df,hW1,hT];unfold TI;rw[if_pos fT]
 ·have Gl:L'.getD k cm=((b:Int),(p:Int),(fz m (b*p) (p'*c') W:Int),lL m (b*p) (p'*c') W):=by rw[hg,if_neg (by omega),if_pos rfl]
  have Vr:L'.getD (k+1) cm=((fz m (b*p) (p'*c') W:Int),(p':Int),(c':Int),n6 m (b*p) (p'*c') W):=by rw[hg,if_pos rfl]
  have hbk:cu L' (k+1)=fz m (b*p) (p'*c') W:=by show(L'.getD k cm).2.2.1.toNat=_;rw[Gl];rfl
  have g9:0<p':=a5.1;have two:∀u r j,r<P->j<c'->cg m (lN m L' (bw L) (k+2) (u*P+r) j) (sm P (fun q=>bH P X r q*lN m L (bw L) (k+2) (u*P+q) j)):=by
   intro u r j hr hj;have PZ:r<p*p':=by rw[<-hP];exact hr
   have hv:r/p'<p:=(zaj g9).2 PZ;have fH:r%p'<p':=zay _ g9;have eix:∀q,u*P+q=(u*p+q/p')*p'+q%p':=fun q=>by
    rw[hP,zat,zaq,zaX];congr 1;rw[zai];exact(zaC _ _).symm
   have s1:=agT c1 (i:=k) (u:=u) (v:=r/p') (v':=r%p') (j:=j) (by omega) (by rw[hd];exact hv) (by rw[rV];exact fH);rw[hd,rV,<-eix r,c3 k (by omega) (by omega),PK,hbk,Gl,Vr] at s1;refine s1.trans ?_;rw[Qw (l:=L') (l':=L) k fun q hq=>by rw[hg,if_neg (by omega),if_neg (by omega)]];have s2:∀x,x<b->cg m (sm (fz m (b*p) (p'*c') W) (fun q=>m5 ((b:Int),(p:Int),(fz m (b*p) (p'*c') W:Int),lL m (b*p) (p'*c') W) (r/p') x q*m5 ((fz m (b*p) (p'*c') W:Int),(p':Int),(c':Int),n6 m (b*p) (p'*c') W) (r%p') q j))
     (sm P (fun q=>bH P X r q*sm c (fun z=>bH c d (x*p+q/p') z*bH c' d' (z*p'+q%p') j))):=by
    intro x hx;have t1:cg m (bH (p'*c') W (x*p+r/p') (r%p'*c'+j)) (sm (fz m (b*p) (p'*c') W) (fun q=>m5 ((b:Int),(p:Int),(fz m (b*p) (p'*c') W:Int),lL m (b*p) (p'*c') W) (r/p') x q*m5 ((fz m (b*p) (p'*c') W:Int),(p':Int),(c':Int),n6 m (b*p) (p'*c') W) (r%p') q j)):=by
     refine(adG cf PH hWm (jK hx hv) (jK fH hj)).trans (FR (lE fun q _=>?_));rw[aat,aat,QX c' p']
    refine t1.symm.trans ?_;have t2:bH (p'*c') W (x*p+r/p') (r%p'*c'+j)=wF m p p' c' (bH (p*p') X) (gp m c (bH c d) (bH (p'*c') d')) (x*p+r/p') (r%p'*c'+j):=by
     rw[U0];exact mZ _ (jK hx hv) (jK fH hj)
    rw[t2,amM g9 hj PZ,<-hP];refine(Ud _ _ _ _).trans (ki fun q _=>cg.mul (cg.refl _ _) ?_);refine(XR _ _ _ _ _ _).trans (FR (lE fun z _=>?_));rw[<-QX c' p']
   refine(ki fun x hx=>cg.mul (cg.refl _ _) (s2 x hx)).trans ?_;rw[alN];refine ki fun q hq=>cg.mul (cg.refl _ _) ?_;have gz:q<p*p':=by rw[<-hP];exact hq
   have s3:=agT hC (i:=k) (u:=u) (v:=q/p') (v':=q%p') (j:=j) hk (by rw[hd];exact(zaj g9).2 gz) (by rw[rV];exact zay _ g9);rw[hd,rV,<-eix q,PK,uA,e1,e2] at s3;exact s3.symm
  intro u r w hr hw;have ev:∀n,jR m L' n=lN m L' (bw L) L'.length n 0:=fun n=>by unfold jR;rw[c1.iQ]
  rw[ev];refine(c1.split (L'.length - (k+2)) (k+2) (by omega) _ _ hw).trans ?_;rw[c3 (k+2) (by omega) (by omega),yT,c4];refine(ki fun t ht=>cg.mul (two u r t hr ht) (cg.refl _ _)).trans ?_;rw[<-B6];refine ki fun q _=>cg.mul (cg.refl _ _) ?_;have s4:=hC.split (L.length - (k+2)) (k+2) (by omega) (u*P+q) w hw;rw[yT] at s4;exact s4.symm
def qd (v:Int) (f t:aa):Int:=if bS f v<f.length then t.getD (bS f v) 0 else v
theorem aAm {f:aa} {v:Int} {j:Nat} (h:j<bS f v):∃x,f[j]? =some x/\x≠v:=by
 have hl:=Hy f v;have hj:j<f.length:=by omega
 refine⟨f[j],zab hj,?_⟩;have:=List.not_of_lt_findIdx h;simpa using this
theorem aji {f:aa} {v:Int} (h:bS f v<f.length):f[bS f v]? =some v:=by
 rw[zab h];have:=zbv (w:=h);congr 1;exact of_decide_eq_true this
theorem aAX (v:Int) (f t:aa) (hl:f.length=t.length) (h:f.length<=1048576):E5 (v,f,t)=some (qd v f t):=by
  simp only[E5,Mm];have jF:=Hy f v;have hL:∀o,o=cq aI (fun((i3,l4,l5,i6,i7):(Int×(aa×(aa×(Int×Int)))))=>
        aD (cj i7 i6)
          ((cW l5 i7).ae (fun(i8:Int)=>
            aD (c6 i8 i3)
              ((cW l4 i7).ae (fun(i9:Int)=>
                some (Sum.inr (Sum.inr i9))))
              (some (Sum.inl (i3,l4,l5,i6,bE .i64 i7 (1:Int))))))
          (some (Sum.inr (Sum.inl i3))))
      (v,t,f,aW (af f),(0:Int))->o=some (if bS f v<f.length then Sum.inr (t.getD (bS f v) 0) else Sum.inl v):=by
    rintro o rfl;refine eJ (fun j=>(v,t,f,aW (af f),(j:Int))) (bS f v) ?_ ?_ rfl (dt (by omega))
    · intro j hj;dsimp only
      obtain⟨x,hx,aR⟩:=aAm hj;rw[bk (dY (by show(j:Int)<(f.length:Int);omega)),e9,hx];simp only[bc];rw[bh (qZ aR),fq (by omega)]
    · dsimp only
      by_cases hc:bS f v<f.length
      · rw[bk (dY (by show((bS f v:Nat):Int)<(f.length:Int);omega)),e9,aji hc];simp only[bc];rw[bk (td rfl),e9,jb (by omega),if_pos hc];rfl
      · rw[bh (dL (by show(f.length:Int)<=((bS f v:Nat):Int);omega)),if_neg hc]
  rw[hL _ rfl];unfold qd;by_cases hc:bS f v<f.length
  · rw[if_pos hc,if_pos hc];rfl
  · rw[if_neg hc,if_neg hc];rfl
def BG (L f t:aa) (i q:Nat):Int:=if q<i then qd (L.getD q 0) f t else L.getD q 0
theorem aBa (L:aa):bB L.length (fun q=>L.getD q 0)=L:=yL (dV _ _) fun k hk=>by
 rw[dV] at hk;rw[zaa,lD _ hk];rfl
theorem aAV {r:Rg} {L D A f t:aa} (h:gB r (L,D,A)=true) (hl:f.length=t.length) (hs:f.length<=1048576) (h':gB r (L.map (fun v=>qd v f t),D,A)=true):
  EP (r,(L,D,A),f,t)=some ((L.map (fun v=>qd v f t),D,A),true):=by
 obtain⟨r1,r2,r3⟩:=r;obtain⟨_,⟨vR,_⟩,GC,⟨_,hP⟩,hA,hG,_⟩:=zZ h;have nq:=rP (zY h).1;have aDD:L.length<=12:=by omega
 have hw:=Cf (by have:=(zZ h).1;exact this);have AS:A.length<=1048576:=by
  rw[hA];have h8:cI (r1,r2,r3)<=20:=by omega
  have:=zad hP h8;omega
 simp only[EP,Ma,ai];rw[show oM ((r1,r2,r3),L,D,A)=some (gB (r1,r2,r3) (L,D,A)) from if_pos ⟨by dsimp only;omega,by dsimp only;omega,AS⟩,h]
 simp only[bc];rw[show d9 true=false from rfl,nZ,sD (show aW (af f)=aW (af t) by unfold aW af;rw[hl]),nZ]
 rw[show ET (L,D,A)=some (L,D,A) from if_pos ⟨by dsimp only;omega,by dsimp only;omega,AS⟩]
 simp only[bc,bF];rw[show bn 0 0 (af ([]:aa))=some () from rfl]
 simp only[bc];rw[eJ (fun i=>((f,t,aW (af L),(i:Int)),(r1,r2,r3),([]:aa),([]:aa),([]:aa),bB L.length (BG L f t i),D,A)) L.length ?a1 ?a2 ?a3 (dt (by omega))]
 case a1=>
  intro i hi;dsimp only
  rw[bk (dY (by show(i:Int)<(L.length:Int);omega)),s7 _ hi];simp only[bc];rw[gE,qw _ hi];simp only[bc];have e1:BG L f t i i=L.getD i 0:=if_neg (by omega);rw[e1,aAX _ f t hl hs];simp only[bc];have e2:bo (bB L.length (BG L f t i)) i (qd (L.getD i 0) f t)=bB L.length (BG L f t (i+1)):=by
   rw[yf];refine gQ fun q hq=>?_;unfold BG;by_cases e:q=i
   ·subst e;rw[if_pos rfl,if_pos (by omega)]
   ·rw[if_neg e];by_cases e3:q<i
    ·rw[if_pos e3,if_pos (by omega)]
    ·rw[if_neg e3,if_neg (by omega)]
  rw[e2,nj];simp only[bc,bF];rw[fq (by omega)]
 case a2=>
  dsimp only
  rw[bh (dL (by show(L.length:Int)<=(L.length:Int);omega))]
  try simp only[bc,bF]
  try rfl
 case a3=>
  have:bB L.length (BG L f t 0)=L:=by
   have e:bB L.length (BG L f t 0)=bB L.length (fun q=>L.getD q 0):=gQ fun q _=>if_neg (by omega);rw[e,aBa]
  rw[this];rfl
 have JG:bB L.length (BG L f t L.length)=L.map (fun v=>qd v f t):=by
  refine yL (by rw[dV,zaN]) fun k hk=>?_;rw[dV] at hk;rw[zaa,lD _ hk,zaa,zaB,jb hk];exact if_pos hk
 rw[JG];simp only[ct,Option.bind,dj,bc];have hlm:(L.map (fun v=>qd v f t)).length=L.length:=zaN _;rw[show oM ((r1,r2,r3),L.map (fun v=>qd v f t),D,A)=some (gB (r1,r2,r3) (L.map (fun v=>qd v f t),D,A)) from if_pos ⟨by dsimp only;omega,by dsimp only;omega,AS⟩,h']
 simp only[bc];rw[show d9 true=false from rfl,nZ]
 simp only[iO,bc]
theorem aBs {p:Int} {t t':T3} (h:gB (2,p,0) t=true) (h':gB (2,p,0) t'=true) (he:ph (2,p,0) t=ph (2,p,0) t') (hl:(ph (2,p,0) t').1.length<=1048576/\(ph (2,p,0) t').2.1.length<=1048576/\(ph (2,p,0) t').2.2.length<=1048576):ER ((2,p,0),t,t')=some true:=by
 obtain⟨L,D,A⟩:=t;obtain⟨L',D',A'⟩:=t';have cN:∀{L D A:aa},gB (2,p,0) (L,D,A)=true->L.length<=1048576/\D.length<=1048576/\A.length<=1048576:=fun{L D A} h=>by
  obtain⟨_,⟨vR,_⟩,GC,⟨_,hP⟩,hA,hG,_⟩:=zZ h;have nq:=rP (zY h).1;rw[show cI (2,p,0)=1 from rfl,zam] at hA
  omega
 simp only[ER,Mb];rw[show oM ((2,p,0),L,D,A)=some (gB (2,p,0) (L,D,A)) from if_pos (cN h),h]
 simp only[bc,s9];rw[show oM ((2,p,0),L',D',A')=some (gB (2,p,0) (L',D',A')) from if_pos (cN h'),h']
 simp only[bc,s9];rw[show Ad ((2,p,0),L,D,A)=some (ph (2,p,0) (L,D,A)) from if_pos (cN h),show Ad ((2,p,0),L',D',A')=some (ph (2,p,0) (L',D',A')) from if_pos (cN h'),he]
 generalize ph (2,p,0) (L',D',A')=s at hl;obtain⟨a,b,c⟩:=s;simp only[bc,dj,Ip,Md];rw[show t6 (a,a)=some (decide (a=a)) from if_pos ⟨hl.1,hl.1⟩,show t6 (b,b)=some (decide (b=b)) from if_pos ⟨hl.2.1,hl.2.1⟩,show t6 (c,c)=some (decide (c=c)) from if_pos ⟨hl.2.2,hl.2.2⟩]
 simp only[bc,decide_true,s9]
theorem acu {p:Int} {A:aa} {off:Nat->Nat}:∀n,(∀k,k<n->off k<A.length)->qW (2,p,0) A off n=bB n (fun k=>A.getD (off k) 0)
 |0,_=>rfl
 |n+1,h=>by
  unfold qW;rw[acu n fun k hk=>h k (by omega),show cI (2,p,0)=1 from rfl,zam]
  have hn:=h n (by omega);have e:lZ A (off n) 1=[A.getD (off n) 0]:=by
   unfold lZ;rw[zak hn,zaa,zab hn];rfl
  rw[e];exact K4 n _
theorem aCr {p:Int} {L D A:aa} (h:gB (2,p,0) (L,D,A)=true):
  ph (2,p,0) (L,D,A)=(iw L L.length,fY L D (iw L L.length),bB (aL (fY L D (iw L L.length))) (fun n=>A.getD (jO D (sE L D (iw L L.length) n) D.length) 0)):=by
 have I:=kz.mk' (zY h).1 (S:=iw L L.length) rfl;obtain⟨_,_,_,_,hA,_⟩:=zZ h;rw[show cI (2,p,0)=1 from rfl,zam] at hA
 unfold ph;rw[if_pos h];unfold zH;show(_,_,qW (2,p,0) A (mG L D (iw L L.length)) _)=_;rw[acu _ fun k _=>by rw[hA];exact I.aiW k];congr 2;exact gQ fun n _=>by rw[I.off n]
def nW (m:Int) (K R:Nat) (X:bC) (d:aa) (q:Nat):Int:=iR m (fun u=>X (q/R%K) u) (fun u=>bH R d (q/R/K*K+u) (q%R)) K
def qT (m:Int) (L K R:Nat) (X:bC) (d:aa) (t:Nat):aa:=bB (L*K*R) fun q=>if q<t then nW m K R X d q else d.getD q 0
def HM (m:Int) (x:Int×Int×aa) (s:aS):aS:=(s.1,s.2.1,s.2.2.1,bB (s.1.toNat*s.2.1.toNat*s.2.2.1.toNat) (nW m s.2.1.toNat s.2.2.1.toNat (bH x.2.1.toNat x.2.2) s.2.2.2))
def ud (m:Int) (l:List aS) (k:Int) (x:Int×Int×aa):(Int×List aS)×Bool:=
 if(fi (m,l)=true/\(0<=k/\k<l.length)/\jv m x=true)/\x.1=(l.getD k.toNat cm).2.1/\x.2.1=(l.getD k.toNat cm).2.1 then((m,bo l k.toNat (HM m x (l.getD k.toNat cm))),true) else((0,[]),false)
def Sn:(Int×List aS)×Int×Int×Int×aa->Option ((Int×List aS)×Bool):=fun x=>
 if oI x.1<=1048576/\vn x.2.2<=1048576 then some (ud x.1.1 x.1.2 x.2.1 x.2.2) else none
def yr:(Int×List aS)×Int×Int×Int×aa->Option ((Int×List aS)×Bool):=Sn
def MT:aq:=[(.agg,[.int .i64,.list [.int .i64,.int .i64,.int .i64,.list [.int .i64]]]),(.one,[.int .i64]),(.agg,[.int .i64,.int .i64,.list [.int .i64]])]
def YJ:aq:=[(.agg,[.int .i64,.list [.int .i64,.int .i64,.int .i64,.list [.int .i64]]]),(.one,[.bool])]
def awa:bi:=[]
def Sw (NN:Nat):((Int×(List (Int×(Int×(Int×aa)))))×(Int×(Int×(Int×aa))))->(Option ((Int×(List (Int×(Int×(Int×aa)))))×Bool)):=
 (fun(((i0,l1),i2,i3,i4,l5):((Int×(List (Int×(Int×(Int×aa)))))×(Int×(Int×(Int×aa)))))=>
 (qi (i0,l1)).ae (fun b6=>
 aD (d9 b6)
 (some (((0:Int),([]:List (Int×(Int×(Int×aa))))),false))
 (aD (cj i2 (0:Int))
 (some (((0:Int),([]:List (Int×(Int×(Int×aa))))),false))
 (aD (ir (aW (af l1)) i2)
 (some (((0:Int),([]:List (Int×(Int×(Int×aa))))),false))
 ((sP (i0,i3,i4,l5)).ae (fun b7=>
 aD (d9 b7)
 (some (((0:Int),([]:List (Int×(Int×(Int×aa))))),false))
 ((cW l1 i2).ae (fun(i8,i9,cX,cE)=>
 aD (iF i3 i9)
 (some (((0:Int),([]:List (Int×(Int×(Int×aa))))),false))
 (aD (iF i4 i9)
 (some (((0:Int),([]:List (Int×(Int×(Int×aa))))),false))
 ((Af (i0,l1)).ae (fun(ef,dG)=>
 ct ((bn 0 0 (af (([]:List (Int×(Int×(Int×aa))))))).ae (fun _=>
 ai dG (
 cq NN (fun(((fk,gx),(fI,dv),(fS,fC,hZ),fD,(gG,gL,gm,iD),jH,kl,iT):((Int×Int)×((Int×(List (Int×(Int×(Int×aa)))))×((Int×(Int×aa))×(Int×((Int×(Int×(Int×aa)))×(Int×((List (Int×(Int×(Int×aa))))×(List (Int×(Int×(Int×aa))))))))))))=>
 aD (cj gx gG)
 (ct (ai kl (
 ai iT (
 cq NN (fun(((kH,ik,il),(gZ,ji),(io,gH,iN),jW,(jI,iK,iL,ib),iM,iE,gM):((Int×(Int×Int))×((Int×(List (Int×(Int×(Int×aa)))))×((Int×(Int×aa))×(Int×((Int×(Int×(Int×aa)))×(Int×((List (Int×(Int×(Int×aa))))×(List (Int×(Int×(Int×aa))))))))))))=>
 aD (cj il iK)
 (ct (ai iE (
 ai gM (
 cq NN (fun(((iS,jJ,jo,kj),(oW,uN),(ou,nE,oC),ov,(r6,rn,xI,mX),wg,ku,kN):((Int×(Int×(Int×Int)))×((Int×(List (Int×(Int×(Int×aa)))))×((Int×(Int×aa))×(Int×((Int×(Int×(Int×aa)))×(Int×((List (Int×(Int×(Int×aa))))×(List (Int×(Int×(Int×aa))))))))))))=>
 aD (cj kj xI)
 (ct (ct (ai ku (
 ai kN (
 cq NN (fun(((nF,lz,i64,ox,r7,kJ),(r8,uP),(rp,pW,nK),nG,(oy,nH,lQ,wq),mU,wu,uR):((Int×(Int×(Int×(Int×(Int×Int)))))×((Int×(List (Int×(Int×(Int×aa)))))×((Int×(Int×aa))×(Int×((Int×(Int×(Int×aa)))×(Int×((List (Int×(Int×(Int×aa))))×(List (Int×(Int×(Int×aa))))))))))))=>
 aD (cj kJ nH)
 ((mg ((rp,pW,nK),i64,kJ)).ae (fun r9=>
 (vt ((oy,nH,lQ,wq),lz,kJ,ox)).ae (fun DA=>
 (gJ (bE .i64 r7 (cV .i64 r9 DA)) r8).ae (fun xJ=>
 ai wu (
 ai uR (
 some (Sum.inl ((nF,lz,i64,ox,xJ,bE .i64 kJ 1),(r8,uP),(rp,pW,nK),nG,(oy,nH,lQ,wq),mU,wu,uR))))))))
 ((ai wu (
 ai uR (
 some (Sum.inl ((r7,ox,nF,lz,i64),(r8,uP),(rp,pW,nK),nG,(oy,nH,lQ,wq),mU,wu,uR))))).ae (fun wv=>
 some (Sum.inr wv))))
 ((iS,jJ,jo,kj,(0:Int),(0:Int)),(oW,uN),(ou,nE,oC),ov,(r6,rn,xI,mX),wg,ku,kN))))
 (fun((sd,DB,zl,DD,DE),(DF,uT),(Bq,uI,BC),zn,(Br,GL,zo,zz),Dw,Bx,xR)=>
 (c7 zl (af xR)).ae (fun Kk=>
 (cA xR (aJ 0 Kk)).ae (fun(P5,Dx,J2,Bz)=>
 (cA xR (aJ 0 Kk)).ae (fun(GH,Wb,GI,avw)=>
 (c7 (bE .i64 (cV .i64 (bE .i64 (cV .i64 DD GL) DE) zo) DB) (af avw)).ae (fun WU=>
 (cA xR (aJ 0 Kk)).ae (fun(GJ,GK,Bo,wm)=>
 (cA wm WU).ae (fun Wc=>
 ai Bx (
 (bn 0 (af xR) (af (bo xR (aJ 0 Kk) (GJ,GK,Bo,bo wm WU sd)))).ae (fun _=>
 some (Sum.inl ((DB,zl,DD,DE),(DF,uT),(Bq,uI,BC),zn,(Br,GL,zo,zz),Dw,Bx,bo xR (aJ 0 Kk) (GJ,GK,Bo,bo wm WU sd)))))))))))))
 (fun((asG,asH,We,J4),(Wg,Xg),(Wi,Wj,Xj),afX,(J5,xG,Wk,Qm),tx,agB,zv)=>
 ai agB (
 ai zv (
 some (Sum.inl ((asH,We,J4,bE .i64 asG 1),(Wg,Xg),(Wi,Wj,Xj),afX,(J5,xG,Wk,Qm),tx,agB,zv))))))
 ((ai ku (
 ai kN (
 some (Sum.inl ((jo,iS,jJ),(oW,uN),(ou,nE,oC),ov,(r6,rn,xI,mX),wg,ku,kN))))).ae (fun Qn=>
 some (Sum.inr Qn))))
 ((kH,ik,il,(0:Int)),(gZ,ji),(io,gH,iN),jW,(jI,iK,iL,ib),iM,iE,gM))))
 (fun((J6,asI,J7),(J8,DT),(Wm,afZ,BA),J9,(P7,Wn,Wo,GX),P8,uM,xU)=>
 ai uM (
 ai xU (
 some (Sum.inl ((asI,J7,bE .i64 J6 1),(J8,DT),(Wm,afZ,BA),J9,(P7,Wn,Wo,GX),P8,uM,xU))))))
 ((ai iE (
 ai gM (
 some (Sum.inl ((ik,kH),(gZ,ji),(io,gH,iN),jW,(jI,iK,iL,ib),iM,iE,gM))))).ae (fun GY=>
 some (Sum.inr GY))))
 ((fk,gx,(0:Int)),(fI,dv),(fS,fC,hZ),fD,(gG,gL,gm,iD),jH,kl,iT))))
 (fun((asK,Ka),(Wp,GZ),(Wq,Kc,Xk),Wr,(Ws,asM,Kd,Xo),asO,agF,agG)=>
 ai agF (
 ai agG (
 some (Sum.inl ((Ka,bE .i64 asK 1),(Wp,GZ),(Wq,Kc,Xk),Wr,(Ws,asM,Kd,Xo),asO,agF,agG))))))
 ((ai kl (
 ai iT (
 some (Sum.inl (fD,jH,kl,iT))))).ae (fun avB=>
 some (Sum.inr avB))))
 ((i2,(0:Int)),(i0,l1),(i3,i4,l5),(0:Int),(i8,i9,cX,cE),ef,([]:List (Int×(Int×(Int×aa)))),dG))))
 (fun(af2,af3,avD,Qs)=>
 (dW Qs (af Qs)).ae (fun Kv=>
 some ((af3,Kv),true))))))))))))))
theorem ans {α:Type} {l:List α} {k:Nat} {a:α} (h:l[k]? =some a):bo l k a=l:=by
 unfold bo;apply zaP;intro j;by_cases e:k=j
 ·subst e;rw[zbn (D5 h),h]
 ·rw[za4 e]
theorem anr {α:Type} (l:List α) (k:Nat) (a b:α):bo (bo l k a) k b=bo l k b:=List.set_set a
theorem ab7 {α:Type} (l:List α) (k:Nat) (a:α):af (bo l k a)=af l:=zba
theorem anq {α:Type} {l:List α} {k:Nat} (h:k<l.length) (a:α):cA (bo l k a) k=some a:=zbn h
theorem ti {α:Type}:bn 0 0 (af ([]:List α))=some ():=bF 0
theorem aau {a b n:Nat} (h1:a<=b) (h2:b<=n):kw (a:Int) (b:Int) n=some (a,b - a):=by
 unfold kw;rw[if_pos ⟨by omega,by omega,by omega⟩];congr 2;omega
section
variable {m:Int} {L K R:Nat} {X:bC} {d:aa}
theorem ab8 {i v j:Nat} (hv:v<K) (hj:j<R):nW m K R X d ((i*K+v)*R+j)=iR m (fun u=>X v u) (fun u=>bH R d (i*K+u) j) K:=by
 unfold nW;rw[qF hj,rr hj,qF hv,rr hv]
theorem anl (hl:d.length=L*K*R):qT m L K R X d 0=d:=by
 unfold qT;apply zaP;intro q;by_cases hq:q<L*K*R
 ·rw[lD _ hq,if_neg (by omega),getD_some 0 (by omega)]
 ·rw[zal (by rw[dV];omega),zal (by omega)]
theorem anp (t:Nat):bo (qT m L K R X d t) t (nW m K R X d t)=qT m L K R X d (t+1):=by
 unfold qT;rw[yf];refine gQ fun q _=>?_;by_cases h:q=t
 ·rw[if_pos h,if_pos (by omega),h]
 ·rw[if_neg h];by_cases h2:q<t
  ·rw[if_pos h2,if_pos (by omega)]
  ·rw[if_neg h2,if_neg (by omega)]
theorem ann:qT m L K R X d (L*K*R)=bB (L*K*R) (nW m K R X d):=gQ fun q hq=>if_pos hq
theorem anm {t q:Nat} (h:q<L*K*R):c7 (q:Int) (af (qT m L K R X d t))=some q:=s7 _ h
theorem ano {t q:Nat} (h:q<L*K*R):cA (qT m L K R X d t) q=some (if q<t then nW m K R X d q else d.getD q 0):=qw _ h
end
theorem sAt {L K R i u j:Nat} {d:aa} (hL:L<=32) (hK:K<=8) (hR:R<=32) (hl:d.length=L*K*R) (hi:i<L) (hu:u<K) (hj:j<R):
  vt (((L:Int),(K:Int),(R:Int),d),(i:Int),(u:Int),(j:Int))=some (bH R d (i*K+u) j):=by
 simp only[vt];rw[if_pos]
 ·simp only[m5,aar,zac]
 ·refine⟨⟨by show(0:Int)<=L/\(L:Int)<=64;omega,by show(0:Int)<=K/\(K:Int)<=64;omega,by show(0:Int)<=R/\(R:Int)<=64;omega,?_⟩,by omega,by omega,by omega⟩;show(d.length:Int)=(L:Int)*(K:Int)*(R:Int);rw[hl];norm_cast
theorem Oq {m:Int} {l:List aS} {k:Nat} (hc:fi (m,l)=true) (hk:k<l.length):∃(L K R:Nat) (d:aa),l[k]? =some ((L:Int),(K:Int),(R:Int),d)/\l.getD k cm=((L:Int),(K:Int),(R:Int),d)/\
  L<=32/\R<=32/\(1<=K/\K<=8)/\d.length=L*K*R/\eZ m d:=by
 obtain⟨L,K,R,d,e,h1,h2,h3,h4,h5⟩:=Lp ((C6 hc).1 k hk);refine⟨L,K,R,d,?_,e,h1,h2,h3,h4,h5⟩;rw[getD_some cm hk,e]
theorem apC (x:(Int×List aS)×Int×Int×Int×aa) (y:(Int×List aS)×Bool) (h:yr x=some y):Sw aI x=some y:=by
 obtain⟨⟨m,l⟩,k,x1,x2,xd⟩:=x;simp only[yr,Sn] at h;split at h
 ·rename_i hs;obtain⟨zb,JW⟩:=hs;rw[<-h];simp only[Sw,ud,ai];rw[show qi (m,l)=some (fi (m,l)) from if_pos zb,av]
  cases hc:fi (m,l) with
  |false=>rw[bk (by rfl),if_neg (by simp)]
  |true=>
   rw[bh (by rfl)];obtain⟨hm,hl,_⟩:=qX hc;by_cases k0:0<=k
   rotate_left
   ·rw[bk (dY (by omega)),if_neg (fun h=>k0 h.1.2.1.1)]
   rw[bh (dL k0),nl];by_cases k1:k<l.length
   rotate_left
   ·rw[bk (wA (by omega)),if_neg (fun h=>k1 h.1.2.1.2)]
   rw[bh (DZ (by omega)),show sP (m,x1,x2,xd)=some (jv m (x1,x2,xd)) from if_pos JW,av]
   cases hx:jv m (x1,x2,xd) with
   |false=>rw[bk (by rfl),if_neg (by simp)]
   |true=>
   rw[bh (by rfl)];obtain⟨k,rfl⟩:=gI k0;have hk:k<l.length:=by omega
   simp only[zac];obtain⟨L,K,R,d,g1,g2,hL,hR,hK,AZ,hd⟩:=Oq hc hk;rw[e9,g1,av,g2];simp only
   by_cases q1:x1=((K:Nat):Int)
   rotate_left
   ·rw[bk (uY q1),if_neg (fun h=>q1 h.2.1)]
   rw[bh (sD q1)];by_cases q2:x2=((K:Nat):Int)
   rotate_left
   ·rw[bk (uY q2),if_neg (fun h=>q2 h.2.2)]
   rw[bh (sD q2),if_pos ⟨⟨trivial,⟨by omega,by omega⟩,trivial⟩,q1,q2⟩];subst q1 q2;obtain⟨r,c,xd',ex,_,_,ot,V6⟩:=ahd hx;have er:K=r:=by injection ex with z _;omega
   have ec:K=c:=by injection ex with _ z;injection z with z _;omega
   have exd:xd=xd':=by injection ex with _ z;injection z with _ z
   subst er ec exd;have UX:L*K<=32*8:=zad hL hK.2;have arH:L*K*R<=32*8*32:=zad UX hR;have hKK:K*K<=8*8:=zad hK.2 hK.2;rw[show Af (m,l)=some (m,l) from if_pos zb,av]
   simp only
   rw[ti,av,bF,av];simp only[HM,zac];have Ju:=qv ot;have Jv:dK m K K (bH K xd):=sW ot V6;generalize hX:bH K xd=X at*
   rw[<-Ju];have arC:dK m (L*K) R (bH R d):=sW AZ hd;rw[eJ (fun i=>(((k:Int),(i:Int)),(m,l),((K:Int),(K:Int),ax K K X),(0:Int),((L:Int),(K:Int),(R:Int),d),m,([]:List aS),bo l k ((L:Int),(K:Int),(R:Int),qT m L K R X d (i*K*R))))
    (r:=Sum.inl ((0:Int),m,([]:List aS),bo l k ((L:Int),(K:Int),(R:Int),bB (L*K*R) (nW m K R X d)))) L ?_ ?_ ?_ (dt (by omega))]
   ·rw[fE];simp only[iO,av]
   ·intro i hi;simp only
    rw[bk (ju hi)]
    try simp only[bF,ti,av]
    rw[eJ (fun v=>(((k:Int),(i:Int),(v:Int)),(m,l),((K:Int),(K:Int),ax K K X),(0:Int),((L:Int),(K:Int),(R:Int),d),m,([]:List aS),bo l k ((L:Int),(K:Int),(R:Int),qT m L K R X d ((i*K+v)*R))))
     (r:=Sum.inl (((i:Int),(k:Int)),(m,l),((K:Int),(K:Int),ax K K X),(0:Int),((L:Int),(K:Int),(R:Int),d),m,([]:List aS),bo l k ((L:Int),(K:Int),(R:Int),qT m L K R X d ((i+1)*K*R)))) K ?_ ?_ ?_ (dt (by omega))]
    ·rw[fE];simp only[bF,ti,av,fq (show i<=1048577 by omega)]
    ·intro v hv;have hI:=jK hi hv;simp only
     rw[bk (ju hv)]
     try simp only[bF,ti,av]
     rw[eJ (fun j=>(((k:Int),(i:Int),(v:Int),(j:Int)),(m,l),((K:Int),(K:Int),ax K K X),(0:Int),((L:Int),(K:Int),(R:Int),d),m,([]:List aS),bo l k ((L:Int),(K:Int),(R:Int),qT m L K R X d ((i*K+v)*R+j))))
      (r:=Sum.inl (((v:Int),(k:Int),(i:Int)),(m,l),((K:Int),(K:Int),ax K K X),(0:Int),((L:Int),(K:Int),(R:Int),d),m,([]:List aS),bo l k ((L:Int),(K:Int),(R:Int),qT m L K R X d ((i*K+(v+1))*R)))) R ?_ ?_ ?_ (dt (by omega))]
     ·rw[fE];simp only[bF,ti,av,fq (show v<=1048577 by omega)]
     ·intro j hj;have hq:=jK hI hj;simp only
      rw[bk (ju hj)]
      try simp only[bF,ti,av]
      rw[eJ (fun u=>(((k:Int),(i:Int),(v:Int),(j:Int),iR m (fun u=>X v u) (fun u=>bH R d (i*K+u) j) u,(u:Int)),(m,l),((K:Int),(K:Int),ax K K X),(0:Int),((L:Int),(K:Int),(R:Int),d),m,([]:List aS),bo l k ((L:Int),(K:Int),(R:Int),qT m L K R X d ((i*K+v)*R+j))))
       (r:=Sum.inl ((nW m K R X d ((i*K+v)*R+j),(j:Int),(k:Int),(i:Int),(v:Int)),(m,l),((K:Int),(K:Int),ax K K X),(0:Int),((L:Int),(K:Int),(R:Int),d),m,([]:List aS),bo l k ((L:Int),(K:Int),(R:Int),qT m L K R X d ((i*K+v)*R+j)))) K ?_ ?_ ?_ (dt (by omega))]
      ·rw[fE];simp only
       rw[ab7,pI (show k<af l from hk),av,gE,anq hk,av]
       simp only[av];rw[xL (show i<=1048576 by omega) (show K<=1048576 by omega) (show v<=1048576 by omega),xL (show i*K+v<=1048576 by omega) (show R<=1048576 by omega) (show j<=1048576 by omega),anm hq,av]
       try simp only[av]
       rw[ano hq,av,anp,anr,ab7];simp only[bF,ti,av];rw[fE];simp only[bF,ti,av,fq (show j<=1048577 by omega)];rfl
      ·intro u hu;have hIu:=jK hi hu;simp only
       rw[bk (ju hu),pC (M:=X) (by omega) (by omega) (by omega) hv hu,av,sAt hL hK.2 hR AZ hi hu hj,av,KA hm ((ui hm _ _ u).s hm) (Jv v hv u hu).le (arC _ hIu j hj).le,av];simp only[bF,ti,av,fq (show u<=1048577 by omega),iR]
      ·simp only
       rw[bh (jt (zaf _)),ab8 hv hj]
       try simp only[bF,ti,av]
      ·rfl
     ·simp only
      rw[bh (jt (zaf _)),show(i*K+v)*R+R=(i*K+(v+1))*R by rw[<-zaX,zat _ 1,zaT]]
      try simp only[bF,ti,av]
     ·rfl
    ·simp only
     rw[bh (jt (zaf _)),show i*K+K=(i+1)*K by rw[zat,zaT]]
     try simp only[bF,ti,av]
    ·rfl
   ·simp only
    rw[bh (jt (zaf _)),ann]
    try simp only[bF,ti,av]
   ·rw[zbt,zbt,anl AZ,ans g1];rfl
 ·cases h
theorem anx {m:Int} {l:List aS} {k:Int} {x:Int×Int×aa} (h:oI (m,l)<=1048576):oI (ud m l k x).1<=131072:=by
 unfold ud;split
 ·rename_i hh;obtain⟨⟨hc,hk,_⟩,_⟩:=hh;obtain⟨k,rfl⟩:=gI hk.1;have hk:k<l.length:=by omega
  simp only[zac];obtain⟨L,K,R,d,g1,g2,hL,hR,hK,AZ,hd⟩:=Oq hc hk;have UX:L*K<=32*8:=zad hL hK.2;have arH:L*K*R<=32*8*32:=zad UX hR;have hn:=(qX hc).2.1;show(bo l k _).length+((bo l k _).map sL).sum<=_;have hs:=aa2 (f:=sL) (B:=8192) (l:=bo l k (HM m x (l.getD k cm))) fun e he=>by
   rcases zau he with he|rfl
   ·obtain⟨j,hj,rfl⟩:=List.getElem_of_mem he;obtain⟨L',K',R',d',f1,_,f3,f4,f5,f6,_⟩:=Oq hc hj;rw[zab hj] at f1;injection f1 with f1;rw[f1];have h1:L'*K'<=32*8:=zad f3 f5.2;have h2:L'*K'*R'<=32*8*32:=zad h1 f4;show d'.length<=_;omega
   ·rw[g2];simp only[HM,zac];show(bB _ _).length<=_;rw[dV];omega
  have hlen:(bo l k (HM m x (l.getD k cm))).length=l.length:=zba;rw[hlen] at hs⊢;have:l.length*8192<=8*8192:=zas _ hn.2;omega
 ·exact zbK _
def NZ:aq:=[(.one,[.list [.int .i64]]),(.one,[.int .i64])]
def ZH:aq:=[(.one,[.list [.int .i64]])]
def aw1:bi:=[]
def Mo (NN:Nat):(aa×Int)->(Option aa):=
 (fun((l0,i1):(aa×Int))=>
 ct ((bn 0 0 (af (([]:aa)))).ae (fun _=>
 cq NN (fun(((i2,l3,i4,i5),l6):((Int×(aa×(Int×Int)))×aa))=>
 aD (cj i5 i4)
 ((cW l3 i5).ae (fun i7=>
 aD (iF i7 i2)
 (ai l6 (
 (bZ ((i7::([]:aa))) 0 1).ae (fun l8=>
 (kC (aJ (af l6) (af l8)) 8).ae (fun _=>
 (bn 0 (aJ (af l6) (af l8)) (af (d6 l6 l8))).ae (fun _=>
 some (Sum.inl ((i2,l3,i4,bE .i64 i5 1),d6 l6 l8)))))))
 (ai l6 (
 some (Sum.inl ((i2,l3,i4,bE .i64 i5 1),l6))))))
 ((ai l6 (
 some (Sum.inl l6))).ae (fun l9=>
 some (Sum.inr l9))))
 ((i1,l0,aW (af l0),(0:Int)),([]:aa))))
 (fun cR=>
 (dW cR (af cR)).ae (fun cE=>
 some cE)))
def CA:(aa×Int)->(Option aa):=Mo aI
theorem aqF (x:(aa×Int)) (z:aa) (h:CA x=some z):Mo aI x=some z:=h
def NB:aq:=[(.one,[.list [.int .i64]]),(.one,[.list [.int .i64]])]
def Zk:aq:=[(.one,[.list [.int .i64]])]
def awH:bi:=[]
def Mg (NN:Nat):(aa×aa)->(Option aa):=
 (fun((l0,l1):(aa×aa))=>
 (j9 l0).ae (fun l2=>
 ct (ai l2 (
 cq NN (fun(((l3,l4,i5,i6),l7):((aa×(aa×(Int×Int)))×aa))=>
 aD (cj i6 i5)
 ((cW l4 i6).ae (fun i8=>
 (vw (l3,i8)).ae (fun b9=>
 aD (d9 b9)
 (ai l7 (
 (bZ ((i8::([]:aa))) 0 1).ae (fun cR=>
 (kC (aJ (af l7) (af cR)) 8).ae (fun _=>
 (bn 0 (aJ (af l7) (af cR)) (af (d6 l7 cR))).ae (fun _=>
 some (Sum.inl ((l3,l4,i5,bE .i64 i6 1),d6 l7 cR)))))))
 (ai l7 (
 some (Sum.inl ((l3,l4,i5,bE .i64 i6 1),l7)))))))
 ((ai l7 (
 some (Sum.inl l7))).ae (fun cE=>
 some (Sum.inr cE))))
 ((l0,l1,aW (af l1),(0:Int)),l2)))
 (fun dO=>
 (dW dO (af dO)).ae (fun dG=>
 some dG))))
def EX:(aa×aa)->(Option aa):=Mg aI
theorem aqh (x:(aa×aa)) (z:aa) (h:EX x=some z):Mg aI x=some z:=h
def NA:aq:=[(.agg,[.list [.int .i64],.list [.int .i64],.list [.int .i64]]),(.agg,[.list [.int .i64],.list [.int .i64],.list [.int .i64]])]
def Zj:aq:=[(.one,[.list [.int .i64]]),(.one,[.list [.int .i64]]),(.one,[.bool])]
def awG:bi:=[]
def Mf (NN:Nat):((aa×(aa×aa))×(aa×(aa×aa)))->(Option (aa×(aa×Bool))):=
 (fun(((l0,l1,l2),l3,l4,l5):((aa×(aa×aa))×(aa×(aa×aa))))=>
 (EX (l0,l3)).ae (fun l6=>
 (mE (aW (af l6)) (aW (af l6)) 8).ae (fun k7=>
 ct (ai l6 (
 (bn 0 k7 (af (dU k7 (0:Int)))).ae (fun _=>
 ai l6 (
 cq NN (fun(((i8,i9),(cR,cE,dO),(dG,dA,eU),eF,dv):((Int×Int)×((aa×(aa×aa))×((aa×(aa×aa))×(aa×aa)))))=>
 aD (cj i9 i8)
 ((c7 i9 (af eF)).ae (fun WZ=>
 (cA eF (aJ 0 WZ)).ae (fun fC=>
 (wU ((cR,cE,dO),fC)).ae (fun ff=>
 (wU ((dG,dA,eU),fC)).ae (fun fD=>
 aD (ir (0:Int) ff)
 (aD (ir (0:Int) fD)
 ((cW cE ff).ae (fun gG=>
 (cW dA fD).ae (fun gL=>
 aD (iF gG gL)
 (some (Sum.inr (Sum.inr (([]:aa),([]:aa),false))))
 (aD (ir (0:Int) ff)
 ((cW cE ff).ae (fun gm=>
 (c7 i9 (af dv)).ae (fun zt=>
 (cA dv (aJ 0 zt)).ae (fun jH=>
 ai eF (
 (bn 0 (af dv) (af (bo dv (aJ 0 zt) gm))).ae (fun _=>
 ai eF (
 some (Sum.inl ((i8,bE .i64 i9 1),(cR,cE,dO),(dG,dA,eU),eF,bo dv (aJ 0 zt) gm)))))))))
 ((cW dA fD).ae (fun ij=>
 (c7 i9 (af dv)).ae (fun sj=>
 (cA dv (aJ 0 sj)).ae (fun kH=>
 ai eF (
 (bn 0 (af dv) (af (bo dv (aJ 0 sj) ij))).ae (fun _=>
 ai eF (
 some (Sum.inl ((i8,bE .i64 i9 1),(cR,cE,dO),(dG,dA,eU),eF,bo dv (aJ 0 sj) ij)))))))))))))
 (aD (ir (0:Int) ff)
 ((cW cE ff).ae (fun ik=>
 (c7 i9 (af dv)).ae (fun wk=>
 (cA dv (aJ 0 wk)).ae (fun gZ=>
 ai eF (
 (bn 0 (af dv) (af (bo dv (aJ 0 wk) ik))).ae (fun _=>
 ai eF (
 some (Sum.inl ((i8,bE .i64 i9 1),(cR,cE,dO),(dG,dA,eU),eF,bo dv (aJ 0 wk) ik)))))))))
 ((cW dA fD).ae (fun kI=>
 (c7 i9 (af dv)).ae (fun Kq=>
 (cA dv (aJ 0 Kq)).ae (fun gH=>
 ai eF (
 (bn 0 (af dv) (af (bo dv (aJ 0 Kq) kI))).ae (fun _=>
 ai eF (
 some (Sum.inl ((i8,bE .i64 i9 1),(cR,cE,dO),(dG,dA,eU),eF,bo dv (aJ 0 Kq) kI)))))))))))
 (aD (ir (0:Int) ff)
 ((cW cE ff).ae (fun ly=>
 (c7 i9 (af dv)).ae (fun DP=>
 (cA dv (aJ 0 DP)).ae (fun jI=>
 ai eF (
 (bn 0 (af dv) (af (bo dv (aJ 0 DP) ly))).ae (fun _=>
 ai eF (
 some (Sum.inl ((i8,bE .i64 i9 1),(cR,cE,dO),(dG,dA,eU),eF,bo dv (aJ 0 DP) ly)))))))))
 ((cW dA fD).ae (fun iK=>
 (c7 i9 (af dv)).ae (fun W6=>
 (cA dv (aJ 0 W6)).ae (fun mA=>
 ai eF (
 (bn 0 (af dv) (af (bo dv (aJ 0 W6) iK))).ae (fun _=>
 ai eF (
 some (Sum.inl ((i8,bE .i64 i9 1),(cR,cE,dO),(dG,dA,eU),eF,bo dv (aJ 0 W6) iK)))))))))))))))
 ((ai eF (
 ai dv (
 some (Sum.inl (eF,dv))))).ae (fun kq=>
 some (Sum.inr kq))))
 ((aW (af l6),(0:Int)),(l0,l1,l2),(l3,l4,l5),l6,dU k7 (0:Int))))))
 (fun(iE,gM)=>
 (dW iE (af iE)).ae (fun mC=>
 (dW gM (af gM)).ae (fun jr=>
 some (mC,jr,true)))))))
def EW:((aa×(aa×aa))×(aa×(aa×aa)))->(Option (aa×(aa×Bool))):=Mf aI
theorem aqg (x:((aa×(aa×aa))×(aa×(aa×aa)))) (z:(aa×(aa×Bool))) (h:EW x=some z):Mf aI x=some z:=h
def NC:aq:=[(.one,[.list [.int .i64]]),(.one,[.list [.int .i64]])]
def Zl:aq:=[(.one,[.list [.int .i64]])]
def awI:bi:=[]
def Mh (NN:Nat):(aa×aa)->(Option aa):=
 (fun((l0,l1):(aa×aa))=>
 ct ((bn 0 0 (af (([]:aa)))).ae (fun _=>
 cq NN (fun(((l2,l3,i4,i5),l6):((aa×(aa×(Int×Int)))×aa))=>
 aD (cj i5 i4)
 ((cW l3 i5).ae (fun i7=>
 (vw (l2,i7)).ae (fun b8=>
 aD (b8)
 (ai l6 (
 (bZ ((i7::([]:aa))) 0 1).ae (fun l9=>
 (kC (aJ (af l6) (af l9)) 8).ae (fun _=>
 (bn 0 (aJ (af l6) (af l9)) (af (d6 l6 l9))).ae (fun _=>
 some (Sum.inl ((l2,l3,i4,bE .i64 i5 1),d6 l6 l9)))))))
 (ai l6 (
 some (Sum.inl ((l2,l3,i4,bE .i64 i5 1),l6)))))))
 ((ai l6 (
 some (Sum.inl l6))).ae (fun cR=>
 some (Sum.inr cR))))
 ((l1,l0,aW (af l0),(0:Int)),([]:aa))))
 (fun cE=>
 (dW cE (af cE)).ae (fun dO=>
 some dO)))
def EY:(aa×aa)->(Option aa):=Mh aI
theorem aqi (x:(aa×aa)) (z:aa) (h:EY x=some z):Mh aI x=some z:=h
def Nv:aq:=[(.agg,[.int .i64,.int .i64,.int .i64]),(.one,[.list [.int .i64]]),(.one,[.list [.int .i64]]),(.one,[.list [.int .i64]])]
def Zf:aq:=[(.agg,[.list [.int .i64],.list [.int .i64],.list [.int .i64]])]
def awC:bi:=[]
def Me (NN:Nat):((Int×(Int×Int))×(aa×(aa×aa)))->(Option (aa×(aa×aa))):=
 (fun(((i0,i1,i2),l3,l4,l5):((Int×(Int×Int))×(aa×(aa×aa))))=>
 (j9 l3).ae (fun l6=>
 (j9 l4).ae (fun l7=>
 (Ah l4).ae (fun i8=>
 (mE (0:Int) (cV .i64 i8 (aW (af l5))) 8).ae (fun k9=>
 ct ((bn 0 0 (af (([]:aa)))).ae (fun _=>
 (bn 0 0 (af (([]:aa)))).ae (fun _=>
 (bn 0 0 (af (([]:aa)))).ae (fun _=>
 ai l6 (
 ai l7 (
 (bn 0 k9 (af (dU k9 (0:Int)))).ae (fun _=>
 cq NN (fun(((cR,fj,ef),dG,dA,eU,eF,dv,gA):((aa×(Int×Int))×(aa×(aa×(aa×(aa×(aa×aa)))))))=>
 aD (cj ef fj)
 (ai gA (
 (kC (aJ (af gA) (af cR)) 8).ae (fun _=>
 ai dG (
 ai dA (
 ai eU (
 ai eF (
 ai dv (
 (bn 0 (aJ (af gA) (af cR)) (af (d6 gA cR))).ae (fun _=>
 some (Sum.inl ((cR,fj,bE .i64 ef 1),dG,dA,eU,eF,dv,d6 gA cR)))))))))))
 ((ai dG (
 ai dA (
 ai eU (
 ai eF (
 ai dv (
 ai gA (
 some (Sum.inl (dG,dA,eU,eF,dv,gA))))))))).ae (fun jg=>
 some (Sum.inr jg))))
 ((l5,i8,(0:Int)),([]:aa),([]:aa),([]:aa),l6,l7,dU k9 (0:Int)))))))))
 (fun(hZ,fW,eo,jp,jh,iD)=>
 (dW jp (af jp)).ae (fun ia=>
 (dW jh (af jh)).ae (fun kl=>
 (dW iD (af iD)).ae (fun iT=>
 some (ia,kl,iT))))))))))
def EU:((Int×(Int×Int))×(aa×(aa×aa)))->(Option (aa×(aa×aa))):=Me aI
theorem aqc (x:((Int×(Int×Int))×(aa×(aa×aa)))) (z:(aa×(aa×aa))) (h:EU x=some z):Me aI x=some z:=h
def acj:aq:=[(.agg,[.int .i64,.int .i64,.int .i64]),(.one,[.list [.int .i64]]),(.one,[.list [.int .i64]])]
def ab0:aq:=[(.one,[.int .i64]),(.one,[.int .i64]),(.agg,[.int .i64,.int .i64,.int .i64]),(.one,[.list [.int .i64]]),(.one,[.list [.int .i64]])]
def Y4:aq:=[(.one,[.list [.int .i64]])]
def QH:bi:=[[some .aV,some .aV,some .aV],[],[some .aZ]]
def Mc (NN:Nat):(Int×(Int×((Int×(Int×Int))×(aa×aa))))->(Option aa):=
 (fun((i0,i1,(i2,i3,i4),l5,l6):(Int×(Int×((Int×(Int×Int))×(aa×aa)))))=>
 (kw i0 i1 (af l5)).ae (fun(k7,k8)=>
 ct (aD (c6 i2 (1:Int))
 (some (Sum.inl ((true,i2,(k7,k8),l6),l5,i2,i3,i4)))
 (some (Sum.inl ((c6 i2 (5:Int),i2,(k7,k8),l6),l5,i2,i3,i4))))
 (fun((b9,cX,(oA,si),dG),dA,gx,fI,fB)=>
 aD (b9)
 ((c7 (0:Int) si).ae (fun WZ=>
 (cA dA (aJ oA WZ)).ae (fun fC=>
 (cW dG (0:Int)).ae (fun ff=>
 (c7 (0:Int) si).ae (fun uL=>
 (cA dA (aJ oA uL)).ae (fun gG=>
 (kR (af (bo dA (aJ oA uL) (zC fC ff))) (af l5)).ae (fun _=>
 some (bo dA (aJ oA uL) (zC fC ff)))))))))
 (aD (c6 cX (3:Int))
 ((c7 (0:Int) si).ae (fun Kn=>
 (cA dA (aJ oA Kn)).ae (fun gm=>
 (cW dG (0:Int)).ae (fun ii=>
 (c7 (0:Int) si).ae (fun W0=>
 (cA dA (aJ oA W0)).ae (fun ij=>
 (kR (af (bo dA (aJ oA W0) (iW (bE .i64 gm ii) fI))) (af l5)).ae (fun _=>
 some (bo dA (aJ oA W0) (iW (bE .i64 gm ii) fI)))))))))
 (aD (c6 cX (4:Int))
 ((c7 (0:Int) si).ae (fun sj=>
 (cA dA (aJ oA sj)).ae (fun kH=>
 (cW dG (0:Int)).ae (fun ik=>
 (c7 (0:Int) si).ae (fun wk=>
 (cA dA (aJ oA wk)).ae (fun gZ=>
 (kR (af (bo dA (aJ oA wk) (iW kH ik))) (af l5)).ae (fun _=>
 some (bo dA (aJ oA wk) (iW kH ik)))))))))
 (aD (c6 cX (6:Int))
 ((c7 (0:Int) si).ae (fun Kp=>
 (cA dA (aJ oA Kp)).ae (fun io=>
 (cW dG (0:Int)).ae (fun gH=>
 (c7 (0:Int) si).ae (fun W5=>
 (cA dA (aJ oA W5)).ae (fun jW=>
 (kR (af (bo dA (aJ oA W5) (X9 .i64 io gH))) (af l5)).ae (fun _=>
 some (bo dA (aJ oA W5) (X9 .i64 io gH)))))))))
 (cq NN (fun((((Qf,Kr),lR,mA,iM),iE,jf,iS,jJ):(((Nat×Nat)×(aa×(Int×Int)))×(aa×(Int×(Int×Int)))))=>
 aD (cj iM mA)
 ((c7 iM Kr).ae (fun k47=>
 (cA iE (aJ Qf k47)).ae (fun kj=>
 (cW lR iM).ae (fun oW=>
 (gJ (bE .i64 kj oW) iS).ae (fun mB=>
 (c7 iM Kr).ae (fun k51=>
 (cA iE (aJ Qf k51)).ae (fun nE=>
 some (Sum.inl (((Qf,Kr),lR,mA,bE .i64 iM 1),bo iE (aJ Qf k51) mB,jf,iS,jJ)))))))))
 (((kR (af iE) (af l5)).ae (fun _=>
 some iE)).ae (fun oC=>
 some (Sum.inr oC))))
 (((oA,si),dG,aW si,(0:Int)),dA,gx,fI,fB))))))))
def Cs:(Int×(Int×((Int×(Int×Int))×(aa×aa))))->(Option aa):=Mc aI
theorem apZ (x:(Int×(Int×((Int×(Int×Int))×(aa×aa))))) (z:aa) (h:Cs x=some z):Mc aI x=some z:=h
theorem Ur {P:Int->Bool} {l:aa} {i:Nat} (h:i<l.length):(l.take (i+1)).filter P=if P (l.getD i 0)=true then(l.take i).filter P++[l.getD i 0] else(l.take i).filter P:=by
 have e:l.take (i+1)=l.take i++[l.getD i 0]:=by
  rw[zax,jb h];rfl
 rw[e,zaY];clear e;generalize l.getD i 0=x;cases hp:P x with
 |true=>rw[if_pos rfl];simp[List.filter,hp]
 |false=>rw[if_neg (by simp)];simp[List.filter,hp]
theorem Uq {P:Int->Bool} (l:aa) (i:Nat):((l.take i).filter P).length<=l.length:=by
 have:=zbu P (l.take i);rw[zaS] at this;omega
theorem aow (l:aa) (v:Int) (h:l.length<=1000):CA (l,v)=some (l.filter fun x=>decide (x≠v)):=by
 simp only[CA,Mo,ai];rw[show bn 0 0 (af ([]:aa))=some () from rfl]
 try simp only[bc]
 rw[eJ (fun i=>((v,l,aW (af l),(i:Int)),(l.take i).filter fun x=>decide (x≠v))) l.length ?a1 ?a2 ?a3 (dt (by omega))]
 case a1=>
  intro i hi;dsimp only
  have hlen:=Uq (P:=fun x=>decide (x≠v)) l i;rw[bk (dY (by show(i:Int)<(l.length:Int);omega)),e9,jb hi]
  try simp only[bc]
  rw[Ur hi,fq (by omega)];by_cases hc:l.getD i 0=v
  ·rw[bh (sD hc),if_neg (fun h=>(of_decide_eq_true h) hc)]
   try simp only[bF,bc]
  ·rw[bk (uY hc),if_pos (decide_eq_true hc)]
   try simp only[bF,bc]
   rw[Cg]
   try simp only[bc]
   rw[pQ (by simp only[aJ,af,zag,zah,fo];omega)]
   try simp only[bc]
   rw[Jp];rfl
 case a2=>
  dsimp only
  rw[bh (dL (by show(l.length:Int)<=(l.length:Int);omega)),zan]
  try simp only[bF,bc]
  try rfl
 case a3=>rfl
 simp only[ct,Option.bind,iO,bc]
theorem avv (l fu:aa) (h:l.length<=1000) (hk:fu.length<=1000):EY (l,fu)=some (l.filter fun x=>decide (x∈fu)):=by
 simp only[EY,Mh,ai];rw[show bn 0 0 (af ([]:aa))=some () from rfl]
 try simp only[bc]
 rw[eJ (fun i=>((fu,l,aW (af l),(i:Int)),(l.take i).filter fun x=>decide (x∈fu))) l.length ?a1 ?a2 ?a3 (dt (by omega))]
 case a1=>
  intro i hi;dsimp only
  have hlen:=Uq (P:=fun x=>decide (x∈fu)) l i;rw[bk (dY (by show(i:Int)<(l.length:Int);omega)),e9,jb hi]
  try simp only[bc]
  rw[show vw (fu,l.getD i 0)=some (decide (l.getD i 0∈fu)) from if_pos (by dsimp only;omega),Ur hi,fq (by omega)]
  try simp only[bc]
  by_cases hc:l.getD i 0∈fu
  ·rw[decide_eq_true hc,s9,if_pos rfl]
   try simp only[bF,bc]
   rw[Cg]
   try simp only[bc]
   rw[pQ (by simp only[aJ,af,zag,zah,fo];omega)]
   try simp only[bc]
   rw[Jp];rfl
  ·rw[decide_eq_false hc,nZ,if_neg (by simp)]
   try simp only[bF,bc]
 case a2=>
  dsimp only
  rw[bh (dL (by show(l.length:Int)<=(l.length:Int);omega)),zan]
  try simp only[bF,bc]
  try rfl
 case a3=>rfl
 simp only[ct,Option.bind,iO,bc]
def jL (a b:aa):aa:=a++b.filter fun x=> !decide (x∈a)
theorem atX (a b:aa) (h:a.length<=1000) (hb:b.length<=1000):EX (a,b)=some (jL a b):=by
 simp only[EX,Mg,ai];rw[show j9 a=some a from if_pos (by omega)]
 try simp only[bc,bF]
 rw[eJ (fun i=>((a,b,aW (af b),(i:Int)),a++(b.take i).filter fun x=> !decide (x∈a))) b.length ?a1 ?a2 ?a3 (dt (by omega))]
 case a1=>
  intro i hi;dsimp only
  have hlen:=Uq (P:=fun x=> !decide (x∈a)) b i;rw[bk (dY (by show(i:Int)<(b.length:Int);omega)),e9,jb hi]
  try simp only[bc]
  rw[show vw (a,b.getD i 0)=some (decide (b.getD i 0∈a)) from if_pos (by dsimp only;omega),Ur hi,fq (by omega)]
  try simp only[bc]
  by_cases hc:b.getD i 0∈a
  ·rw[decide_eq_true hc,show d9 true=false from rfl,nZ,if_neg (by simp)]
   try simp only[bF,bc]
  ·rw[decide_eq_false hc,show d9 false=true from rfl,s9,if_pos (show(!false)=true from rfl)]
   try simp only[bF,bc]
   rw[Cg]
   try simp only[bc]
   rw[pQ (by simp only[aJ,af,zag,zah,zae,fo];omega)]
   try simp only[bc]
   rw[Jp];simp only[bc,d6,List.append_assoc]
 case a2=>
  dsimp only
  rw[bh (dL (by show(b.length:Int)<=(b.length:Int);omega)),zan]
  try simp only[bF,bc]
  try rfl
 case a3=>
  rw[List.take_zero,List.filter_nil,List.append_nil];rfl
 simp only[ct,Option.bind,iO,bc]
 try rfl
def jd (La Da Lb Db:aa) (v:Int):Int:=if bS La v<La.length then Da.getD (bS La v) 0 else Db.getD (bS Lb v) 0
theorem zJ {l:aa} {v:Int}:bS l v<l.length↔v∈l:=by
 constructor
 ·intro h;exact za5 (aji h)
 ·exact qb
theorem aA9 {n:Nat} (f:Nat->Int) (i:Nat) (x:Int) (hx:x=f i):bo (bB n (fun q=>if q<i then f q else 0)) i x=bB n (fun q=>if q<i+1 then f q else 0):=by
 rw[yf];refine gQ fun q _=>?_;by_cases e:q=i
 ·rw[if_pos e,if_pos (by omega),hx,e]
 ·rw[if_neg e];by_cases e2:q<i
  ·rw[if_pos e2,if_pos (by omega)]
  ·rw[if_neg e2,if_neg (by omega)]
theorem agx {a b:aa} {v:Int} (h:v∈jL a b):v∈a\/v∈b:=by
 unfold jL at h;rcases zaW.1 h with h|h
 ·exact .inl h
 ·exact .inr (zaZ.1 h).1
theorem atW {La Da A Lb Db B:aa} (ha:La.length=Da.length) (hb:Lb.length=Db.length) (vR:La.length<=12) (aDC:Lb.length<=12) (hc:∀v,v∈La->v∈Lb->Da.getD (bS La v) 0=Db.getD (bS Lb v) 0):
  EW ((La,Da,A),Lb,Db,B)=some (jL La Lb,(jL La Lb).map (jd La Da Lb Db),true):=by
 simp only[EW,Mf,ai];rw[atX La Lb (by omega) (by omega)]
 try simp only[bc]
 have hl:(jL La Lb).length<=24:=by
  unfold jL;rw[zae];have:=zbu (fun x=> !decide (x∈La)) Lb;omega
 have uF:∀q,q<(jL La Lb).length->(jL La Lb).getD q 0∈La\/(jL La Lb).getD q 0∈Lb:=fun q hq=>agx (gS hq);generalize jL La Lb=S at hl uF;rw[x3 (by simp only[af,fo];omega)]
 try simp only[bc,bF]
 rw[show bn 0 (af S) (af (dU (af S) (0:Int)))=some () from vQ (by simp[af,dU])]
 try simp only[bc]
 rw[eJ (fun i=>((aW (af S),(i:Int)),(La,Da,A),(Lb,Db,B),S,bB S.length (fun q=>if q<i then jd La Da Lb Db (S.getD q 0) else 0))) S.length ?a1 ?a2 ?a3 (dt (by omega))]
 case a1=>
  intro i hi;dsimp only
  rw[bk (dY (by show(i:Int)<(S.length:Int);omega)),pI (by show i<S.length;omega)]
  try simp only[bc]
  rw[gE,show cA S i=some (S.getD i 0) from jb hi]
  try simp only[bc]
  generalize hv:S.getD i 0=v;rw[show wU ((La,Da,A),v)=some (rR La v) from if_pos (by dsimp only;omega),show wU ((Lb,Db,B),v)=some (rR Lb v) from if_pos (by dsimp only;omega)]
  try simp only[bc]
  have JG:∀x,x=jd La Da Lb Db v->bo (bB S.length (fun q=>if q<i then jd La Da Lb Db (S.getD q 0) else 0)) (aJ 0 i) x=bB S.length (fun q=>if q<i+1 then jd La Da Lb Db (S.getD q 0) else 0):=fun x hx=>by
   rw[gE];exact aA9 (fun q=>jd La Da Lb Db (S.getD q 0)) i x (by rw[hx,hv])
  have oe:∀x:Int,cA (bB S.length (fun q=>if q<i then jd La Da Lb Db (S.getD q 0) else 0)) (aJ 0 i)=some (if i<i then jd La Da Lb Db (S.getD i 0) else 0):=fun _=>by rw[gE];exact qw _ hi
  have hm:=uF i hi;rw[hv] at hm;by_cases h1:v∈La
  ·have p1:=zJ.2 h1;have e1:rR La v=((bS La v:Nat):Int):=if_pos p1;have g1:cW Da ((bS La v:Nat):Int)=some (Da.getD (bS La v) 0):=by rw[e9,jb (by omega)]
   have hj:jd La Da Lb Db v=Da.getD (bS La v) 0:=if_pos p1;have z1:ir 0 ((bS La v:Nat):Int)=true:=wA (by omega);rw[e1,z1,s9];by_cases h2:v∈Lb
   ·have p2:=zJ.2 h2;have e2:rR Lb v=((bS Lb v:Nat):Int):=if_pos p2;have g2:cW Db ((bS Lb v:Nat):Int)=some (Db.getD (bS Lb v) 0):=by rw[e9,jb (by omega)]
    rw[e2,show ir 0 ((bS Lb v:Nat):Int)=true from wA (by omega),s9,g1]
    try simp only[bc]
    rw[g2]
    try simp only[bc]
    rw[bh (sD (hc v h1 h2)),s9,s7 _ hi]
    try simp only[bc]
    rw[oe 0]
    try simp only[bc]
    rw[JG _ hj.symm,nj]
    try simp only[bc,bF]
    rw[fq (by omega)]
   ·have p2:¬bS Lb v<Lb.length:=fun h=>h2 (zJ.1 h);have e2:rR Lb v= -1:=if_neg p2;rw[e2,show ir 0 (-1:Int)=false from rfl,nZ,s9,g1]
    try simp only[bc]
    rw[s7 _ hi]
    try simp only[bc]
    rw[oe 0]
    try simp only[bc]
    rw[JG _ hj.symm,nj]
    try simp only[bc,bF]
    rw[fq (by omega)]
  ·have p1:¬bS La v<La.length:=fun h=>h1 (zJ.1 h);have e1:rR La v= -1:=if_neg p1;have h2:v∈Lb:=hm.resolve_left h1;have p2:=zJ.2 h2;have e2:rR Lb v=((bS Lb v:Nat):Int):=if_pos p2;have g2:cW Db ((bS Lb v:Nat):Int)=some (Db.getD (bS Lb v) 0):=by rw[e9,jb (by omega)]
   have hj:jd La Da Lb Db v=Db.getD (bS Lb v) 0:=if_neg p1;rw[e1,e2,show ir 0 (-1:Int)=false from rfl,nZ,nZ,g2]
   try simp only[bc]
   rw[s7 _ hi]
   try simp only[bc]
   rw[oe 0]
   try simp only[bc]
   rw[JG _ hj.symm,nj]
   try simp only[bc,bF]
   rw[fq (by omega)]
 case a2=>
  dsimp only
  rw[bh (dL (by show(S.length:Int)<=(S.length:Int);omega))]
  try simp only[bF,bc]
  try rfl
 case a3=>
  rw[K3];rfl
 have e:bB S.length (fun q=>if q<S.length then jd La Da Lb Db (S.getD q 0) else 0)=S.map (jd La Da Lb Db):=by
  rw[<-K5];exact gQ fun q hq=>if_pos hq
 rw[e];simp only[ct,Option.bind,iO,bc]
theorem ara {r:Int×Int×Int} {L D:aa} (x:Int) (hL:L.length<=1000) (hD:D.length<=12) (hd:∀v∈D,1<=v/\v<=8) (hP:aL D<=65536):EU (r,L,D,[x])=some (L,D,bB (aL D) fun _=>x):=by
 obtain⟨r1,r2,r3⟩:=r;simp only[EU,Me,ai];have hI:=x7 (D:=D) fun v hv=>(hd v hv).1;rw[show j9 L=some L from if_pos (by omega)]
 try simp only[bc]
 rw[show j9 D=some D from if_pos (by omega)]
 try simp only[bc]
 rw[show Ah D=some (eH D) from if_pos ⟨hD,hd⟩,hI]
 try simp only[bc]
 rw[show aW (af [x])=1 from rfl,qa (by omega) (by omega),zaK]
 have hk:mE 0 ((aL D:Nat):Int) 8=some 0:=by
  unfold mE;rw[if_pos (by refine⟨by omega,by omega,?_⟩;simp only[fo];omega)];rfl
 rw[hk]
 try simp only[bc,bF]
 rw[show bn 0 0 (af ([]:aa))=some () from rfl,show bn 0 0 (af (dU 0 (0:Int)))=some () from rfl]
 try simp only[bc]
 rw[eJ (fun i=>(([x],((aL D:Nat):Int),(i:Int)),([]:aa),([]:aa),([]:aa),L,D,bB i fun _=>x)) (aL D) ?a1 ?a2 ?a3 (dt (by omega))]
 case a1=>
  intro i hi;dsimp only
  rw[bk (dY (by omega))]
  try simp only[bc,bF]
  rw[pQ (by simp only[aJ,af,dV,zag,zah,fo];omega)]
  try simp only[bc]
  rw[Jp]
  try simp only[bc]
  rw[fq (by omega),K4 i (fun _=>x)]
 case a2=>
  dsimp only
  rw[bh (dL (by omega))]
  try simp only[bc,bF]
  try rfl
 case a3=>rfl
 simp only[ct,Option.bind,iO,bc]
theorem ani {p n y:Int} {xs:aa} {lo:Nat} (h:lo<xs.length) (hl:xs.length<=1048576) (hp:0<p) (hx:0<=xs.getD lo 0/\xs.getD lo 0<=1048576) (hy:0<=y/\y<=1048576):
  Cs ((lo:Int),((lo+1:Nat):Int),(2,p,n),xs,[y])=some (bo xs lo ((xs.getD lo 0+y)%p)):=by
 simp only[Cs,Mc];rw[aau (by omega) (by show lo+1<=xs.length;omega)]
 try simp only[bc]
 rw[show lo+1 - lo=1 by omega,bh (qZ (by decide))];simp only[ct,Option.bind];rw[show c6 (2:Int) 5=false from rfl,nZ,show c6 (2:Int) 3=false from rfl,nZ,show c6 (2:Int) 4=false from rfl,nZ,show c6 (2:Int) 6=false from rfl,nZ]
 have cN:True:=trivial
 ·refine eJ (fun i=>(((lo,1),[y],aW 1,(i:Int)),if i=0 then xs else bo xs lo ((xs.getD lo 0+y)%p),2,p,n)) 1 ?_ ?_ rfl (dt (by omega))
  ·intro i hi;have:i=0:=by omega
   subst this;dsimp only
   rw[bk (dY (by decide)),if_pos rfl,show c7 ((0:Nat):Int) 1=some 0 from rfl]
   try simp only[bc]
   rw[show aJ lo 0=lo from rfl,show cA xs lo=some (xs.getD lo 0) from jb h]
   try simp only[bc]
   rw[show cW [y] ((0:Nat):Int)=some y from rfl]
   try simp only[bc]
   rw[f7 (by omega) (by omega),wG (by omega) hp]
   try simp only[bc]
   try rfl
  ·dsimp only
   rw[bh (dL (by decide)),if_neg (by decide)];rw[wK (by show(bo xs lo _).length=xs.length;simp[bo])];rfl
def Yc (a:Int×List aS) (k:Int) (x:Int×Int×aa) (b:Int×List aS):Int×Bool:=if(ud b.1 b.2 k x).2=true then GN a (ud b.1 b.2 k x).1 else(0,false)
def aby:(Int×List aS)×Int×(Int×Int×aa)×Int×List aS->Option (Int×Bool):=fun x=>
 if oI x.1<=1048576/\vn x.2.2.1<=1048576/\oI x.2.2.2<=1048576 then some (Yc x.1 x.2.1 x.2.2.1 x.2.2.2) else none
def Cr:(Int×List aS)×Int×(Int×Int×aa)×Int×List aS->Option (Int×Bool):=aby
def Nb:aq:=[(.agg,[.int .i64,.list [.int .i64,.int .i64,.int .i64,.list [.int .i64]]]),(.one,[.int .i64]),(.agg,[.int .i64,.int .i64,.list [.int .i64]]),(.agg,[.int .i64,.list [.int .i64,.int .i64,.int .i64,.list [.int .i64]]])]
def YW:aq:=[(.one,[.int .i64]),(.one,[.bool])]
def awk:bi:=[]
def SE (NN:Nat):((Int×(List (Int×(Int×(Int×aa)))))×(Int×((Int×(Int×aa))×(Int×(List (Int×(Int×(Int×aa))))))))->(Option (Int×Bool)):=
 (fun(((i0,l1),i2,(i3,i4,l5),i6,l7):((Int×(List (Int×(Int×(Int×aa)))))×(Int×((Int×(Int×aa))×(Int×(List (Int×(Int×(Int×aa)))))))))=>
 (yr ((i6,l7),i2,i3,i4,l5)).ae (fun((i8,l9),qp)=>
 aD (d9 qp)
 (some ((0:Int),false))
 ((bZ l9 0 (af l9)).ae (fun cE=>
 (Ac ((i0,l1),i8,cE)).ae (fun(ef,Ft)=>
 some (ef,Ft))))))
theorem apQ (x:(Int×List aS)×Int×(Int×Int×aa)×Int×List aS) (y:Int×Bool) (h:Cr x=some y):SE aI x=some y:=by
 obtain⟨⟨a0,a1⟩,k,⟨x1,x2,xd⟩,b0,b1⟩:=x;simp only[Cr,aby] at h;split at h
 ·rename_i hs;obtain⟨h1,h2,h3⟩:=hs;rw[<-h];simp only[SE,Yc];rw[show yr ((b0,b1),k,x1,x2,xd)=some (ud b0 b1 k (x1,x2,xd)) from if_pos ⟨h3,h2⟩,av]
  have hz:=anx (k:=k) (x:=(x1,x2,xd)) h3;generalize ud b0 b1 k (x1,x2,xd)=r at*
  obtain⟨⟨r0,r1⟩,ok⟩:=r;cases ok with
  |false=>rfl
  |true=>
   simp only
   rw[bh (by rfl),dj,av,show Ac ((a0,a1),r0,r1)=some (GN (a0,a1) (r0,r1)) from if_pos ⟨h1,zaG hz (by decide)⟩,av,if_pos trivial]
 ·cases h
theorem aBN {m:Int} {D:aa} {L:List aS} {i:Nat} {s:aS} (h:Ch m D L) (hi:i<L.length) (hs:m4 m s=true)
  (s1:s.1=(L.getD i cm).1) (s2:s.2.1=(L.getD i cm).2.1) (s3:s.2.2.1=(L.getD i cm).2.2.1):
  Ch m D (L.set i s)/\(L.set i s).length=L.length/\(∀k,cu (L.set i s) k=cu L k)/\(L.set i s).drop (i+1)=L.drop (i+1)/\∀k,(L.set i s).getD k cm=if k=i then s else L.getD k cm:=by
 have JD:(L.set i s).drop (i+1)=L.drop (i+1):=zbc (by omega);have hg:∀k,(L.set i s).getD k cm=if k=i then s else L.getD k cm:=Jq hi
 have hlen:(L.set i s).length=L.length:=by simp
 generalize L.set i s=L' at hg hlen JD;have b1:∀k,(L'.getD k cm).1=(L.getD k cm).1:=fun k=>by
  rw[hg];split
  ·rename_i e;rw[s1,e]
  ·rfl
 have b2:∀k,(L'.getD k cm).2.1=(L.getD k cm).2.1:=fun k=>by
  rw[hg];split
  ·rename_i e;rw[s2,e]
  ·rfl
 have b3:∀k,(L'.getD k cm).2.2.1=(L.getD k cm).2.2.1:=fun k=>by
  rw[hg];split
  ·rename_i e;rw[s3,e]
  ·rfl
 refine⟨⟨⟨fun k hk=>?_,fun k hk=>?_⟩,?_,by rw[hlen];exact h.len,?_,?_⟩,hlen,fun k=>?_,JD,hg⟩
 ·rw[hg];split
  ·exact hs
  ·exact h.fit.1 k (by omega)
 ·rw[b1,b3];exact h.fit.2 k (by omega)
 ·rw[<-h.iQ];exact yL (by rw[iC,iC,hlen]) fun k _=>by rw[ta,ta,b2]
 ·rw[b1];exact h.fst
 ·rw[b3,hlen];exact h.Kz
 ·cases k with
  |zero=>rfl
  |succ k=>
   show(L'.getD k cm).2.2.1.toNat=(L.getD k cm).2.2.1.toNat
   rw[b3]
structure Ops (m:Int) (L L':List aS) (k P:Nat) (X:aa):Prop where
 ok:fi (m,L')=true
 iQ:bw L'=bw L
 val:∀u r w,r<P->w<bQ (bw L) (k+1)->cg m (jR m L' ((u*P+r)*bQ (bw L) (k+1)+w)) (sm P (fun q=>bH P X r q*jR m L ((u*P+q)*bQ (bw L) (k+1)+w)))
theorem aB4 {m:Int} {L:List aS} {k P:Nat} {X:aa} (h:fi (m,L)=true) (hk:k<L.length) (hP:P=((bw L).getD k 0).toNat) (hX:X.length=P*P) (U2:eZ m X):
  ∃L',yr ((m,L),(k:Int),((P:Int),(P:Int),X))=some ((m,L'),true)/\ud m L (k:Int) ((P:Int),(P:Int),X)=((m,L'),true)/\Ops m L L' k P X:=by
 obtain⟨cf,h8,hp⟩:=OI h;have hm:=gn cf;have hC:=Ch.of h;obtain⟨b,p,c,d,_,e1,a1,a2,a3,a4,a5⟩:=Oq h hk;have hd:((bw L).getD k 0).toNat=p:=by rw[ta,e1];rfl
 rw[hd] at hP;subst hP;have PK:cu L k=b:=by rw[<-hC.left hk,e1];rfl
 have uA:cu L (k+1)=c:=by show(L.getD k cm).2.2.1.toNat=c;rw[e1];rfl
 have VJ:jv m ((P:Int),(P:Int),X)=true:=by
  have:=QA (M:=bH P X) cf (show P<=64 by omega) (show P<=64 by omega) (sW hX U2);rwa[qv hX] at this
 have P1:HM m ((P:Int),(P:Int),X) (L.getD k cm)=((b:Int),(P:Int),(c:Int),bB (b*P*c) (nW m P c (bH P X) d)):=by rw[e1];rfl
 have hs:=Et (m:=m) (d:=bB (b*P*c) (nW m P c (bH P X) d)) a1 a2 a3 (dV _ _) (K6 fun _=>ui hm _ _ _);obtain⟨c1,c2,c3,c4,hg⟩:=aBN (s:=((b:Int),(P:Int),(c:Int),bB (b*P*c) (nW m P c (bH P X) d))) hC hk hs (by rw[e1]) (by rw[e1]) (by rw[e1]);have fT:=c1.ok cf (by omega) hp;have U6:ud m L (k:Int) ((P:Int),(P:Int),X)=((m,L.set k ((b:Int),(P:Int),(c:Int),bB (b*P*c) (nW m P c (bH P X) d))),true):=by
  unfold ud;rw[zac,P1,if_pos ⟨⟨h,⟨by omega,by omega⟩,VJ⟩,by rw[e1],by rw[e1]⟩];rfl
 generalize L.set k ((b:Int),(P:Int),(c:Int),bB (b*P*c) (nW m P c (bH P X) d))=L' at c1 c2 c3 c4 hg fT U6;refine⟨L',?_,U6,fT,c1.iQ,?_⟩
 ·simp only[yr,Sn];have hz:vn ((P:Int),(P:Int),X)<=1048576:=by
   show X.length<=_;rw[hX];have:=zad a3.2 a3.2;omega
  rw[if_pos ⟨BO h,hz⟩,U6]
 ·have Gl:L'.getD k cm=((b:Int),(P:Int),(c:Int),bB (b*P*c) (nW m P c (bH P X) d)):=by rw[hg,if_pos rfl]
  have one:∀u r j,r<P->j<c->cg m (lN m L' (bw L) (k+1) (u*P+r) j) (sm P (fun q=>bH P X r q*lN m L (bw L) (k+1) (u*P+q) j)):=by
   intro u r j hr hj;have s1:=G7 (m:=m) (l:=L') (D:=bw L) (i:=k) (u:=u) (v:=r) (j:=j) (by rw[hd];exact hr);rw[hd,Gl] at s1;refine s1.trans ?_;rw[Qw (l:=L') (l':=L) k fun q hq=>by rw[hg,if_neg (by omega)]];show cg m (sm b (fun t=>lN m L (bw L) k u t*m5 ((b:Int),(P:Int),(c:Int),bB (b*P*c) (nW m P c (bH P X) d)) r t j)) _;have s2:∀t,t<b->cg m (m5 ((b:Int),(P:Int),(c:Int),bB (b*P*c) (nW m P c (bH P X) d)) r t j) (sm P (fun q=>bH P X r q*bH c d (t*P+q) j)):=by
    intro t ht;rw[aat];have e:bH c (bB (b*P*c) (nW m P c (bH P X) d)) (t*P+r) j=iR m (fun u=>bH P X r u) (fun u=>bH c d (t*P+u) j) P:=by
     refine Eq.trans ?_ (ab8 (m:=m) (X:=bH P X) (d:=d) (i:=t) hr hj);show(bB (b*P*c) (nW m P c (bH P X) d)).getD ((t*P+r)*c+j) 0=_;rw[zaa,lD _ (jK (jK ht hr) hj)];rfl
    rw[e];exact Ud _ _ _ _
   refine(ki fun t ht=>cg.mul (cg.refl _ _) (s2 t ht)).trans ?_;rw[alN b P (fun t=>lN m L (bw L) k u t) (fun q=>bH P X r q) (fun q t=>bH c d (t*P+q) j)];refine ki fun q hq=>cg.mul (cg.refl _ _) ?_;have s3:=G7 (m:=m) (l:=L) (D:=bw L) (i:=k) (u:=u) (v:=q) (j:=j) (by rw[hd];exact hq);rw[hd,e1] at s3;exact s3.symm
  intro u r w hr hw;have ev:∀n,jR m L' n=lN m L' (bw L) L'.length n 0:=fun n=>by unfold jR;rw[c1.iQ]
  rw[ev];refine(c1.split (L'.length - (k+1)) (k+1) (by omega) _ _ hw).trans ?_;rw[c3 (k+1),uA,c4];refine(ki fun t ht=>cg.mul (one u r t hr ht) (cg.refl _ _)).trans ?_;rw[<-B6];refine ki fun q _=>cg.mul (cg.refl _ _) ?_;have s4:=hC.split (L.length - (k+1)) (k+1) (by omega) (u*P+q) w hw;rw[uA] at s4;exact s4.symm
theorem aiT {D1 D2 i1 i2:aa} (h:i1.length=D1.length):∀j,j<=D1.length->jO (D1++D2) (i1++i2) j=jO D1 i1 j
 |0,_=>rfl
 |j+1,hj=>by
  simp only[jO];rw[aiT h j (by omega)];simp only[zaa];rw[zap (by omega),zap (by omega)]
theorem x8 (a b:aa):aL (a++b)=aL a*aL b:=by
 induction a with
 |nil=>simp[aL]
 |cons x a ih=>simp only[zbJ,aL,ih,zaq]
theorem aiS {D1 D2 i1 i2:aa} (h:i1.length=D1.length):∀j,j<=D2.length->jO (D1++D2) (i1++i2) (D1.length+j)=jO D1 i1 D1.length*aL (D2.take j)+jO D2 i2 j
 |0,_=>by
  rw[zbq,aiT h _ (zaf _)];simp[aL,jO]
 |j+1,hj=>by
  show jO (D1++D2) (i1++i2) (D1.length+j)*((D1++D2).getD (D1.length+j) 0).toNat+((i1++i2).getD (D1.length+j) 0).toNat=_;rw[aiS h j (by omega)];have e:D2.take (j+1)=D2.take j++[D2.getD j 0]:=by
   rw[zax,jb (by omega)];rfl
  have e1:(D1++D2).getD (D1.length+j) 0=D2.getD j 0:=by
   simp only[zaa];rw[zao (by omega),zaw]
  have e2:(i1++i2).getD (D1.length+j) 0=i2.getD j 0:=by
   simp only[zaa];rw[zao (by omega),h,zaw]
  rw[e,x8,e1,e2];simp only[aL,jO,zam];rw[zat,zaq,zaX]
def o7 (D ix:aa):Nat:=jO D ix D.length
theorem KL {D1 D2 i1 i2:aa} (h:i1.length=D1.length):o7 (D1++D2) (i1++i2)=o7 D1 i1*aL D2+o7 D2 i2:=by
 unfold o7;rw[zae,aiS h _ (zaf _),zan]
theorem QV (d x:Int):o7 [d] [x]=x.toNat:=by
 show 0*_+_=_;rw[zbt,zbQ];rfl
theorem Hq {D:aa} (hD:jC D) {n:Nat} (hn:n<aL D):o7 D (bV D n)=n:=by
 unfold o7;rw[QW hD hn _ (zaf _),tT,zbB]
theorem aCM {D1 D2:aa} {i:Nat} (hi:i<=D1.length):bQ (D1++D2) i=bQ D1 i*aL D2:=by
 unfold bQ;rw[List.drop_append_of_le_length hi,x8]
theorem aCN (D1 D2:aa) (j:Nat):bQ (D1++D2) (D1.length+j)=bQ D2 j:=by
 unfold bQ;rw[List.drop_append,List.drop_eq_nil_of_le (by omega),za9,zaw]
theorem Wz {D1 D2:aa} (h2:0<aL D2) {U w:Nat} (hw:w<aL D2):bV (D1++D2) (U*aL D2+w)=bV D1 U++bV D2 w:=by
 have hl:∀(D:aa) (n:Nat),(bV D n).length=D.length:=fun D n=>dV _ _;refine yL (by rw[hl,zae,zae,hl,hl]) fun i hi=>?_;rw[hl,zae] at hi;rw[zq (by rw[zae];exact hi)];by_cases hc:i<D1.length
 ·have e1:(bV D1 U++bV D2 w).getD i 0=fM D1 U i:=by
   rw[zaa,zap (by rw[hl];exact hc),<-zaa,zq hc]
  have e2:(D1++D2).getD i 0=D1.getD i 0:=by
   simp only[zaa];rw[zap hc]
  rw[e1];unfold fM;rw[aCM (by omega),e2,zai (bQ D1 (i+1)),<-zbm,qF hw]
 ·obtain⟨j,rfl⟩:∃j,i=D1.length+j:=⟨i - D1.length,by omega⟩;have hj:j<D2.length:=by omega
  have e1:(bV D1 U++bV D2 w).getD (D1.length+j) 0=fM D2 w j:=by
   rw[zaa,zao (by rw[hl];omega),hl,zaw,<-zaa,zq hj]
  have e2:(D1++D2).getD (D1.length+j) 0=D2.getD j 0:=by
   simp only[zaa];rw[zao (by omega),zaw]
  rw[e1];unfold fM;rw[zaX,aCN,e2];congr 1;have ht:=head_tail D2 (j+1) (by omega);have ht0:0<bQ D2 (j+1):=by
   rcases zaV (bQ D2 (j+1)) with h|h
   ·rw[h,zbs] at ht;omega
   ·exact h
  have hh:nr D2 (j+1)=nr D2 j*(D2.getD j 0).toNat:=rfl;rw[<-ht,hh,<-zaq,zai _ (bQ D2 (j+1)),Nat.mul_add_div ht0,<-zaq,zai _ (D2.getD j 0).toNat,Nat.mul_add_mod]
def jU (J I:aa) (v:Int):Int:=I.getD (bS J v) 0
theorem XG {J I:aa} (hn:J.Nodup) (hl:I.length=J.length):J.map (jU J I)=I:=by
 refine yL (by rw[zaN,hl]) fun k hk=>?_;rw[zaN] at hk;rw[zaa,zaB,jb hk];show I.getD (bS J (J.getD k 0)) 0=_;rw[rC hn hk]
theorem aCC {L J:aa} (hL:L.Nodup) (hJ:J.Nodup) (hs:∀v∈L,v∈J) {g:Int->Nat} (h0:∀v,v∉L->g v=0):(J.map g).sum=(L.map g).sum:=by
 have h1:∀l:aa,(l.map g).sum=((l.filter fun v=>decide (v∈L)).map g).sum:=by
  intro l;induction l with
  |nil=>rfl
  |cons a l ih=>
   by_cases hc:a∈L
   ·rw[zbl (by simpa using hc),zav,zaU,zav,zaU,ih]
   ·rw[zaD (by simpa using hc),zav,zaU,ih,h0 a hc,zbQ]
 rw[h1 J];refine List.Perm.sum_nat (List.Perm.map g ((List.perm_ext_iff_of_nodup (hJ.filter _) hL).2 fun v=>?_));rw[zaZ];exact⟨fun h=>by simpa using h.2,fun h=>⟨hs v h,by simpa using h⟩⟩
def kB (L D J I:aa):Nat:=sN (fun i=>(I.getD i 0).toNat*((qf L D J).getD i 0).toNat) (qf L D J).length
theorem OX {L D J I:aa} (hL:L.Nodup) (hJ:J.Nodup) (hs:∀v∈L,v∈J) (hl:L.length=D.length) (hI:I.length=J.length):kB L D J I=o7 D (L.map (jU J I)):=by
 have hlen:(qf L D J).length=J.length:=dV _ _;let g:Int->Nat:=fun v=>(jU J I v).toNat*(if bS L v<L.length then bQ D (bS L v+1) else 0)
 have e1:kB L D J I=(J.map g).sum:=by
  unfold kB;rw[hlen,<-Rl g J];refine Lc _ fun i hi=>?_;show _=(I.getD (bS J (J.getD i 0)) 0).toNat*_;rw[rC hJ hi];congr 1;unfold qf;rw[zaa,lD _ hi];show(if bS L (J.getD i 0)<L.length then((bQ D (bS L (J.getD i 0)+1):Nat):Int) else 0).toNat=_
  split
  ·exact zac _
  ·rfl
 have e2:o7 D (L.map (jU J I))=(L.map g).sum:=by
  unfold o7;have:=X6 (D:=D) (ix:=L.map (jU J I)) D.length (zaf _);rw[tT,zam] at this;rw[this,<-Rl g L,<-hl];refine Lc _ fun i hi=>?_;show _=(jU J I (L.getD i 0)).toNat*(if bS L (L.getD i 0)<L.length then bQ D (bS L (L.getD i 0)+1) else 0)
  rw[rC hL hi,if_pos hi];congr 1;rw[zaa,zaB,jb hi];rfl
 rw[e1,e2];refine aCC hL hJ hs fun v hv=>?_;show _*_=0;rw[if_neg fun h=>hv (zJ.1 h),zbs]
theorem aza {D ix:aa} (h:∀k,k<D.length->(ix.getD k 0).toNat<(D.getD k 0).toNat):o7 D ix<aL D:=by
 have:=X5 h D.length (zaf _);rw[tT,zam] at this;unfold o7;omega
def MZ:aq:=[(.agg,[.int .i64,.int .i64,.int .i64]),(.agg,[.list [.int .i64],.list [.int .i64],.list [.int .i64]]),(.agg,[.list [.int .i64],.list [.int .i64],.list [.int .i64]]),(.one,[.list [.int .i64]])]
def YM:aq:=[(.agg,[.list [.int .i64],.list [.int .i64],.list [.int .i64]]),(.one,[.bool])]
def awd:bi:=[]
def L5 (NN:Nat):((Int×(Int×Int))×((aa×(aa×aa))×((aa×(aa×aa))×aa)))->(Option ((aa×(aa×aa))×Bool)):=
 (fun(((i0,i1,i2),(l3,l4,l5),(l6,l7,l8),l9):((Int×(Int×Int))×((aa×(aa×aa))×((aa×(aa×aa))×aa))))=>
 (oM ((i0,i1,i2),l3,l4,l5)).ae (fun qp=>
 aD (d9 qp)
 (some ((([]:aa),([]:aa),([]:aa)),false))
 ((oM ((i0,i1,i2),l6,l7,l8)).ae (fun b11=>
 aD (d9 b11)
 (some ((([]:aa),([]:aa),([]:aa)),false))
 ((EW ((l3,l4,l5),l6,l7,l8)).ae (fun(dO,dG,Tw)=>
 aD (d9 Tw)
 (some ((([]:aa),([]:aa),([]:aa)),false))
 ((bZ dG 0 (af dG)).ae (fun eU=>
 (Ah eU).ae (fun fI=>
 aD (cj (65536:Int) fI)
 (some ((([]:aa),([]:aa),([]:aa)),false))
 ((bZ dO 0 (af dO)).ae (fun dv=>
 (EY (dv,l9)).ae (fun gA=>
 (mE (aW (af gA)) (aW (af gA)) 8).ae (fun Kl=>
 ct (ai dO (
 ai dG (
 ai gA (
 (bn 0 0 (af (([]:aa)))).ae (fun _=>
 (bn 0 0 (af (([]:aa)))).ae (fun _=>
 (bn 0 0 (af (([]:aa)))).ae (fun _=>
 ai gA (
 (bn 0 Kl (af (dU Kl (0:Int)))).ae (fun _=>
 (bn 0 0 (af (([]:aa)))).ae (fun _=>
 cq NN (fun(((ff,fD),(gG,gL,gm),(iD,ia,kl),(iT,km,kL),iU,ko,ji,oZ,ru,iN,jq,lA):((Int×Int)×((Int×(Int×Int))×((aa×(aa×aa))×((aa×(aa×aa))×(aa×(aa×(aa×(aa×(aa×(aa×(aa×aa))))))))))))=>
 aD (cj fD ff)
 (ct ((c7 fD (af oZ)).ae (fun Kr=>
 (cA oZ (aJ 0 Kr)).ae (fun iL=>
 ai jq (
 ai lA (
 ai oZ (
 ai jq (
 ai iU (
 ai ko (
 ai ji (
 ai oZ (
 ai ru (
 ai iN (
 cq NN (fun(((mA,iM,iq,jf,iS,jJ),(jo,kj,oW),(uN,sq,sr),(oC,nI,mD),kt,ic,mX,iV,ku,kN,su,rv):((Int×(Int×(Int×(Int×(Int×Int)))))×((Int×(Int×Int))×((aa×(aa×aa))×((aa×(aa×aa))×(aa×(aa×(aa×(aa×(aa×(aa×(aa×aa))))))))))))=>
 aD (cj jJ iS)
 ((c7 jJ (af su)).ae (fun k64=>
 (cA su (aJ 0 k64)).ae (fun ox=>
 aD (c6 ox iM)
 ((c7 jJ (af rv)).ae (fun k66=>
 (cA rv (aJ 0 k66)).ae (fun kJ=>
 (c7 mA (af ku)).ae (fun Xb=>
 (cA ku (aJ 0 Xb)).ae (fun tz=>
 ai su (
 ai rv (
 ai iV (
 ai su (
 ai kt (
 ai ic (
 ai mX (
 ai iV (
 (bn 0 (af ku) (af (bo ku (aJ 0 Xb) kJ))).ae (fun _=>
 ai kN (
 some (Sum.inl ((mA,iM,iq,jf,iS,bE .i64 jJ 1),(jo,kj,oW),(uN,sq,sr),(oC,nI,mD),kt,ic,mX,iV,bo ku (aJ 0 Xb) kJ,kN,su,rv)))))))))))))))))
 (ai su (
 ai rv (
 ai iV (
 ai su (
 ai kt (
 ai ic (
 ai mX (
 ai iV (
 ai ku (
 ai kN (
 some (Sum.inl ((mA,iM,iq,jf,iS,bE .i64 jJ 1),(jo,kj,oW),(uN,sq,sr),(oC,nI,mD),kt,ic,mX,iV,ku,kN,su,rv))))))))))))))))
 ((ai su (
 ai rv (
 ai iV (
 ai kt (
 ai ic (
 ai mX (
 ai iV (
 ai ku (
 ai kN (
 some (Sum.inl ((jf,iq),(jo,kj,oW),(uN,sq,sr),(oC,nI,mD),kt,ic,mX,iV,ku,kN,su,rv)))))))))))).ae (fun uQ=>
 some (Sum.inr uQ))))
 ((fD,iL,ff,fD,aW (af jq),(0:Int)),(gG,gL,gm),(iD,ia,kl),(iT,km,kL),iU,ko,ji,oZ,ru,iN,jq,lA))))))))))))))
 (fun((pW,tA),(nG,oy,nH),(G5,wq,l78),(wu,uR,uS),lC,oD,wv,DV,tE,sx,lS,p9)=>
 ai lS (
 ai p9 (
 ai DV (
 ai lC (
 ai oD (
 ai wv (
 ai DV (
 ai tE (
 ai sx (
 some (Sum.inl ((tA,bE .i64 pW 1),(nG,oy,nH),(G5,wq,l78),(wu,uR,uS),lC,oD,wv,DV,tE,sx,lS,p9)))))))))))))
 ((ai jq (
 ai lA (
 ai iU (
 ai ko (
 ai ji (
 ai oZ (
 ai ru (
 ai iN (
 some (Sum.inl ((gG,gL,gm),(iD,ia,kl),(iT,km,kL),iU,ko,ji,oZ,ru,iN,jq,lA))))))))))).ae (fun DW=>
 some (Sum.inr DW))))
 ((aW (af gA),(0:Int)),(i0,i1,i2),(l3,l4,l5),(l6,l7,l8),([]:aa),([]:aa),([]:aa),gA,dU Kl (0:Int),([]:aa),dO,dG)))))))))))
 (fun((xK,Bq,uI),(BC,G6,DX),(wz,xX,zz),GR,Bx,xR,Qh,xS,Kt,sk,Bz)=>
 (bZ Qh 0 (af Qh)).ae (fun Qi=>
 (bZ xS 0 (af xS)).ae (fun GS=>
 (bZ Kt 0 (af Kt)).ae (fun Xe=>
 (Ae (Qi,GS,Xe)).ae (fun wb=>
 aD (c6 wb ((-1:Int)))
 (some ((([]:aa),([]:aa),([]:aa)),false))
 ((E4 (xK,Bq,uI)).ae (fun Xf=>
 (bZ Qh 0 (af Qh)).ae (fun DQ=>
 (bZ xS 0 (af xS)).ae (fun GU=>
 (bZ Xf 0 (af Xf)).ae (fun Qj=>
 (EU ((xK,Bq,uI),DQ,GU,Qj)).ae (fun(wm,zu,sn)=>
 (bZ sk 0 (af sk)).ae (fun xT=>
 (t9 ((BC,G6,DX),xT)).ae (fun DR=>
 (bZ sk 0 (af sk)).ae (fun avx=>
 (t9 ((wz,xX,zz),avx)).ae (fun Qk=>
 (bZ wm 0 (af wm)).ae (fun Xg=>
 (bZ zu 0 (af zu)).ae (fun Xh=>
 (bZ sn 0 (af sn)).ae (fun Xi=>
 (bZ sk 0 (af sk)).ae (fun Xj=>
 (t9 ((Xg,Xh,Xi),Xj)).ae (fun Ql=>
 (mE (aW (af sk)) (aW (af sk)) 8).ae (fun WV=>
 (rK (xK,Bq,uI)).ae (fun xG=>
 (mE xG xG 8).ae (fun WW=>
 ai Bz (
 ai DR (
 ai Qk (
 ai Ql (
 (bn 0 WV (af (dU WV (0:Int)))).ae (fun _=>
 (bn 0 WW (af (dU WW (0:Int)))).ae (fun _=>
 ai GR (
 ai Bx (
 ai xR (
 ai wm (
 ai zu (
 ai sn (
 cq NN (fun(((zk,tx,xH),(zv,Qn,agC),(GV,agD,agE),DT,Qo,Qp,BA,zw,zx,GW,Qq,GX,Qr,uM,xU):((Int×(Int×Int))×((aa×(aa×aa))×((aa×(aa×aa))×(aa×(aa×(aa×(aa×(aa×(aa×(aa×(aa×(aa×(aa×(aa×aa)))))))))))))))=>
 (bZ Qq 0 (af Qq)).ae (fun GY=>
 (bZ uM 0 (af uM)).ae (fun Ku=>
 (vu (GY,Ku)).ae (fun Ka=>
 (sQ ((zk,tx,xH),(zv,Qn,agC),Ka)).ae (fun avy=>
 (bZ GX 0 (af GX)).ae (fun GZ=>
 (bZ uM 0 (af uM)).ae (fun avz=>
 (vu (GZ,avz)).ae (fun Kc=>
 (sQ ((zk,tx,xH),(GV,agD,agE),Kc)).ae (fun Xk=>
 ai xU (
 (EZ ((zk,tx,xH),xU,avy,Xk)).ae (fun Xl=>
 (bZ Qr 0 (af Qr)).ae (fun avA=>
 (bZ uM 0 (af uM)).ae (fun Xn=>
 (vu (avA,Xn)).ae (fun Kd=>
 (bZ BA 0 (af BA)).ae (fun Xo=>
 (bZ zw 0 (af zw)).ae (fun Xp=>
 ai zx (
 (Cw ((zk,tx,xH),(Xo,Xp,zx),Kd)).ae (fun(Wt,Wu)=>
 (kw Wt Wu (af zx)).ae (fun(Qd,agz)=>
 (cA zx Qd).ae (fun af3=>
 (bZ zx Qd agz).ae (fun avD=>
 ai zx (
 (bZ Xl 0 (af xU)).ae (fun Qs=>
 (Cs (aW Qd,aW (aJ Qd agz),(zk,tx,xH),zx,Qs)).ae (fun Kv=>
 (bZ GW 0 (af GW)).ae (fun Xq=>
 ai uM (
 (t7 (Xq,uM)).ae (fun(anJ,agH)=>
 aD (d9 anJ)
 (((dW BA (af BA)).ae (fun avE=>
 (dW zw (af zw)).ae (fun avF=>
 (dW Kv (af zx)).ae (fun Qt=>
 some ((avE,avF,Qt),true))))).ae (fun(((Qu,Qv,Xr),anK):((aa×(aa×aa))×Bool))=>
 some (Sum.inr ((Qu,Qv,Xr),anK))))
 (ai GW (
 ai Qq (
 ai GX (
 ai Qr (
 (bn 0 (af uM) (af agH)).ae (fun _=>
 (bn 0 (af xU) (af Xl)).ae (fun _=>
 ai DT (
 ai Qo (
 ai Qp (
 ai BA (
 ai zw (
 (bn 0 (af zx) (af Kv)).ae (fun _=>
 some (Sum.inl ((zk,tx,xH),(zv,Qn,agC),(GV,agD,agE),DT,Qo,Qp,BA,zw,Kv,GW,Qq,GX,Qr,agH,Xl))))))))))))))))))))))))))))))))))))))))))
 ((xK,Bq,uI),(BC,G6,DX),(wz,xX,zz),GR,Bx,xR,wm,zu,sn,Bz,DR,Qk,Ql,dU WV (0:Int),dU WW (0:Int))))))))))))))))))))))))))))))))))))))))))))))))))
def Co:((Int×(Int×Int))×((aa×(aa×aa))×((aa×(aa×aa))×aa)))->(Option ((aa×(aa×aa))×Bool)):=L5 aI
theorem apG (x:((Int×(Int×Int))×((aa×(aa×aa))×((aa×(aa×aa))×aa)))) (z:((aa×(aa×aa))×Bool)) (h:Co x=some z):L5 aI x=some z:=h
theorem atT {a b:aa} (ha:a.Nodup) (hb:b.Nodup):(jL a b).Nodup:=by
 unfold jL;rw[zbF];refine⟨ha,hb.filter _,fun x hx y hy=>?_⟩;have:=(zaZ.1 hy).2;intro e;subst e;simp[hx] at this
theorem agw {a b:aa}:∀v∈a,v∈jL a b:=fun v hv=>za6 _ hv
theorem atU {a b:aa}:∀v∈b,v∈jL a b:=fun v hv=>by
 by_cases h:v∈a
 ·exact agw v h
 ·exact zaO _ (zaZ.2 ⟨hv,by simp[h]⟩)
structure Sub (L D J DJ:aa):Prop where
 nL:L.Nodup
 nJ:J.Nodup
 s:∀v∈L,v∈J
 l:L.length=D.length
 lJ:DJ.length=J.length
 d:∀i,i<L.length->DJ.getD (bS J (L.getD i 0)) 0=D.getD i 0
 pos:∀x∈DJ,1<=x
theorem Sub.lt {L D J DJ:aa} (h:Sub L D J DJ) (k:Nat):kB L D J (bV DJ k)<aL D:=by
 have hl:(bV DJ k).length=J.length:=by unfold bV;rw[dV,h.lJ]
 rw[OX h.nL h.nJ h.s h.l hl];refine aza fun i hi=>?_;have fA:i<L.length:=by have:=h.l;omega
 have hp:bS J (L.getD i 0)<DJ.length:=by rw[h.lJ];exact qb (h.s _ (gS fA))
 have e:(L.map (jU J (bV DJ k))).getD i 0=fM DJ k (bS J (L.getD i 0)):=by
  rw[zaa,zaB,jb fA];exact zq hp
 rw[e,<-h.d i fA];unfold fM;rw[zac];refine zay _ ?_;have:=h.pos _ (gS hp);omega
def pK (A B:aa) (oa ob oc:Nat->Nat) (n k:Nat):Int:=sm k fun j=>if oc j=n then A.getD (oa j) 0*B.getD (ob j) 0 else 0
theorem aDA (p:Int):LS (2,p,0)=[0]:=rfl
theorem axq (p a b:Int):rz (2,p,0) [a] [b]=[a*b%p]:=rfl
theorem adg {p a:Int} (h:fx p a):pN (2,p,0) [a]=true:=by
 have e:pN (2,p,0) [a]=(wi (p - 1) a&&true):=rfl;rw[e,zbj];exact decide_eq_true ⟨h.1,by have:=h.2;omega⟩
theorem agf {p:Int} {A:aa} (h:∀x∈A,wi (gf (2,p,0)) x=true):eZ p A:=fun x hx=>by
 have:=of_decide_eq_true (h x hx);have e:gf (2,p,0)=p - 1:=rfl;rw[e] at this;exact⟨this.1,by have:=this.2;omega⟩
theorem ae8 {p:Int} {A:aa} (h:eZ p A) {i:Nat} (hi:i<A.length):fx p (A.getD i 0):=h _ (gS hi)
theorem alI {A:aa} {i:Nat} (hi:i<A.length):lZ A (i*1) 1=[A.getD i 0]:=by
 unfold lZ;rw[zam,zak hi,zaa,zab hi];rfl
theorem amQ {α:Type} {xs:List α} {lo n:Nat} (h:lo+n<=af xs):bZ xs lo n=some ((xs.drop lo).take n):=if_pos h
theorem aCP {α:Type} {xs:List α} {n:Nat} (h:xs.length=n):dW xs n=some xs:=by
 subst h;exact iO xs
theorem US {l:aa} {f:Int->Int} {i:Nat} (hi:i<l.length):(l.map f).getD i 0=f (l.getD i 0):=by
 rw[zaa,zaB,jb hi];rfl
def rQ (J DS S:aa) (k i q:Nat):Int:=if q<k\/(q=k/\bS J (S.getD k 0)<i) then DS.getD q 0 else 0
set_option maxHeartbeats 4000000 in
theorem aot {p:Int} {La Da A Lb Db Bd fu J DJ S DS:aa} (ha:gB (2,p,0) (La,Da,A)=true) (hb:gB (2,p,0) (Lb,Db,Bd)=true)
  (hc:∀v,v∈La->v∈Lb->Da.getD (bS La v) 0=Db.getD (bS Lb v) 0) (hJ:jL La Lb=J) (Ga:J.map (jd La Da Lb Db)=DJ) (arF:J.length<=12) (hP:aL DJ<=65536) (hk:fu.length<=1000)
  (hS:(J.filter fun x=>decide (x∈fu))=S) (Jr:S.map (jd La Da Lb Db)=DS) (nq:oN S DS=true) (AV:aL DS<=4096):
  Co ((2,p,0),(La,Da,A),(Lb,Db,Bd),fu)=some ((S,DS,bB (aL DS) (fun n=>pK A Bd (fun k=>kB La Da J (bV DJ k)) (fun k=>kB Lb Db J (bV DJ k)) (fun k=>kB S DS J (bV DJ k)) n (aL DJ)%p)),true)/\
   Sub La Da J DJ/\Sub Lb Db J DJ/\Sub S DS J DJ:=by
 obtain⟨xz,⟨a12,ad⟩,hta,⟨On,Oo⟩,hA,aG,aT⟩:=zZ ha;obtain⟨hrb,⟨Tv,bd⟩,htb,⟨bp1,bp2⟩,hB,bG,bT⟩:=zZ hb;rw[show cI (2,p,0)=1 from rfl,zam] at hA hB
 have To:=(zY ha).1;have TE:=(zY hb).1;have na:=Ow To;have nb:=Ow TE;have lea:=(rP To).2.1;have leb:=(rP TE).2.1;have nJ:J.Nodup:=by rw[<-hJ];exact atT na nb
 have sa:∀v∈La,v∈J:=by rw[<-hJ];exact agw
 have sb:∀v∈Lb,v∈J:=by rw[<-hJ];exact atU
 have cf:dz p=true:=by
  have h:=xz;have e:j5 (2,p,0)=(dz p&&decide ((0:Int)=0)):=rfl;rw[e] at h;simpa using h
 have hm:=gn cf;have pT:=hm.1;have hm3:=hm.2;have aP:=agf (zaE.1 aT.2.2);have bP:=agf (zaE.1 bT.2.2);have Kx:DJ.length=J.length:=by rw[<-Ga,zaN]
 have jda:∀i,i<La.length->jd La Da Lb Db (La.getD i 0)=Da.getD i 0:=fun i hi=>by
  unfold jd;rw[rC na hi,if_pos hi]
 have jdb:∀i,i<Lb.length->jd La Da Lb Db (Lb.getD i 0)=Db.getD i 0:=fun i hi=>by
  unfold jd;by_cases h:Lb.getD i 0∈La
  ·rw[if_pos (qb h),hc _ h (gS hi),rC nb hi]
  ·rw[if_neg (fun q=>h (zJ.1 q)),rC nb hi]
 have jdd:∀v∈J,1<=jd La Da Lb Db v/\jd La Da Lb Db v<=8:=fun v hv=>by
  rw[<-hJ] at hv;rcases agx hv with h|h
  ·have:=jda (bS La v) (qb h);rw[Hx h] at this;rw[this];exact ad _ (gS (by have:=qb h;omega))
  ·have:=jdb (bS Lb v) (qb h);rw[Hx h] at this;rw[this];exact bd _ (gS (by have:=qb h;omega))
 have AE:∀x∈DJ,1<=x/\x<=8:=fun x hx=>by
  rw[<-Ga] at hx;obtain⟨v,hv,rfl⟩:=zaH.1 hx;exact jdd v hv
 have Pw:∀v,v∈J->DJ.getD (bS J v) 0=jd La Da Lb Db v:=fun v hv=>by
  rw[<-Ga,US (qb hv),Hx hv]
 have sS:∀v∈S,v∈J:=fun v hv=>by rw[<-hS] at hv;exact(zaZ.1 hv).1
 have nS:S.Nodup:=by rw[<-hS];exact nJ.filter _
 have leS:S.length=DS.length:=by rw[<-Jr,zaN]
 have aaW:Sub La Da J DJ:=⟨na,nJ,sa,lea,Kx,fun i hi=>by rw[Pw _ (sa _ (gS hi)),jda i hi],fun x hx=>(AE x hx).1⟩;have aaX:Sub Lb Db J DJ:=⟨nb,nJ,sb,leb,Kx,fun i hi=>by rw[Pw _ (sb _ (gS hi)),jdb i hi],fun x hx=>(AE x hx).1⟩;have aaY:Sub S DS J DJ:=⟨nS,nJ,sS,leS,Kx,fun i hi=>by rw[Pw _ (sS _ (gS hi)),<-Jr,US hi],fun x hx=>(AE x hx).1⟩;refine⟨?_,aaW,aaX,aaY⟩;have aEd:S.length<=12:=(rP nq).1;have dS:=CP nq;have nJl:J.length<=12:=arF;simp only[Co,L5,ai];rw[show oM ((2,p,0),La,Da,A)=some (gB (2,p,0) (La,Da,A)) from if_pos ⟨by dsimp only;omega,by dsimp only;omega,by dsimp only;omega⟩,ha]
 try simp only[bc]
 rw[show d9 true=false from rfl,nZ,show oM ((2,p,0),Lb,Db,Bd)=some (gB (2,p,0) (Lb,Db,Bd)) from if_pos ⟨by dsimp only;omega,by dsimp only;omega,by dsimp only;omega⟩,hb]
 try simp only[bc]
 rw[show d9 true=false from rfl,nZ,atW lea leb (by omega) (by omega) hc,hJ,Ga]
 try simp only[bc,dj]
 rw[show d9 true=false from rfl,nZ,show Ah DJ=some (eH DJ) from if_pos ⟨by omega,AE⟩,x7 fun x hx=>(AE x hx).1]
 try simp only[bc,dj]
 rw[bh (dL (by omega)),avv J fu (by omega) hk,hS]
 try simp only[bc,dj,bF]
 rw[x3 (by simp only[af,fo];omega)]
 try simp only[bc,bF]
 rw[show bn 0 0 (af ([]:aa))=some () from rfl,show bn 0 (af S) (af (dU (af S) (0:Int)))=some () from vQ (by simp[af,dU])]
 try simp only[bc,bF]
 rw[eJ (fun k=>(((S.length:Int),(k:Int)),(2,p,0),(La,Da,A),(Lb,Db,Bd),([]:aa),([]:aa),([]:aa),S,bB S.length (rQ J DS S k 0),([]:aa),J,DJ)) S.length ?a1 ?a2 ?a3 (dt (by omega))]
 case a1=>
  intro k dg;dsimp only
  rw[bk (dY (by omega)),pI (by show k<S.length;omega)]
  try simp only[bc]
  rw[gE,show cA S k=some (S.getD k 0) from jb dg]
  try simp only[bc,bF]
  have gU:=qb (sS _ (gS dg));rw[eJ (fun i=>(((k:Int),S.getD k 0,(S.length:Int),(k:Int),(J.length:Int),(i:Int)),(2,p,0),(La,Da,A),(Lb,Db,Bd),([]:aa),([]:aa),([]:aa),S,bB S.length (rQ J DS S k i),([]:aa),J,DJ)) J.length ?b1 ?b2 ?b3 (dt (by omega))]
  case b1=>
   intro i hi;dsimp only
   rw[bk (dY (by omega)),pI (by show i<J.length;omega)]
   try simp only[bc]
   rw[gE,show cA J i=some (J.getD i 0) from jb hi]
   try simp only[bc]
   by_cases hv:J.getD i 0=S.getD k 0
   ·have fO:bS J (S.getD k 0)=i:=by rw[<-hv];exact rC nJ hi
    rw[bk (td hv),pI (by show i<DJ.length;omega)]
    try simp only[bc]
    rw[gE,show cA DJ i=some (DJ.getD i 0) from jb (by omega)]
    try simp only[bc]
    rw[s7 _ dg]
    try simp only[bc]
    rw[gE,qw _ dg]
    try simp only[bc]
    have xB:bo (bB S.length (rQ J DS S k i)) k (DJ.getD i 0)=bB S.length (rQ J DS S k (i+1)):=by
     rw[yf];refine gQ fun q hq=>?_;unfold rQ;by_cases e:q=k
     ·subst e;rw[if_pos rfl,if_pos (.inr ⟨rfl,by omega⟩),<-Jr,US hq,<-Pw _ (sS _ (gS hq)),fO]
     ·rw[if_neg e];exact WB ⟨fun h=>h.imp id fun h=>absurd h.1 e,fun h=>h.imp id fun h=>absurd h.1 e⟩ _ _
    rw[xB,nj]
    try simp only[bc,bF]
    rw[fq (by omega)]
   ·rw[bh (qZ hv)]
    try simp only[bc,bF]
    rw[fq (by omega)];have:bB S.length (rQ J DS S k i)=bB S.length (rQ J DS S k (i+1)):=gQ fun q hq=>by
     unfold rQ;refine WB ⟨fun h=>h.imp id fun h=>⟨h.1,by omega⟩,fun h=>h.imp id fun h=>⟨h.1,?_⟩⟩ _ _;have aR:bS J (S.getD k 0)≠i:=fun e=>hv (by rw[<-e];exact Hx (sS _ (gS dg)));have:=h.2;omega
    rw[this]
  case b2=>
   dsimp only
   rw[bh (dL (by omega))]
   try simp only[bc,bF]
   try rfl
  case b3=>rfl
  simp only[ct,Option.bind]
  try simp only[bc,bF]
  rw[fq (by omega)];have:bB S.length (rQ J DS S k J.length)=bB S.length (rQ J DS S (k+1) 0):=gQ fun q hq=>by
   unfold rQ;exact WB ⟨fun h=>.inl (by rcases h with h|h<;>omega),fun h=>by
    rcases h with h|h
    ·by_cases e:q=k
     ·exact .inr ⟨e,gU⟩
     ·exact .inl (by omega)
    ·omega⟩ _ _
  rw[this]
 case a2=>
  dsimp only
  rw[bh (dL (by omega))]
  try simp only[bc,bF]
  try rfl
 case a3=>
  rw[K3];have:bB (af S) (fun _=>(0:Int))=bB S.length (rQ J DS S 0 0):=gQ fun q _=>by
   unfold rQ;rw[if_neg (by omega)]
  rw[this];rfl
 have PQ:bB S.length (rQ J DS S S.length 0)=DS:=by
  refine yL (by rw[dV];exact leS) fun q hq=>?_;rw[dV] at hq;rw[zaa,lD _ hq];exact if_pos (.inl hq)
 rw[PQ];simp only[ct,Option.bind]
 try simp only[bc,dj]
 have arK:=x7 (D:=DS) fun x hx=>(dS x hx).1;have aDG:1<=aL DS:=BU fun x hx=>(dS x hx).1;rw[show Ae (S,DS,([]:aa))=some (kx S DS) from if_pos ⟨by show S.length<=_;omega,by show DS.length<=_;omega⟩,show kx S DS=eH DS from if_pos ⟨nq,by omega⟩,arK]
 try simp only[bc,dj]
 rw[bh (qZ (by omega)),show E4 (2,p,0)=some (LS (2,p,0)) from if_pos xz,aDA]
 try simp only[bc,dj]
 rw[ara 0 (by omega) (by omega) dS (by omega)]
 try simp only[bc,dj]
 rw[show t9 ((La,Da,A),J)=some (qf La Da J) from if_pos ⟨To,by show J.length<=_;omega,Oo⟩]
 try simp only[bc,dj]
 rw[show t9 ((Lb,Db,Bd),J)=some (qf Lb Db J) from if_pos ⟨TE,by show J.length<=_;omega,bp2⟩]
 try simp only[bc,dj]
 rw[show t9 ((S,DS,bB (aL DS) fun _=>(0:Int)),J)=some (qf S DS J) from if_pos ⟨nq,by show J.length<=_;omega,AV⟩]
 try simp only[bc,dj]
 rw[x3 (by simp only[af,fo];omega)]
 try simp only[bc,dj]
 rw[show rK (2,p,0)=some 1 from rfl]
 try simp only[bc,dj]
 rw[show mE (1:Int) 1 8=some 1 from rfl]
 try simp only[bc,bF]
 rw[show bn 0 (af J) (af (dU (af J) (0:Int)))=some () from vQ (by simp[af,dU]),show bn 0 1 (af (dU 1 (0:Int)))=some () from rfl]
 try simp only[bc,bF]
 have aDF:1<=aL DJ:=BU fun x hx=>(AE x hx).1;have hxI:jC DJ:=⟨by omega,fun x hx=>by have:=AE x hx;omega⟩;have aaj:∀{L D:aa},aL D<=4096->(∀x∈D,1<=x/\x<=8)->Sub L D J DJ->∀k,vu (qf L D J,bV DJ k)=some ((kB L D J (bV DJ k):Nat):Int):=fun{L D} h1 h2 hs k=>by
  have hD:jC D:=⟨by have:=hs.l;have:=List.Nodup.length_le_of_subset hs.nL (l₂:=J) hs.s;omega,fun x hx=>by have:=h2 x hx;omega⟩;refine if_pos ⟨⟨by show(bB J.length _).length<=24;rw[dV];omega,fun x hx=>?_⟩,⟨by unfold bV;rw[dV];omega,fun x hx=>?_⟩,by unfold qf bV;rw[dV,dV,Kx]⟩
  ·obtain⟨i,hi,rfl⟩:=zaH.1 hx
   try dsimp only
   split
   ·rename_i h;have:=abb hD (i:=bS L (J.getD i 0)+1) (by have:=hs.l;omega);omega
   ·omega
  ·obtain⟨i,hi,rfl⟩:=zaH.1 hx;have hi:=zaA.1 hi;have:=AE _ (gS (l:=DJ) hi);have h3:(DJ.getD i 0).toNat<=8:=by omega
   have h4:=zay (k/bQ DJ (i+1)) (show(DJ.getD i 0).toNat>0 by omega);unfold fM;omega
 have oa:∀k,kB La Da J (bV DJ k)<A.length:=fun k=>by rw[hA];exact aaW.lt k
 have ob:∀k,kB Lb Db J (bV DJ k)<Bd.length:=fun k=>by rw[hB];exact aaX.lt k
 have oc:∀k,kB S DS J (bV DJ k)<aL DS:=fun k=>aaY.lt k;have da:=aaj Oo ad aaW;have db:=aaj bp2 bd aaX;have dc:=aaj AV dS aaY;have hA1:A.length<=4096:=by omega
 have hB1:Bd.length<=4096:=by omega
 have ga:∀k,fx p (A.getD (kB La Da J (bV DJ k)) 0):=fun k=>ae8 aP (oa k);have gb:∀k,fx p (Bd.getD (kB Lb Db J (bV DJ k)) 0):=fun k=>ae8 bP (ob k);generalize hoa:(fun k=>kB La Da J (bV DJ k))=fa;generalize hob:(fun k=>kB Lb Db J (bV DJ k))=fb;generalize hoc:(fun k=>kB S DS J (bV DJ k))=fc;have eoa:∀k,kB La Da J (bV DJ k)=fa k:=fun k=>by rw[<-hoa]
 have eob:∀k,kB Lb Db J (bV DJ k)=fb k:=fun k=>by rw[<-hob]
 have eoc:∀k,kB S DS J (bV DJ k)=fc k:=fun k=>by rw[<-hoc]
 simp only[eoa] at da oa ga;simp only[eob] at db ob gb;simp only[eoc] at dc oc;have xw:∀k,k<aL DJ->t7 (DJ,bV DJ k)=some (decide (k+1<aL DJ),bV DJ (k+1)):=fun k dg=>by
  have e:jO DJ (bV DJ k) DJ.length=k:=Hq hxI dg;have:=show t7 (DJ,bV DJ k)=_ from if_pos ⟨hxI,by rw[e],by rw[e];exact dg,by show aL DJ<=1048576;omega⟩
  rw[this,e]
 have zf:∀k n,n<aL DS->pK A Bd fa fb fc n (k+1)%p=if n=fc k then(pK A Bd fa fb fc n k%p+A.getD (fa k) 0*Bd.getD (fb k) 0%p)%p else pK A Bd fa fb fc n k%p:=fun k n _=>by
  show(pK A Bd fa fb fc n k+(if fc k=n then _ else 0))%p=_
  by_cases e:n=fc k
  ·rw[if_pos e.symm,if_pos e,<-zbI]
  ·rw[if_neg (Ne.symm e),if_neg e,zbN]
 have gU:∀n k,fx p (pK A Bd fa fb fc n k%p):=fun n k=>uj hm _;have JV:∀k,∀(x:Int),(vu (qf La Da J,bV DJ k)=some ((fa k:Nat):Int))/\(sQ ((2,p,0),(La,Da,A),((fa k:Nat):Int))=some [A.getD (fa k) 0])/\
   (sQ ((2,p,0),(Lb,Db,Bd),((fb k:Nat):Int))=some [Bd.getD (fb k) 0])/\(EZ ((2,p,0),[x],[A.getD (fa k) 0],[Bd.getD (fb k) 0])=some [A.getD (fa k) 0*Bd.getD (fb k) 0%p])/\
   (∀c:aa,c.length=aL DS->Cw ((2,p,0),(S,DS,c),((fc k:Nat):Int))=some (((fc k:Nat):Int),((fc k+1:Nat):Int))):=by
  intro k x;have h1:=oa k;have h2:=ob k;have h3:=oc k;refine⟨da k,?_,?_,?_,fun c di=>?_⟩
  ·have:=show sQ ((2,p,0),(La,Da,A),((fa k:Nat):Int))=_ from if_pos ⟨xz,by show(0:Int)<=((fa k:Nat):Int);omega,by show(((fa k:Nat):Int).toNat+1)*1<=A.length;rw[zac];omega,by show A.length<=_;omega⟩
   rw[this];show some (lZ A (((fa k:Nat):Int).toNat*1) 1)=_;rw[zac,alI h1]
  ·have:=show sQ ((2,p,0),(Lb,Db,Bd),((fb k:Nat):Int))=_ from if_pos ⟨xz,by show(0:Int)<=((fb k:Nat):Int);omega,by show(((fb k:Nat):Int).toNat+1)*1<=Bd.length;rw[zac];omega,by show Bd.length<=_;omega⟩
   rw[this];show some (lZ Bd (((fb k:Nat):Int).toNat*1) 1)=_;rw[zac,alI h2]
  ·rw[<-axq];exact if_pos ⟨xz,rfl,adg (ga k),adg (gb k)⟩
  ·have:=show Cw ((2,p,0),(S,DS,c),((fc k:Nat):Int))=_ from if_pos ⟨xz,by show(0:Int)<=((fc k:Nat):Int);omega,by show(((fc k:Nat):Int).toNat+1)*1<=c.length;rw[zac];omega,by show c.length<=_;omega⟩
   rw[this];show some (((((fc k:Nat):Int).toNat*1:Nat):Int),(((((fc k:Nat):Int).toNat+1)*1:Nat):Int))=_;rw[zac,zam,zam]
 have rl:∀k,Cs (((fc k:Nat):Int),((fc k+1:Nat):Int),(2,p,0),bB (aL DS) (fun n=>pK A Bd fa fb fc n k%p),[A.getD (fa k) 0*Bd.getD (fb k) 0%p])=some (bB (aL DS) (fun n=>pK A Bd fa fb fc n (k+1)%p)):=by
  intro k;have h3:=oc k;have hg:(bB (aL DS) (fun n=>pK A Bd fa fb fc n k%p)).getD (fc k) 0=pK A Bd fa fb fc (fc k) k%p:=by
   rw[zaa,lD _ h3];rfl
  have i1:=gU (fc k) k;have i2:fx p (A.getD (fa k) 0*Bd.getD (fb k) 0%p):=uj hm _;unfold fx at i1 i2;rw[ani (by rw[dV];exact h3) (by rw[dV];omega) (by omega) (by rw[hg];omega) (by omega),hg,yf];congr 1;refine gQ fun n hn=>?_;rw[zf k n hn];by_cases e:n=fc k
  ·rw[if_pos e,if_pos e,e]
  ·rw[if_neg e,if_neg e]
 have aDJ:True:=trivial;rw[eJ (fun k=>((2,p,0),(La,Da,A),(Lb,Db,Bd),([]:aa),([]:aa),([]:aa),S,DS,bB (aL DS) (fun n=>pK A Bd fa fb fc n k%p),DJ,qf La Da J,qf Lb Db J,qf S DS J,bV DJ k,[if k=0 then 0 else A.getD (fa (k - 1)) 0*Bd.getD (fb (k - 1)) 0%p])) (aL DJ - 1) ?c1 ?c2 ?c3 (dt (by omega))]
 case c1=>
  intro k dg;dsimp only
  obtain⟨r1,r2,r3,r4,r5⟩:=JV k (if k=0 then 0 else A.getD (fa (k - 1)) 0*Bd.getD (fb (k - 1)) 0%p)
  try simp only[bc,dj,bF]
  rw[r1]
  try simp only[bc,dj,bF]
  rw[r2]
  try simp only[bc,dj,bF]
  rw[db k]
  try simp only[bc,dj,bF]
  rw[r3]
  try simp only[bc,dj,bF]
  rw[r4]
  try simp only[bc,dj,bF]
  rw[dc k]
  try simp only[bc,dj,bF]
  rw[r5 _ (dV _ _)]
  try simp only[bc,dj,bF]
  have h3:=oc k;rw[aau (by omega) (by rw[nM];omega)]
  try simp only[bc]
  rw[show fc k+1 - fc k=1 by omega,qw _ h3]
  try simp only[bc]
  rw[amQ (by rw[nM];omega)]
  try simp only[bc]
  rw[show af [if k=0 then 0 else A.getD (fa (k - 1)) 0*Bd.getD (fb (k - 1)) 0%p]=1 from rfl,Cg]
  try simp only[bc]
  rw[show aW (fc k)=((fc k:Nat):Int) from rfl,show aW (aJ (fc k) 1)=((fc k+1:Nat):Int) from rfl,rl k]
  try simp only[bc,dj,bF]
  rw[xw k (by omega)]
  try simp only[bc]
  rw[decide_eq_true (show k+1<aL DJ by omega),show d9 true=false from rfl,nZ,nj]
  try simp only[bc,bF]
  rw[show bn 0 (af (bV DJ k)) (af (bV DJ (k+1)))=some () from nj _ _ _,show bn 0 1 (af [A.getD (fa k) 0*Bd.getD (fb k) 0%p])=some () from rfl]
  try simp only[bc]
  rw[if_neg (show k+1≠0 by omega),Nat.add_sub_cancel]
 case c2=>
  dsimp only
  obtain⟨k,dg⟩:∃k,aL DJ=k+1:=⟨aL DJ - 1,by omega⟩;rw[show aL DJ - 1=k by omega];obtain⟨r1,r2,r3,r4,r5⟩:=JV k (if k=0 then 0 else A.getD (fa (k - 1)) 0*Bd.getD (fb (k - 1)) 0%p)
  try simp only[bc,dj,bF]
  rw[r1]
  try simp only[bc,dj,bF]
  rw[r2]
  try simp only[bc,dj,bF]
  rw[db k]
  try simp only[bc,dj,bF]
  rw[r3]
  try simp only[bc,dj,bF]
  rw[r4]
  try simp only[bc,dj,bF]
  rw[dc k]
  try simp only[bc,dj,bF]
  rw[r5 _ (dV _ _)]
  try simp only[bc,dj,bF]
  have h3:=oc k;rw[aau (by omega) (by rw[nM];omega)]
  try simp only[bc]
  rw[show fc k+1 - fc k=1 by omega,qw _ h3]
  try simp only[bc]
  rw[amQ (by rw[nM];omega)]
  try simp only[bc]
  rw[show af [if k=0 then 0 else A.getD (fa (k - 1)) 0*Bd.getD (fb (k - 1)) 0%p]=1 from rfl,Cg]
  try simp only[bc]
  rw[show aW (fc k)=((fc k:Nat):Int) from rfl,show aW (aJ (fc k) 1)=((fc k+1:Nat):Int) from rfl,rl k]
  try simp only[bc,dj,bF]
  rw[xw k (by omega)]
  try simp only[bc]
  rw[decide_eq_false (show¬k+1<aL DJ by omega),show d9 false=true from rfl,s9]
  try simp only[iO,bc]
  rw[show dW (bB (aL DS) fun n=>pK A Bd fa fb fc n (k+1)%p) (af (bB (aL DS) fun n=>pK A Bd fa fb fc n k%p))=some (bB (aL DS) fun n=>pK A Bd fa fb fc n (k+1)%p) from aCP (by rw[nM,dV])]
  try simp only[bc]
  rw[<-dg]
  try rfl
 case c3=>
  rw[K3];have e0:bV DJ 0=bB (af J) fun _=>0:=by
   unfold bV;rw[Kx];refine gQ fun i _=>?_;unfold fM;rw[Nat.zero_div,Nat.zero_mod];rfl
  rw[<-e0];have e1:(bB (aL DS) fun n=>pK A Bd fa fb fc n 0%p)=bB (aL DS) fun _=>0:=gQ fun n _=>by
   show(0:Int)%p=0;exact za7 p
  rw[e1];rfl
 try rfl
theorem alM (f:Nat->Int) (m:Nat):∀n,sm (m+n) f=sm m f+sm n (fun j=>f (m+j))
 |0=>by simp[sm]
 |n+1=>by
  show sm (m+n) f+f (m+n)=_;rw[alM f m n];simp only[sm];omega
theorem RD (b:Nat) (F:Nat->Int):∀a,sm (a*b) F=sm a (fun i=>sm b (fun j=>F (i*b+j)))
 |0=>by rw[zbt];rfl
 |a+1=>by
  rw[zat,zaT,alM,RD b F a];rfl
theorem ayY (H d T e:Nat) (F:Nat->Int):sm (H*d*T*e) F=sm H (fun u=>sm d (fun x=>sm T (fun w=>sm e (fun v=>F (((u*d+x)*T+w)*e+v))))):=by
 rw[RD,RD,RD]
theorem aAk {H d T e u0 w0 v0:Nat} {F:Nat->Nat->Nat->Nat->Int} (hu:u0<H) (hw:w0<T) (hv:v0<e) (h0:∀u x w v,u<H->x<d->w<T->v<e->¬(u=u0/\w=w0/\v=v0)->F u x w v=0):
  sm H (fun u=>sm d (fun x=>sm T (fun w=>sm e (fun v=>F u x w v))))=sm d (fun x=>F u0 x w0 v0):=by
 rw[vk (a:=u0) H hu fun u nB aR=>yj d fun x hx=>yj T fun w nD=>yj e fun v fH=>h0 u x w v nB hx nD fH fun h=>aR h.1];refine lE fun x hx=>?_;rw[vk (a:=w0) T hw fun w nD aR=>yj e fun v fH=>h0 u0 x w v hu hx nD fH fun h=>aR h.2.1];rw[vk (a:=v0) e hv fun v fH aR=>h0 u0 x w0 v hu hx hw fH fun h=>aR h.2.2]
theorem aou {T e u w v u0 w0 v0:Nat} (hw:w<T) (hv:v<e) (V4:w0<T) (v7:v0<e) (h:(u*T+w)*e+v=(u0*T+w0)*e+v0):u=u0/\w=w0/\v=v0:=by
 have h1:u*T+w=u0*T+w0:=by rw[<-qF (i:=u*T+w) hv,h,qF v7]
 have h2:v=v0:=by rw[<-rr (i:=u*T+w) hv,h,rr v7]
 exact⟨by rw[<-qF (i:=u) hw,h1,qF V4],by rw[<-rr (i:=u) hw,h1,rr V4],h2⟩
theorem ajf {l:aa} {k:Nat} (h:k<l.length):l=l.take k++l.getD k 0::l.drop (k+1):=by
 have e:l.drop k=l.getD k 0::l.drop (k+1):=by
  rw[zak h,zaa,zab h];rfl
 rw[<-e,zbo]
theorem aoI {S1 S2 I1 I2:aa} {a b x y:Int} (hn:(S1++a::S2++[b]).Nodup) (h1:I1.length=S1.length) (h2:I2.length=S2.length):
  S1.map (jU (S1++a::S2++[b]) (I1++x::I2++[y]))=I1/\jU (S1++a::S2++[b]) (I1++x::I2++[y]) a=x/\S2.map (jU (S1++a::S2++[b]) (I1++x::I2++[y]))=I2/\jU (S1++a::S2++[b]) (I1++x::I2++[y]) b=y:=by
 have h:=XG (J:=S1++a::S2++[b]) (I:=I1++x::I2++[y]) hn (by simp[h1,h2]);generalize jU (S1++a::S2++[b]) (I1++x::I2++[y])=f at h;rw[zar,zar,zav] at h;obtain⟨q1,q2⟩:=za0 h (by simp[h1,h2]);obtain⟨q3,q4⟩:=za0 q1 (by simp[h1]);injection q4 with q5 q6;injection q2 with q7 _;exact⟨q3,q5,q6,q7⟩
theorem T9 {S1 S2 I1 I2:aa} {a x:Int} (hn:(S1++a::S2).Nodup) (h1:I1.length=S1.length) (h2:I2.length=S2.length):
  S1.map (jU (S1++a::S2) (I1++x::I2))=I1/\jU (S1++a::S2) (I1++x::I2) a=x/\S2.map (jU (S1++a::S2) (I1++x::I2))=I2:=by
 have h:=XG (J:=S1++a::S2) (I:=I1++x::I2) hn (by simp[h1,h2]);generalize jU (S1++a::S2) (I1++x::I2)=f at h;rw[zar,zav] at h;obtain⟨q3,q4⟩:=za0 h (by simp[h1]);injection q4 with q5 q6;exact⟨q3,q5,q6⟩
theorem aoH {S1 S2 I1 I2:aa} {a x:Int} (hn:(S1++S2++[a]).Nodup) (h1:I1.length=S1.length) (h2:I2.length=S2.length):
  S1.map (jU (S1++S2++[a]) (I1++I2++[x]))=I1/\jU (S1++S2++[a]) (I1++I2++[x]) a=x/\S2.map (jU (S1++S2++[a]) (I1++I2++[x]))=I2:=by
 have h:=XG (J:=S1++S2++[a]) (I:=I1++I2++[x]) hn (by simp[h1,h2]);generalize jU (S1++S2++[a]) (I1++I2++[x])=f at h;rw[zar,zar] at h;obtain⟨q1,q2⟩:=za0 h (by simp[h1,h2]);obtain⟨q3,q4⟩:=za0 q1 (by simp[h1]);injection q2 with q7 _;exact⟨q3,q7,q4⟩
theorem agd {d x:Nat} (hx:x<d):bV [(d:Int)] x=[(x:Int)]:=by
 show[fM [(d:Int)] x 0]=_;unfold fM;rw[show bQ [(d:Int)] (0+1)=1 from rfl,zbB]
 show[((x%(d:Int).toNat:Nat):Int)]=_;rw[zac,Nat.mod_eq_of_lt hx]
theorem uZ (d:Nat):aL [(d:Int)]=d:=by
 show(d:Int).toNat*1=d;rw[zac,zam]
theorem WA {D1 D2:aa} {d u x w:Nat} (hx:x<d) (h2:0<aL D2) (hw:w<aL D2):bV (D1++(d:Int)::D2) ((u*d+x)*aL D2+w)=bV D1 u++(x:Int)::bV D2 w:=by
 have e1:D1++(d:Int)::D2=(D1++[(d:Int)])++D2:=by simp
 have e2:=Wz (D1:=D1) (D2:=[(d:Int)]) (U:=u) (w:=x) (by rw[uZ];omega) (by rw[uZ];exact hx);rw[uZ,agd hx] at e2;rw[e1,Wz h2 hw,e2];simp
theorem aBM (n:Nat):(dC n).Nodup:=by
 unfold dC bB;rw[zbd,List.pairwise_map];exact List.nodup_range.imp fun h e=>h (by exact_mod_cast e)
theorem alr {n:Nat} {v:Int}:v∈dC n↔0<=v/\v<n:=by
 unfold dC bB;rw[zaH];constructor
 ·rintro⟨i,hi,rfl⟩;have:=zaA.1 hi;omega
 ·intro h;exact⟨v.toNat,zaA.2 (by omega),by omega⟩
theorem Jg {l:aa} {P:Int->Bool} (h:∀v∈l,P v=true):l.filter P=l:=List.filter_eq_self.2 h
structure z9 (S1:aa) (a:Int) (S2:aa) (b:Int):Prop where
 nd:(S1++a::S2++[b]).Nodup
theorem z9.parts {S1 S2:aa} {a b:Int} (h:z9 S1 a S2 b):(S1++a::S2).Nodup/\(S1++S2++[b]).Nodup/\a∉S1/\a∉S2/\b∉S1/\b∉S2/\a≠b/\(S1++S2++[a]).Nodup:=by
 have h:=h.nd;simp only[zbF,List.nodup_cons,zaW,zbM,List.not_mem_nil,or_false,List.nodup_nil] at h⊢
 grind
theorem avt {S1 S2:aa} {a b:Int} (h:z9 S1 a S2 b):((S1++a::S2++[b]).filter fun x=>decide (x∈S1++S2++[b]))=S1++S2++[b]:=by
 obtain⟨_,_,h1,h2,h3,h4,h5,_⟩:=h.parts;rw[zaY,zaY,zaD (by simp;exact⟨h1,h2,h5⟩)];rw[Jg (l:=S1) fun v hv=>by simp[hv],Jg (l:=S2) fun v hv=>by simp[hv],Jg (l:=[b]) fun v hv=>by simp at hv;simp[hv]]
theorem aox {S1 S2:aa} {a b:Int} (h:z9 S1 a S2 b):((S1++a::S2).filter fun x=>decide (x≠a))=S1++S2:=by
 obtain⟨_,_,h1,h2,h3,h4,h5,_⟩:=h.parts;rw[zaY,zaD (by simp)];have e1:S1.filter (fun x=>decide (x≠a))=S1:=Jg fun v hv=>decide_eq_true fun e=>h1 (by rw[<-e];exact hv);have e2:S2.filter (fun x=>decide (x≠a))=S2:=Jg fun v hv=>decide_eq_true fun e=>h2 (by rw[<-e];exact hv);rw[e1,e2]
theorem atY {S1 S2:aa} {a b:Int} (h:z9 S1 a S2 b):jL (S1++a::S2) [b,a]=S1++a::S2++[b]:=by
 obtain⟨_,_,h1,h2,h3,h4,h5,_⟩:=h.parts;unfold jL;rw[zbl (by simp;exact⟨h3,Ne.symm h5,h4⟩),zaD (by simp)];rfl
theorem atV {S1 S2 D1 D2:aa} {a b d:Int} (h:z9 S1 a S2 b) (h1:D1.length=S1.length) (h2:D2.length=S2.length):
  S1.map (jd (S1++a::S2) (D1++d::D2) [b,a] [d,d])=D1/\jd (S1++a::S2) (D1++d::D2) [b,a] [d,d] a=d/\S2.map (jd (S1++a::S2) (D1++d::D2) [b,a] [d,d])=D2/\jd (S1++a::S2) (D1++d::D2) [b,a] [d,d] b=d:=by
 obtain⟨n1,_,q1,q2,q3,q4,q5,_⟩:=h.parts;obtain⟨e1,e2,e3⟩:=T9 (x:=d) n1 h1 h2;have cN:∀v∈S1++a::S2,jd (S1++a::S2) (D1++d::D2) [b,a] [d,d] v=jU (S1++a::S2) (D1++d::D2) v:=fun v hv=>if_pos (qb hv);refine⟨?_,?_,?_,?_⟩
 ·exact(zbC fun v hv=>cN v (za6 _ hv)).trans e1
 ·rw[cN a (zaO _ zbg)];exact e2
 ·refine(zbC fun v hv=>?_).trans e3;exact cN v (zaO _ (zaQ _ hv))
 ·unfold jd;rw[if_neg fun cC=>by
   have:=zJ.1 cC;rw[zaW,zbM] at this;rcases this with h|h|h
   ·exact q3 h
   ·exact q5 h.symm
   ·exact q4 h]
  have:bS [b,a] b=0:=by
   unfold bS;rw[List.findIdx_cons];simp
  rw[this];rfl
theorem ac6 {a b:aa} (h:jC (a++b)):jC a:=⟨by have:=h.1;rw[zae] at this;omega,fun x hx=>h.2 x (za6 _ hx)⟩
theorem ac7 {a b:aa} {y:Int} (h:jC (a++y::b)):jC b:=⟨by have:=h.1;rw[zae,zag] at this;omega,fun x hx=>h.2 x (zaO _ (zaQ _ hx))⟩
end Go.Am
