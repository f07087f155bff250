/- M85, L_FnChainGates, Br1, Br2, WT: parts of the proof. No condition. -/
import Derived.Test.YtnndpobalfaalaaGreatM84
import Derived.Test.YtnndpobalfaalaaGreatM64
import GoSem.ClaimChange
import Derived.ChangeReads
import Derived.ReadAgain
import Derived.ChangeSame
import Derived.WalkKit
import Derived.ProofKit
import Derived.OpenShut
set_option linter.unusedVariables false
set_option linter.unusedSimpArgs false
open Int renaming toNat_natCast->zaa
open List renaming map_append->zab,getD_eq_getElem?_getD->zac,not_mem_nil->zad,mem_append->zae,mem_cons->zaf,length_append->zag,map_cons->zai,mem_cons_of_mem->zal,mem_append_right->zam,length_take->zaq,map_nil->zat,append_nil->zav,mem_append_left->zaw,map_congr_left->zax,getElem?_range->zay,getElem?_ofFn->zaz,length_range->zaA,getElem?_map->zaB,length_cons->zaD,length_drop->zaE,mapM_cons->zaG,map_id->zaJ
open Nat renaming mul_assoc->zah,mul_le_mul->zaj,eq_zero_or_pos->zao,zero_mul->zas,mul_comm->zaC,mul_zero->zaH,le_trans->zaI
open Classical renaming choose_spec->zak
open Bool renaming and_eq_true->zan
open Option renaming bind_eq_some_iff->zap,map_eq_some_iff->zar
open Array renaming getElem?_toList->zau
open List.cons renaming injEq->zaF
namespace Go.Am
theorem ars {p:Int} {S1 S2 D1 D2 A X:aa} {a:Int} {d:Nat} (hS:z9 S1 a S2 50) (l1:D1.length=S1.length) (l2:D2.length=S2.length)
  (hA:gB (2,p,0) (S1++a::S2,D1++(d:Int)::D2,A)=true) (hX:gB (2,p,0) ([50,a],[(d:Int),(d:Int)],X)=true) (vR:S1.length+S2.length+2<=12) (hP:aL (D1++(d:Int)::D2)*d<=4096)
  (nq:oN (S1++S2++[50]) (D1++D2++[(d:Int)])=true):
  ∃E,Co ((2,p,0),(S1++a::S2,D1++(d:Int)::D2,A),([50,a],[(d:Int),(d:Int)],X),S1++S2++[50])=some ((S1++S2++[50],D1++D2++[(d:Int)],E),true)/\
   E.length=aL (D1++D2++[(d:Int)])/\eZ p E/\
   ∀u v w,u<aL D1->v<d->w<aL D2->E.getD ((u*aL D2+w)*d+v) 0=sm d (fun x=>A.getD ((u*d+x)*aL D2+w) 0*X.getD (v*d+x) 0)%p:=by
 obtain⟨xz,⟨a12,ad⟩,hta,⟨On,Oo⟩,hAl,aG,aT⟩:=zZ hA;have cf:dz p=true:=by
  have h:=xz;have e:j5 (2,p,0)=(dz p&&decide ((0:Int)=0)):=rfl;rw[e] at h;simpa using h
 have hm:=gn cf;obtain⟨n1,n2,q1,q2,q3,q4,q5,_⟩:=hS.parts;obtain⟨j1,j2,j3,j4⟩:=atV (d:=(d:Int)) hS l1 l2;have tm:aL (D1++(d:Int)::D2)=aL D1*d*aL D2:=by
  rw[x8,aL,zaa,zah]
 have AV:aL (D1++D2++[(d:Int)])=aL D1*aL D2*d:=by rw[x8,x8,uZ]
 have hPJ:aL (D1++(d:Int)::D2++[(d:Int)])=aL D1*d*aL D2*d:=by rw[x8,uZ,tm]
 have F9:0<aL D2:=by
  rcases zao (aL D2) with h|h
  ·rw[tm,h,zaH] at On;omega
  ·exact h
 have hD1:0<aL D1:=by
  rcases zao (aL D1) with h|h
  ·rw[tm,h,zas,zas] at On;omega
  ·exact h
 have PN:0<d:=by
  rcases zao d with h|h
  ·rw[tm,h,zaH,zas] at On;omega
  ·exact h
 have arJ:aL (D1++D2++[(d:Int)])=aL (D1++(d:Int)::D2):=by
  rw[AV,tm,zah,zaC (aL D2) d,zah]
 have hcd:∀v,v∈S1++a::S2->v∈[50,a]->(D1++(d:Int)::D2).getD (bS (S1++a::S2) v) 0=[(d:Int),(d:Int)].getD (bS [50,a] v) 0:=by
  intro v hv v8;have e:v=a:=by
   simp only[zaf,zad,or_false] at v8;rcases v8 with rfl|h
   ·rw[zae,zaf] at hv;rcases hv with h|h|h
    ·exact absurd h q3
    ·exact absurd h.symm q5
    ·exact absurd h q4
   ·exact h
  subst e;have h1:=(T9 (x:=(d:Int)) n1 l1 l2).2.1;unfold jU at h1;rw[h1];have h2:bS [50,v] v<2:=qb (l:=[50,v]) (by simp);rcases(show bS [50,v] v=0\/bS [50,v] v=1 by omega) with h|h<;>rw[h]<;>rfl
 have Ga:(S1++a::S2++[50]).map (jd (S1++a::S2) (D1++(d:Int)::D2) [50,a] [(d:Int),(d:Int)])=D1++(d:Int)::D2++[(d:Int)]:=by
  rw[zab,zab,zai,j1,j2,j3];show _++[jd _ _ _ _ 50]=_;rw[j4]
 have Jr:(S1++S2++[50]).map (jd (S1++a::S2) (D1++(d:Int)::D2) [50,a] [(d:Int),(d:Int)])=D1++D2++[(d:Int)]:=by
  rw[zab,zab,j1,j3];show _++[jd _ _ _ _ 50]=_;rw[j4]
 obtain⟨hF,sA,sB,sS⟩:=aot hA hX hcd (atY hS) Ga (by simp;omega) (by rw[hPJ,<-tm];omega) (by simp;omega) (avt hS) Jr nq (by rw[arJ];exact Oo);refine⟨_,hF,dV _ _,K6 fun k=>uj hm _,fun u v w hu hv hw=>?_⟩;have cC:(u*aL D2+w)*d+v<aL (D1++D2++[(d:Int)]):=by
  rw[AV];exact jK (jK hu hw) hv
 rw[zac,lD _ cC];show pK A X _ _ _ _ _%p=_;congr 1;unfold pK;rw[hPJ,ayY];have hco:∀u x w v,u<aL D1->x<d->w<aL D2->v<d->
   kB (S1++a::S2) (D1++(d:Int)::D2) (S1++a::S2++[50]) (bV (D1++(d:Int)::D2++[(d:Int)]) (((u*d+x)*aL D2+w)*d+v))=(u*d+x)*aL D2+w/\
   kB [50,a] [(d:Int),(d:Int)] (S1++a::S2++[50]) (bV (D1++(d:Int)::D2++[(d:Int)]) (((u*d+x)*aL D2+w)*d+v))=v*d+x/\
   kB (S1++S2++[50]) (D1++D2++[(d:Int)]) (S1++a::S2++[50]) (bV (D1++(d:Int)::D2++[(d:Int)]) (((u*d+x)*aL D2+w)*d+v))=(u*aL D2+w)*d+v:=by
  intro u x w v hu hx hw hv;have hI:bV (D1++(d:Int)::D2++[(d:Int)]) (((u*d+x)*aL D2+w)*d+v)=bV D1 u++(x:Int)::bV D2 w++[(v:Int)]:=by
   have e:=Wz (D1:=D1++(d:Int)::D2) (D2:=[(d:Int)]) (U:=(u*d+x)*aL D2+w) (w:=v) (by rw[uZ];exact PN) (by rw[uZ];exact hv);rw[uZ,agd hv,WA hx F9 hw] at e;exact e
  have BD:(bV D1 u).length=S1.length:=by unfold bV;rw[dV,l1]
  have Ha:(bV D2 w).length=S2.length:=by unfold bV;rw[dV,l2]
  obtain⟨g1,g2,g3,g4⟩:=aoI (x:=(x:Int)) (y:=(v:Int)) hS.nd BD Ha;have VG:(bV D1 u++(x:Int)::bV D2 w++[(v:Int)]).length=(S1++a::S2++[50]).length:=by simp[BD,Ha]
  have hn:(u*d+x)*aL D2+w<aL (D1++(d:Int)::D2):=by
   rw[tm];exact jK (jK hu hx) hw
  have v1:o7 D1 (bV D1 u)=u:=Hq (ac6 aG) hu;have v2:o7 D2 (bV D2 w)=w:=Hq (ac7 aG) hw;refine⟨?_,?_,?_⟩
  ·rw[hI,OX sA.nL sA.nJ sA.s sA.l VG,zab,zai,g1,g2,g3,<-WA hx F9 hw];exact Hq aG hn
  ·rw[hI,OX sB.nL sB.nJ sB.s sB.l VG,zai,zai,g2,g4,zat];have e:=KL (D1:=[(d:Int)]) (D2:=[(d:Int)]) (i1:=[(v:Int)]) (i2:=[(x:Int)]) rfl;rw[uZ,QV,QV,zaa,zaa] at e;exact e
  ·rw[hI,OX sS.nL sS.nJ sS.s sS.l VG,zab,zab,g1,g3];show o7 _ (_++_++[jU _ _ 50])=_;rw[g4,KL (by rw[zag,zag,BD,Ha,l1,l2]),KL (by rw[BD,l1]),v1,v2,uZ,QV,zaa]
 rw[aAk (u0:=u) (w0:=w) (v0:=v) (F:=fun u' x w' v'=>if kB (S1++S2++[50]) (D1++D2++[(d:Int)]) (S1++a::S2++[50]) (bV (D1++(d:Int)::D2++[(d:Int)]) (((u'*d+x)*aL D2+w')*d+v'))=(u*aL D2+w)*d+v then
   A.getD (kB (S1++a::S2) (D1++(d:Int)::D2) (S1++a::S2++[50]) (bV (D1++(d:Int)::D2++[(d:Int)]) (((u'*d+x)*aL D2+w')*d+v'))) 0*
    X.getD (kB [50,a] [(d:Int),(d:Int)] (S1++a::S2++[50]) (bV (D1++(d:Int)::D2++[(d:Int)]) (((u'*d+x)*aL D2+w')*d+v'))) 0 else 0) hu hw hv fun u' x w' v' h1 h2 h3 h4 aR=>by
  obtain⟨_,_,e3⟩:=hco u' x w' v' h1 h2 h3 h4;rw[e3,if_neg fun h=>aR (aou h3 h4 hw hv h)]]
 refine lE fun x hx=>?_;obtain⟨e1,e2,e3⟩:=hco u x w v hu hx hw hv;rw[e1,e2,e3,if_pos rfl]
theorem art {p:Int} {S1 S2 D1 D2 E B:aa} {a:Int} {d:Nat} (n1:(S1++a::S2).Nodup) (n2:(S1++S2++[a]).Nodup) (l1:D1.length=S1.length) (l2:D2.length=S2.length)
  (hE:gB (2,p,0) (S1++S2++[a],D1++D2++[(d:Int)],E)=true) (Bi:iw (S1++S2++[a]) (S1++S2++[a]).length=S1++a::S2) (hd:0<d) (hdG:jC (D1++(d:Int)::D2)) (F9:0<aL D2)
  (hB:B.length=aL (D1++(d:Int)::D2)) (hv:∀u v w,u<aL D1->v<d->w<aL D2->E.getD ((u*aL D2+w)*d+v) 0=B.getD ((u*d+v)*aL D2+w) 0):
  ph (2,p,0) (S1++S2++[a],D1++D2++[(d:Int)],E)=(S1++a::S2,D1++(d:Int)::D2,B):=by
 have tm:aL (D1++(d:Int)::D2)=aL D1*d*aL D2:=by
  rw[x8,aL,zaa,zah]
 rw[aCr hE,Bi];have JT:fY (S1++S2++[a]) (D1++D2++[(d:Int)]) (S1++a::S2)=D1++(d:Int)::D2:=by
  obtain⟨g1,g2,g3⟩:=aoH (x:=(d:Int)) n2 l1 l2;have e:fY (S1++S2++[a]) (D1++D2++[(d:Int)]) (S1++a::S2)=(S1++a::S2).map (jU (S1++S2++[a]) (D1++D2++[(d:Int)])):=K5 (jU (S1++S2++[a]) (D1++D2++[(d:Int)])) (S1++a::S2);rw[e,zab,zai,g1,g2,g3]
 rw[JT];congr 2;refine yL (by rw[dV,hB]) fun n hn=>?_;rw[dV,tm] at hn;rw[zac,lD _ (by rw[tm];exact hn)];obtain⟨n',w,rfl,cb,hw⟩:=HY hn;obtain⟨u,v,rfl,hu,fH⟩:=HY cb;show E.getD (jO (D1++D2++[(d:Int)]) (sE (S1++S2++[a]) (D1++D2++[(d:Int)]) (S1++a::S2) ((u*d+v)*aL D2+w)) (D1++D2++[(d:Int)]).length) 0=_;have BD:(bV D1 u).length=S1.length:=by unfold bV;rw[dV,l1]
 have Ha:(bV D2 w).length=S2.length:=by unfold bV;rw[dV,l2]
 obtain⟨g1,g2,g3⟩:=T9 (x:=(v:Int)) n1 BD Ha;have hold:sE (S1++S2++[a]) (D1++D2++[(d:Int)]) (S1++a::S2) ((u*d+v)*aL D2+w)=bV D1 u++bV D2 w++[(v:Int)]:=by
  have e:sE (S1++S2++[a]) (D1++D2++[(d:Int)]) (S1++a::S2) ((u*d+v)*aL D2+w)=(S1++S2++[a]).map (jU (S1++a::S2) (bV (D1++(d:Int)::D2) ((u*d+v)*aL D2+w))):=by
   rw[<-K5];unfold sE;rw[JT,show(D1++D2++[(d:Int)]).length=(S1++S2++[a]).length by simp[l1,l2]];refine gQ fun q hq=>?_;have gz:(S1++S2++[a]).getD q 0∈S1++a::S2:=by
    have:=gS hq;simp only[zae,zaf,zad,or_false] at this⊢;rcases this with(h|h)|h
    ·exact .inl h
    ·exact .inr (.inr h)
    ·exact .inr (.inl h)
   exact(zq (by have:=qb gz;simp at this⊢;omega)).symm
  rw[e,WA fH F9 hw,zab,zab,g1,g3];show _++[jU _ _ a]=_;rw[g2]
 have v1:o7 D1 (bV D1 u)=u:=Hq (ac6 hdG) hu;have v2:o7 D2 (bV D2 w)=w:=Hq (ac7 hdG) hw;rw[hold];show E.getD (o7 (D1++D2++[(d:Int)]) (bV D1 u++bV D2 w++[(v:Int)])) 0=_;rw[KL (by rw[zag,zag,BD,Ha,l1,l2]),KL (by rw[BD,l1]),v1,v2,uZ,QV,zaa,hv u v w hu fH hw]
def Sl:aa->Option Bool:=fun _=>some true
theorem ayU (x:Int):iF x x=false:=bne_self_eq_false _
def Aw:aq:=[(.one,[.list [.int .u8]])]
def ZG:aq:=[(.one,[.bool])]
def aw0:bi:=[]
def Mn (NN:Nat):aa->(Option Bool):=
 (fun(l0:aa)=>
 aD (cj (1048576:Int) (aW (af l0)))
 (some true)
 ((Ff (l0,(0:Int))).ae (fun i1=>
 (Fc (l0,(10:Int))).ae (fun l2=>
 (Fb (l0,(30:Int),i1,l2)).ae (fun(i3,l4)=>
 (Fg (l0,(4:Int),(0:Int),iy .i64 (aW (af l2)) (1:Int))).ae (fun i5=>
 (cW l2 i5).ae (fun i6=>
 (cW l2 i5).ae (fun i7=>
 (Al (l0,(80:Int),i1,i6,i7)).ae (fun(i8,i9,cR)=>
 (yr ((i3,l4),i5,i8,i9,cR)).ae (fun((fj,dO),Ft)=>
 (wT (i3,l4)).ae (fun(dA,eU,eF)=>
 (cW l2 i5).ae (fun fB=>
 (cW l2 i5).ae (fun fS=>
 (bZ dA 0 (af dA)).ae (fun jg=>
 (CA (jg,i5)).ae (fun hZ=>
 (bZ hZ 0 (af hZ)).ae (fun fW=>
 (bZ (((50:Int)::([]:aa))) 0 1).ae (fun eo=>
 (CB (fW,eo)).ae (fun jp=>
 (bZ dA 0 (af dA)).ae (fun jh=>
 (bZ eU 0 (af eU)).ae (fun iD=>
 (bZ eF 0 (af eF)).ae (fun ia=>
 (bZ (((50:Int)::(i5::([]:aa)))) 0 2).ae (fun kl=>
 (bZ ((fB::(fS::([]:aa)))) 0 2).ae (fun iT=>
 (bZ jp 0 (af jp)).ae (fun km=>
 (Co (((2:Int),i1,(0:Int)),(jh,iD,ia),(kl,iT,cR),km)).ae (fun((kL,iU,ko),b33)=>
 (bZ kL 0 (af kL)).ae (fun oZ=>
 (bZ iU 0 (af iU)).ae (fun ru=>
 (bZ ko 0 (af ko)).ae (fun iN=>
 (bZ (((50:Int)::([]:aa))) 0 1).ae (fun jq=>
 (bZ ((i5::([]:aa))) 0 1).ae (fun lA=>
 (EP (((2:Int),i1,(0:Int)),(oZ,ru,iN),jq,lA)).ae (fun((kM,lR,ib),b42)=>
 (Cr ((i3,l4),i5,(i8,i9,cR),i3,l4)).ae (fun(iq,b44)=>
 (bZ dO 0 (af dO)).ae (fun mC=>
 (Ac ((i3,l4),fj,mC)).ae (fun(jJ,b47)=>
 aD (d9 Ft)
 (some false)
 (aD (d9 b33)
 (some false)
 (aD (d9 b42)
 (some false)
 (aD (d9 b44)
 (some false)
 (aD (d9 b47)
 (some false)
 ((bZ dO 0 (af dO)).ae (fun qI=>
 (wT (fj,qI)).ae (fun(lB,uN,sq)=>
 (bZ lB 0 (af lB)).ae (fun sr=>
 (bZ uN 0 (af uN)).ae (fun oC=>
 (bZ sq 0 (af sq)).ae (fun nI=>
 (bZ kM 0 (af kM)).ae (fun mD=>
 (bZ lR 0 (af lR)).ae (fun kt=>
 (bZ ib 0 (af ib)).ae (fun ic=>
 (ER (((2:Int),i1,(0:Int)),(sr,oC,nI),mD,kt,ic)).ae (fun b58=>
 aD (d9 b58)
 (some false)
 (aD (iF iq jJ)
 (some false)
 (aD (c6 (bE .i64 i5 1) (aW (af l2)))
 ((tY ((i3,l4),i5,i8,i9,cR)).ae (fun((wg,ku),b61)=>
 some (d9 b61)))
 ((cW l2 i5).ae (fun nF=>
 (cW l2 (bE .i64 i5 1)).ae (fun lz=>
 (Al (l0,(110:Int),i1,cV .i64 nF lz,cV .i64 nF lz)).ae (fun(i64,ox,sv)=>
 (Al (l0,(140:Int),i1,cV .i64 nF lz,cV .i64 nF lz)).ae (fun(kJ,r8,uP)=>
 (EO (i1,(i64,ox,sv),kJ,r8,uP)).ae (fun((rp,pW,nK),b73)=>
 (tY ((i3,l4),i5,kJ,r8,uP)).ae (fun((oy,xW),b76)=>
 (bZ xW 0 (af xW)).ae (fun wq=>
 (tY ((oy,wq),i5,i64,ox,sv)).ae (fun((mU,wu),b80)=>
 (bZ nK 0 (af nK)).ae (fun uS=>
 (tY ((i3,l4),i5,rp,pW,uS)).ae (fun((DA,oD),b84)=>
 aD (b73)
 (aD (b76)
 (aD (b80)
 (aD (b84)
 ((bZ wu 0 (af wu)).ae (fun DV=>
 (wT (mU,DV)).ae (fun(tE,sx,lS)=>
 (bZ oD 0 (af oD)).ae (fun p9=>
 (wT (DA,p9)).ae (fun(DW,uT,ww)=>
 (bZ tE 0 (af tE)).ae (fun zy=>
 (bZ sx 0 (af sx)).ae (fun BC=>
 (bZ lS 0 (af lS)).ae (fun G6=>
 (bZ DW 0 (af DW)).ae (fun DX=>
 (bZ uT 0 (af uT)).ae (fun wz=>
 (bZ ww 0 (af ww)).ae (fun xX=>
 (E8 ((zy,BC,G6),DX,wz,xX)).ae (fun b99=>
 some b99))))))))))))
 (some false))
 (some false))
 (some false))
 (some false))))))))))))))))))))))))))))))))))))))))))))))))))))))))))))))
theorem aAu {p:Int} (hp:p∈[(2:Int),3,7,101,1000003]):dz p=true:=by
 simp only[zaf,zad,or_false] at hp;rcases hp with rfl|rfl|rfl|rfl|rfl
 ·exact aAr
 ·exact aAs
 ·exact aAt
 ·exact aAq
 ·exact aAp
theorem Tu {L D:aa} (hn:L.Nodup) (vR:L.length<=12) (hl:L.length=D.length) (h1:∀v∈L,0<=v/\v<=99) (h2:∀x∈D,1<=x/\x<=8):oN L D=true:=by
 simp only[oN,zan,decide_eq_true_eq];refine⟨vR,hl,fun j hj=>⟨h1 _ (gS hj),h2 _ (gS (by omega)),fun hm=>?_⟩⟩;obtain⟨i,hi,e⟩:=List.mem_iff_getElem.1 hm;rw[zaq] at hi;rw[List.getElem_take,zac,List.getElem?_eq_getElem hj] at e;exact List.pairwise_iff_getElem.1 hn i j (by omega) hj (by omega) e
theorem aCf:∀n,n<5->∀k,k<n->iw ((dC n).take k++(dC n).drop (k+1)++[(k:Int)]) n=dC n:=by decide
theorem aAy {D:aa} (hl:D.length<=4) (hd:∀v∈D,1<=v/\v<=3):aL D<=81:=by
 have cN:∀D:aa,(∀v∈D,1<=v/\v<=3)->aL D<=3^D.length:=by
  intro D;induction D with
  |nil=>intro _;exact Nat.le_refl 1
  |cons a D ih=>
   intro h;have h1:=h a List.mem_cons_self;have h2:=ih fun v hv=>h v (zal _ hv);rw[zaD,Nat.pow_succ,zaC];show a.toNat*aL D<=_;exact zaj (by omega) h2
 exact zaI (cN D hd) (zaI (Nat.pow_le_pow_right (by decide) hl) (by decide))
theorem aC6 {p:Int} {L L2 L3 L4:List aS} {k P:Nat} {X Y:aa} (hp:dz p=true) (hk:k+1<L.length) (hP:P=((bw L).getD k 0).toNat*((bw L).getD (k+1) 0).toNat)
  (O2:MK p L L2 k P Y) (O3:MK p L2 L3 k P X) (O4:MK p L L4 k P (ax P P (gp p P (bH P X) (bH P Y)))):oJ p L4=oJ p L3:=by
 have qz:bw L3=bw L:=O3.iQ.trans O2.iQ;refine aC0 (O4.iQ.trans qz.symm) fun n hn=>?_;rw[qz] at hn;have hl:(bw L).length=L.length:=iC L;have hH:aL (bw L)=nr (bw L) k*P*bQ (bw L) (k+2):=by
  rw[<-head_tail (bw L) (k+2) (by omega),hP];show nr (bw L) k*_*_*_=_;rw[<-zah]
 rw[hH] at hn;obtain⟨n',w,rfl,cb,hw⟩:=HY hn;obtain⟨u,r,rfl,hu,hr⟩:=HY cb;refine adl ?_ (Ii hp _ _) (Ii hp _ _);have h3:=O3.val u r w hr (by rw[O2.iQ];exact hw);rw[O2.iQ] at h3;refine(O4.val u r w hr hw).trans (cg.trans ?_ h3.symm);refine cg.trans ?_ (ki fun q hq=>cg.mul (cg.refl _ (bH P X r q)) (O2.val u q w hq hw)).symm;rw[B6];refine ki fun t ht=>cg.mul ?_ (cg.refl _ _);rw[mZ _ hr ht];exact XR _ _ _ _ _ _
set_option maxHeartbeats 4000000 in
theorem amZ (l0:aa):Mn aI l0=some true:=by
 simp only[Mn];by_cases hl:l0.length<=1048576
 ·rw[bh (dL (by unfold aW af;omega))];obtain⟨p,e1,hp⟩:=aAv l0 0 hl (by decide);have cf:=aAu hp;have hm:=gn cf;obtain⟨D,e2,UU,xr⟩:=aoL l0 10 hl (by decide);obtain⟨L,e3,H,n9⟩:=an8 l0 30 p D hl (by decide) cf UU xr;have hlen:L.length=D.length:=by rw[<-iC,n9]
  obtain⟨k,e4,hk⟩:=aB6 l0 4 0 ((D.length:Int) - 1) hl (by decide) (by decide) (by omega) (by omega);obtain⟨k,rfl⟩:∃n:Nat,k=(n:Int):=⟨k.toNat,by omega⟩;have rf:k<D.length:=by omega
  obtain⟨d,hd⟩:∃n:Nat,D.getD k 0=(n:Int):=⟨(D.getD k 0).toNat,by have:=xr _ (gS rf);omega⟩;have qz:1<=d/\d<=3:=by have:=xr _ (gS rf);omega
  have Gl:cW D (k:Int)=some (d:Int):=by rw[e9,jb rf,hd]
  obtain⟨X,e5,hX,hXp⟩:=Tg l0 80 p d d hl (by decide) hm (by omega) (by omega);have Vl:d=((bw L).getD k 0).toNat:=by rw[n9,hd];exact(zaa d).symm
  obtain⟨L1,s1,s2,O1⟩:=aB4 (k:=k) H.ok (by omega) Vl hX hXp;have tj:=ajf rf;rw[hd] at tj;have vT:=ajf (l:=dC D.length) (k:=k) (by unfold dC;rw[dV];exact rf);rw[HJ rf] at vT;have Bi:=aCf D.length (by omega) k rf;have Gq:(D.take k).length=((dC D.length).take k).length:=by unfold dC;rw[zaq,zaq,dV]
  have uE:(D.drop (k+1)).length=((dC D.length).drop (k+1)).length:=by unfold dC;rw[zaE,zaE,dV]
  have UZ:bQ (bw L) (k+1)=aL (D.drop (k+1)):=by rw[n9];rfl
  generalize D.take k=D1 at tj Gq;generalize D.drop (k+1)=D2 at tj uE UZ;generalize (dC D.length).take k=S1 at vT Gq Bi;generalize (dC D.length).drop (k+1)=S2 at vT uE Bi;have hA:z9 S1 (k:Int) S2 50:=⟨by
   rw[<-vT,List.nodup_append];refine⟨aBM _,by simp,fun x hx y hy=>?_⟩;have:=alr.1 hx;simp only[zaf,zad,or_false] at hy;omega⟩
  have aDH:S1.length+S2.length+1=D.length:=by
   have:=congrArg List.length vT;simp only[zag,zaD] at this;unfold dC at this;rw[dV] at this;omega
  obtain⟨t1,t2,t3,t8,hP⟩:=R3 H.ok;rw[n9] at hP;have F9:0<aL D2:=BU fun x hx=>(xr x (by rw[tj];exact zam _ (zal _ hx))).1;have tm:aL D=aL D1*d*aL D2:=by rw[tj,x8,aL,zaa,zah]
  have AV:aL (D1++D2++[(d:Int)])=aL D:=by rw[tm,x8,x8,uZ,zah,zaC (aL D2) d,<-zah]
  have arI:aL D<=81:=aAy UU.2 xr;have VZ:=H.ten;rw[R4,n9] at VZ;have hg8:∀x∈D1++D2++[(d:Int)],1<=x/\x<=8:=fun x hx=>by
   rw[zae,zae] at hx;rcases hx with(h|h)|h
   ·have:=xr x (by rw[tj];exact zaw _ h);omega
   ·have:=xr x (by rw[tj];exact zam _ (zal _ h));omega
   ·simp only[zaf,zad,or_false] at h;omega
  have afj:∀b:Int,0<=b->b<=99->∀v∈S1++S2++[b],0<=v/\v<=99:=fun b xt hb9 v hv=>by
   have gU:v∈S1++(k:Int)::S2->0<=v/\v<=99:=fun h=>by
    rw[<-vT] at h;have:=alr.1 h;omega
   rw[zae,zae] at hv;rcases hv with(h|h)|h
   ·exact gU (zaw _ h)
   ·exact gU (zam _ (zal _ h))
   ·simp only[zaf,zad,or_false] at h;omega
  obtain⟨n1,n2,q1,q2,q3,q4,q5,n3⟩:=hA.parts;have nq:=Tu n2 (by simp;omega) (by simp;omega) (afj 50 (by decide) (by decide)) hg8;have arP:=Tu n3 (by simp;omega) (by simp;omega) (afj k (by omega) (by omega)) hg8;have hXt:gB (2,p,0) ([50,(k:Int)],[(d:Int),(d:Int)],X)=true:=by
   have vV:d*d<=9:=zaj qz.2 qz.2;have e:aL [(d:Int),(d:Int)]=d*d:=by
    show(d:Int).toNat*((d:Int).toNat*1)=_;rw[zaa,Nat.mul_one]
   refine LH cf (Tu (by simp;omega) (by show 2<=12;decide) rfl (fun v hv=>?_) (fun x hx=>?_)) (by rw[e];omega) (by rw[e,hX]) hXp
   ·simp only[zaf,zad,or_false] at hv;omega
   ·simp only[zaf,zad,or_false] at hx;omega
  have asy:gB (2,p,0) (S1++(k:Int)::S2,D1++(d:Int)::D2,bB (aL D) (jR p L))=true:=by rw[<-vT,<-tj];exact VZ
  have hPd:aL D*d<=81*3:=zaj arI qz.2;obtain⟨E,c1,c2,c3,c4⟩:=ars hA Gq uE asy hXt (by omega) (by rw[<-tj];omega) nq;rw[<-vT,<-tj] at c1;have UW:gB (2,p,0) (S1++S2++[(k:Int)],D1++D2++[(d:Int)],E)=true:=LH cf arP (by rw[AV];exact hP) c2 c3;have arE:gB (2,p,0) (S1++S2++[50],D1++D2++[(d:Int)],E)=true:=LH cf nq (by rw[AV];exact hP) c2 c3;have Gr:(S1++S2++[50]).map (fun v=>qd v [(50:Int)] [(k:Int)])=S1++S2++[(k:Int)]:=by
   have hr:∀v,v≠50->qd v [(50:Int)] [(k:Int)]=v:=fun v hv=>if_neg fun h=>hv (by simpa using zJ.1 h);have PZ:qd 50 [(50:Int)] [(k:Int)]=(k:Int):=by
    unfold qd;rw[if_pos (qb (by simp))];have:bS [(50:Int)] 50=0:=by
     unfold bS;rw[List.findIdx_cons];simp
    rw[this];rfl
   have h1:S1.map (fun v=>qd v [(50:Int)] [(k:Int)])=S1:=(zax fun v hv=>hr v fun e=>q3 (by rw[<-e];exact hv)).trans (zaJ _);have h2:S2.map (fun v=>qd v [(50:Int)] [(k:Int)])=S2:=(zax fun v hv=>hr v fun e=>q4 (by rw[<-e];exact hv)).trans (zaJ _);rw[zab,zab,h1,h2];show _++[qd 50 _ _]=_;rw[PZ]
  have afH:=aAV (f:=[(50:Int)]) (t:=[(k:Int)]) arE rfl (by decide) (by rw[Gr];exact UW);rw[Gr] at afH;have afs:bw L1=D:=by rw[O1.iQ,n9]
  have afO:gB (2,p,0) (dC D.length,D,bB (aL D) (jR p L1))=true:=by
   refine LH cf (zY VZ).1 hP (dV _ _) (K6 fun n=>Ii cf L1 n)
  have hG:jC D:=⟨by omega,fun x hx=>by have:=xr x hx;omega⟩;have hsE:ph (2,p,0) (S1++S2++[(k:Int)],D1++D2++[(d:Int)],E)=(dC D.length,D,bB (aL D) (jR p L1)):=by
   have:=art (p:=p) (E:=E) (B:=bB (aL D) (jR p L1)) n1 n3 Gq uE UW (by rw[<-vT,<-Bi];congr 1;simp;omega) (by omega) (by rw[<-tj];exact hG) F9 (by rw[<-tj,dV]) (fun u v w hu hv hw=>by
    have cC:∀x,x<d->(u*d+x)*aL D2+w<aL D:=fun x hx=>by rw[tm];exact jK (jK hu hx) hw
    have hgB:(bB (aL D) (jR p L1)).getD ((u*d+v)*aL D2+w) 0=jR p L1 ((u*d+v)*aL D2+w):=by
     rw[zac,lD _ (cC v hv)];rfl
    rw[c4 u v w hu hv hw,hgB];refine adl ?_ (uj hm _) (Ii cf _ _);have Bl:=O1.val u v w hv (by rw[UZ];exact hw);rw[UZ] at Bl;refine I7.trans (cg.trans (FR ?_) Bl.symm);refine lE fun x hx=>?_;have hgA:(bB (aL D) (jR p L)).getD ((u*d+x)*aL D2+w) 0=jR p L ((u*d+x)*aL D2+w):=by
     rw[zac,lD _ (cC x hx)];rfl
    rw[hgA,Int.mul_comm];rfl)
   rw[<-vT,<-tj] at this;exact this
  have Vw:ph (2,p,0) (dC D.length,D,bB (aL D) (jR p L1))=(dC D.length,D,bB (aL D) (jR p L1)):=aCq afO;have hsT:=aBs afO UW (by rw[Vw,hsE]) (by
   rw[hsE];refine⟨?_,by show D.length<=_;omega,?_⟩
   ·show(dC D.length).length<=_;unfold dC;rw[dV];omega
   ·show(bB _ _).length<=_;rw[dV];omega)
  have f0:=R1 H.ok;have f1:=R1 O1.ok;rw[show oJ p L=(dC D.length,D,bB (aL D) (jR p L)) by rw[R4,n9]] at f0;rw[show oJ p L1=(dC D.length,D,bB (aL D) (jR p L1)) by rw[R4,afs]] at f1;have afw:GN (p,L) (p,L1)=(pZ p L L1 L.length 0 0,true):=by
   unfold GN;have:xf (p,L) (p,L1)=true:=by
    unfold xf;rw[H.ok,O1.ok,decide_eq_true (show(p,L).1=(p,L1).1 from rfl),decide_eq_true (show bw (p,L).2=bw (p,L1).2 from n9.trans afs.symm)]
    rfl
   rw[if_pos this]
  have hI:Ac ((p,L),(p,L1))=some (pZ p L L1 L.length 0 0,true):=by
   rw[<-afw];exact if_pos ⟨BO H.ok,BO O1.ok⟩
  have vV:d*d<=3*3:=zaj qz.2 qz.2;have afN:vn ((d:Int),(d:Int),X)<=1048576:=by
   show X.length<=_;omega
  have hO:Cr ((p,L),(k:Int),((d:Int),(d:Int),X),(p,L))=some (pZ p L L1 L.length 0 0,true):=by
   rw[<-afw];have:=show Cr ((p,L),(k:Int),((d:Int),(d:Int),X),(p,L))=_ from if_pos ⟨BO H.ok,afN,BO H.ok⟩
   rw[this];unfold Yc;rw[show ud (p,L).1 (p,L).2 (k:Int) ((d:Int),(d:Int),X)=((p,L1),true) from s2,if_pos rfl]
  have arT:CA (dC D.length,(k:Int))=some (S1++S2):=by
   rw[aow _ _ (by unfold dC;rw[dV];omega),vT,aox hA]
  have ar4:CB (S1++S2,[(50:Int)])=some (S1++S2++[50]):=atZ _ _ (by simp;omega) (by decide);rw[e1]
  try simp only[bc]
  rw[e2]
  try simp only[bc]
  rw[e3]
  try simp only[bc]
  rw[show iy .i64 (aW (af D)) 1=(D.length:Int) - 1 from oH (by show -9223372036854775808<=(D.length:Int) - 1;omega) (by show(D.length:Int) - 1<=_;omega),e4]
  try simp only[bc]
  rw[Gl]
  try simp only[bc]
  rw[e5]
  try simp only[bc]
  rw[s1]
  try simp only[bc,dj]
  rw[f0]
  try simp only[bc,dj]
  rw[arT]
  try simp only[bc,dj]
  rw[Cg]
  try simp only[bc,dj]
  rw[ar4]
  try simp only[bc,dj]
  rw[show bZ [(50:Int),(k:Int)] 0 2=some [(50:Int),(k:Int)] from rfl,show bZ [(d:Int),(d:Int)] 0 2=some [(d:Int),(d:Int)] from rfl]
  try simp only[bc,dj]
  rw[c1]
  try simp only[bc,dj]
  rw[Cg]
  try simp only[bc,dj]
  rw[afH]
  try simp only[bc,dj]
  rw[hO]
  try simp only[bc,dj]
  rw[hI]
  try simp only[bc,dj]
  rw[show d9 true=false from rfl]
  try simp only[nZ]
  rw[f1]
  try simp only[bc,dj]
  rw[hsT]
  try simp only[bc]
  rw[show d9 true=false from rfl,nZ,ayU,nZ,fq (by omega)]
  by_cases aDL:k+1=D.length
  ·rw[bk (td (by show((k+1:Nat):Int)=(D.length:Int);omega))];have hAB:tY ((p,L),(k:Int),((d:Int),(d:Int),X))=some ((0,[]),false):=by
    have:=show tY ((p,L),(k:Int),((d:Int),(d:Int),X))=_ from if_pos ⟨BO H.ok,afN⟩
    rw[this];unfold Oz;rw[if_neg fun h=>by have h2:(k:Int)+1<(L.length:Int):=h.2.1.2;omega]
   rw[hAB]
   try simp only[bc]
   rfl
  ·have Ba:k+1<D.length:=by omega
   rw[bh (qZ (by show((k+1:Nat):Int)≠(D.length:Int);omega))];obtain⟨d',rV⟩:∃n:Nat,D.getD (k+1) 0=(n:Int):=⟨(D.getD (k+1) 0).toNat,by have:=xr _ (gS Ba);omega⟩;have afr:1<=d'/\d'<=3:=by have:=xr _ (gS Ba);omega
   have Vr:cW D ((k+1:Nat):Int)=some (d':Int):=by rw[e9,jb Ba,rV]
   have hPP:d*d'<=3*3:=zaj qz.2 afr.2;have Js:d*d'=((bw L).getD k 0).toNat*((bw L).getD (k+1) 0).toNat:=by rw[n9,hd,rV,zaa,zaa]
   generalize hPe:d*d'=P at hPP Js;obtain⟨Xm,e6,U1,afk⟩:=Tg l0 110 p P P hl (by decide) hm (by omega) (by omega);obtain⟨Ym,e7,U3,afl⟩:=Tg l0 140 p P P hl (by decide) hm (by omega) (by omega);have uA:cu L k<=4:=by
    cases k with
    |zero=>show 1<=4;decide
    |succ k=>exact(H.b4 k (by omega)).2.2
   have yT:cu L (k+2)<=4:=(H.b4 (k+1) (by omega)).2.2;have arU:((bw L).getD (k+1) 0).toNat=d':=by rw[n9,rV,zaa]
   have kG:cu L k*((bw L).getD k 0).toNat<=32:=by
    rw[<-Vl];have:=zaj uA qz.2;omega
   have fw:((bw L).getD (k+1) 0).toNat*cu L (k+2)<=64:=by
    rw[arU];have:=zaj afr.2 yT;omega
   obtain⟨L2,b2,O2⟩:=TJ (k:=k) H.ok (by omega) Js (by omega) kG fw U3 afl;have afA:L2.length=L.length:=by rw[<-iC,<-iC,O2.iQ]
   obtain⟨L3,b3,O3⟩:=TJ (k:=k) O2.ok (by omega) (by rw[O2.iQ];exact Js) (by omega) (by rw[O2.iQ,O2.bd k (by omega) (by omega)];exact kG) (by rw[O2.iQ,O2.bd (k+2) (by omega) (by omega)];exact fw) U1 afk;have hXY:eZ p (ax P P (gp p P (bH P Xm) (bH P Ym))):=kZ.2 (axn hm P P P _ _);obtain⟨L4,b4,O4⟩:=TJ (k:=k) H.ok (by omega) Js (by omega) kG fw (lp _ _ _) hXY;have JO:=axr (p:=p) (r:=P) (k:=P) (c:=P) (A:=bH P Xm) (B:=bH P Ym) cf (by omega) (by omega) (by omega) (sW U1 afk) (sW U3 afl);rw[qv U1,qv U3] at JO;have htt:=aC6 cf (by omega) Js O2 O3 O4;have aDN:bw L3=D:=by rw[O3.iQ,O2.iQ,n9]
   obtain⟨u1,u2,u3,u4,u5⟩:=R3 O3.ok;have hs3:=aBt (oJ p L3) (by omega) (by omega) (by omega);have f3:=R1 O3.ok;have f4:=R1 O4.ok;rw[htt] at f4;generalize ax P P (gp p P (bH P Xm) (bH P Ym))=Z at JO b4;generalize oJ p L3=T3' at f3 f4 hs3;obtain⟨T31,T32,T33⟩:=T3';rw[Vr]
   try simp only[bc]
   rw[D6 (by omega) (by omega),hPe,e6]
   try simp only[bc]
   rw[e7]
   try simp only[bc]
   rw[JO]
   try simp only[bc,dj]
   rw[b2]
   try simp only[bc,dj]
   rw[b3]
   try simp only[bc,dj]
   rw[b4]
   try simp only[bc,dj,s9]
   rw[f3]
   try simp only[bc,dj]
   rw[f4]
   try simp only[bc,dj]
   rw[hs3];rfl
 ·rw[bk (dY (by unfold aW af;omega))]
theorem aqE (x:aa) (y:Bool) (h:Sl x=some y):Mn aI x=some y:=by
 rw[amZ];exact h
section
def LK (P:Program) (r:TypeId->Option (List Ty)):Nat->List Field->Option (List Ty)
 |_,[]=>some []
 |off,f::fs=>match r f.type with
  |some ts=>if f.offset=off/\P.cellsOf f.type=ts.length then(LK P r (off+ts.length) fs).map (ts++·) else none
  |none=>none
def Ic (P:Program):Nat->TypeId->Option (List Ty)
 |0,_=>none
 |n+1,t=>match P.underlying t with
  |some .bool=>some [.bool]
  |some (.int k)=>some [.int k]
  |some (.slice e)=>match Ic P n e with
   |some ts=>if 0<ts.length/\P.cellsOf e=ts.length then some [.list ts] else none
   |none=>none
  |some (.struct fs)=>match LK P (Ic P n) 0 fs.toList with
   |some ts=>if P.cellsOf t=ts.length then some ts else none
   |none=>none
  |_=>none
mutual
def Ty.Wf:(t:Ty)->t.D->Prop
 |.int k,n=>LE.le (α:=Int) k.min n/\LE.le (α:=Int) n k.max
 |.bool,_=>True
 |.list ts,xs=>List.length (α:=Ty.DL ts) xs<=maxLen/\∀e:Ty.DL ts,List.Mem (α:=Ty.DL ts) e xs->Ty.rO ts e
def Ty.rO:(ts:List Ty)->Ty.DL ts->Prop
 |[],_=>True
 |[t],x=>Ty.Wf t x
 |t::u::ts,x=>Ty.Wf t x.1/\Ty.rO (u::ts) x.2
end
theorem acO (t:Ty) (ts:List Ty) (x:t.D) (y:Ty.DL ts):Ty.rO (t::ts) (CZ t ts x y)↔t.Wf x/\Ty.rO ts y:=by
 cases ts with
 |nil=>exact⟨fun h=>⟨h,trivial⟩,fun h=>h.1⟩
 |cons u us=>exact Iff.rfl
theorem aor (t:Ty):∀(ts:List Ty) (x:Ty.DL (t::ts)),∃a b,x=CZ t ts a b
 |[],x=>⟨x,(),rfl⟩
 |_::_,x=>⟨x.1,x.2,rfl⟩
theorem ab9:∀(ts us:List Ty) (x:Ty.DL ts) (y:Ty.DL us),Ty.rO ts x->Ty.rO us y->∃z:Ty.DL (ts++us),Ty.bq (ts++us) z=Ty.bq ts x++Ty.bq us y/\Ty.rO (ts++us) z
 |[],us,x,y,_,h=>⟨y,rfl,h⟩
 |t::ts,us,x,y,h1,h2=>by
  obtain⟨a,b,rfl⟩:=aor t ts x;rw[acO] at h1;obtain⟨z,e1,e2⟩:=ab9 ts us b y h1.2 h2;exact⟨CZ t (ts++us) a z,by
   have h1:Ty.bq (t::(ts++us)) (CZ t (ts++us) a z)=t.er a::Ty.bq (ts++us) z:=T4 _ _ _ _;have h2:Ty.bq (t::ts) (CZ t ts a b)=t.er a::Ty.bq ts b:=T4 _ _ _ _;exact h1.trans (by rw[h2,e1];rfl),(acO _ _ _ _).2 ⟨h1.1,e2⟩⟩
theorem ag9 {α β:Type} {f:α->Option β}:∀{l:List α} {r:List β},l.mapM f=some r->r.length=l.length/\∀(i:Nat) (x:α),l[i]? =some x->∃y,r[i]? =some y/\f x=some y:=by
 intro l;induction l with
 |nil=>intro r h;simp at h;subst h;exact⟨rfl,by simp⟩
 |cons a l ih=>
  intro r h;rw[zaG] at h;cases hx:f a with
  |none=>simp[hx] at h
  |some y=>
   cases V8:l.mapM f with
   |none=>simp[hx,V8] at h
   |some ys=>
    simp[hx,V8] at h;subst h;obtain⟨i1,i2⟩:=ih V8;refine⟨by simp[i1],fun i x hi=>?_⟩;cases i with
    |zero=>simp at hi;subst hi;exact⟨y,rfl,hx⟩
    |succ i=>exact i2 i x (by simpa using hi)
theorem an4 {w:World} {a:Addr} {n:Nat} {cs:List Value} (h:w.cells? 0 a n=some cs):cs.length=n/\∀(j:Nat) (c:Value),cs[j]? =some c->w.cell? (a.add j)=some c:=by
 unfold World.cells? at h;rw[if_pos (Nat.zero_le _)] at h;obtain⟨h1,h2⟩:=ag9 h;simp only[zaA] at h1;refine⟨h1,fun j c hj=>?_⟩;have cC:j<n:=by rw[<-h1];exact(List.getElem?_eq_some_iff.1 hj).1
 obtain⟨y,e1,e2⟩:=h2 j j (zay cC);rw[hj] at e1;injection e1 with e1;subst e1;exact e2
theorem an3 {w:World} {a:Addr} {v:Value} (h:w.cell? a=some v):a=ad a.block a.off:=by
 unfold World.cell? at h;split at h
 ·split at h
  ·cases h
  ·rename_i hs;obtain⟨b,o,s⟩:=a;cases s with
   |none=>rfl
   |some q=>simp at hs
 ·cases h
theorem abZ (a:Addr):a.add 0=a:=by unfold Addr.add;simp
section
variable {H:Type} {enc:TypeId×Value->H} {P:Program} {w:World} {sp:Nat->Bool} {held:Bool}
def vC (P:Program) (w:World) (ts:List Ty) (cs:List Value):Prop:=
 ∃(x:Ty.DL ts) (cH:List PC),cH.map PC.er=Ty.bq ts x/\cH.map PC.val=cs/\(∀pc∈cH,Good w pc)/\Ty.rO ts x
theorem vC.one {t:Ty} {x:t.D} {pc:PC} {c:Value} (h1:pc.er=t.er x) (h2:pc.val=c) (h3:Good w pc) (h4:t.Wf x):vC P w [t] [c]:=
 ⟨x,[pc],by simp only[zai,zat,h1];rfl,by simp[h2],by simpa using h3,h4⟩
theorem ajB {r:TypeId->Option (List Ty)} {q:TypeId->List Value->Option (DataW H×List MemPlace)} (hr:∀t ts cs y,r t=some ts->q t cs=some y->vC P w ts cs) (cs:List Value):
  ∀(fs:List Field) (off:Nat) (ts:List Ty) (ys:List (DataW H×List MemPlace)),LK P r off fs=some ts->fs.mapM (fun f=>q f.type ((cs.drop f.offset).take (P.cellsOf f.type)))=some ys->vC P w ts ((cs.drop off).take ts.length)
 |[],off,ts,ys,h1,h2=>by
  simp only[LK] at h1;injection h1 with h1;subst h1;exact⟨(),[],rfl,by simp,by simp,trivial⟩
 |f::fs,off,ts,ys,h1,h2=>by
  simp only[LK] at h1;split at h1
  ·rename_i ts1 e1;split at h1
   ·rename_i hc;obtain⟨c1,c2⟩:=hc;rw[zar] at h1;obtain⟨ts2,e2,rfl⟩:=h1;rw[zaG] at h2;cases hq:q f.type ((cs.drop f.offset).take (P.cellsOf f.type)) with
    |none=>simp[hq] at h2
    |some y=>
     cases hqs:fs.mapM (fun f=>q f.type ((cs.drop f.offset).take (P.cellsOf f.type))) with
     |none=>simp[hq,hqs] at h2
     |some ys2=>
      obtain⟨x1,p1,a1,a2,a3,a4⟩:=hr _ _ _ _ e1 hq;obtain⟨x2,p2,b1,b2,b3,b4⟩:=ajB hr cs fs (off+ts1.length) ts2 ys2 e2 hqs;obtain⟨z,z1,z2⟩:=ab9 ts1 ts2 x1 x2 a4 b4;refine⟨z,p1++p2,by rw[zab,a1,b1,z1],?_,fun pc bU=>(zae.1 bU).elim (a3 pc) (b3 pc),z2⟩;rw[zab,a2,b2,c1,c2,zag,List.take_add,List.drop_drop]
   ·cases h1
  ·cases h1
theorem aB8 {lm:Nat} {t e:TypeId} {us:List Ty} {cs:List Value} {y:DataW H×List MemPlace} (ih:∀cs y,DataW.trod enc P w 0 sp held lm e cs=some y->vC P w us cs) (fO:0<us.length) (kD:P.cellsOf e=us.length)
  (hu:P.underlying t=some (.slice e)) (h:DataW.trod enc P w 0 sp held (lm+1) t cs=some y):vC P w [.list us] cs:=by
 rw[DataW.trod_step] at h;unfold DataW.trodStep at h;simp only[hu] at h;split at h<;>first|(cases h;done)|(rename_i gw;cases gw;done)|skip
 ·exact vC.one (t:=.list us) (x:=([]:List (Ty.DL us))) (pc:=.list us.length none 0 []) (by rw[PC.fN];rfl) rfl (.nil _ _ _ fO) ⟨Nat.zero_le _,fun e he=>by cases he⟩
 ·rename_i e' a len cap gw;injection gw with gw;injection gw with gw;subst gw;split at h
  ·rename_i hc;obtain⟨_,hlc,tp⟩:=hc;rw[zap] at h;obtain⟨elems,he,_⟩:=h;obtain⟨g1,g2⟩:=ag9 he;simp only[zaA] at g1;have each:∀i:Fin len,∃(x:Ty.DL us) (cH:List PC),cH.map PC.er=Ty.bq us x/\(∀pc∈cH,Good w pc)/\Ty.rO us x/\∀j pc,cH[j]? =some pc->w.cell? ((a.add (i.1*us.length)).add j)=some pc.val:=by
    intro i;obtain⟨y1,_,e2⟩:=g2 i.1 i.1 (zay i.2);rw[zap] at e2;obtain⟨cs1,e3,e4⟩:=e2;rw[kD] at e3;obtain⟨c1,c2⟩:=an4 e3;obtain⟨x,cH,a1,a2,a3,a4⟩:=ih cs1 y1 e4;refine⟨x,cH,a1,a3,a4,fun j pc hj=>c2 j pc.val ?_⟩;rw[<-a2,zaB,hj];rfl
   let xs:List (Ty.DL us):=List.ofFn fun i:Fin len=>Classical.choose (each i);let px:List (List PC):=List.ofFn fun i:Fin len=>Classical.choose (zak (each i));have je:∀k e,px[k]? =some e->∃i:Fin len,i.1=k/\e=Classical.choose (zak (each i)):=by
    intro k e hk;rw[zaz] at hk;split at hk
    ·rename_i cC;injection hk with hk;exact⟨⟨k,cC⟩,rfl,hk.symm⟩
    ·cases hk
   have spec:=fun i:Fin len=>zak (zak (each i));have asl:px.length=len:=by simp[px]
   have aDT:xs.length=len:=by simp[xs]
   have Gr:px.map (fun e=>e.map PC.er)=List.map (Ty.bq us) xs:=by
    apply List.ext_getElem?;intro k;simp only[zaB,px,xs,zaz];by_cases hk:k<len
    ·simp only[hk,dif_pos,Option.map_some];rw[(spec ⟨k,hk⟩).1]
    ·simp only[hk,dif_neg,not_false_eq_true,Option.map_none]
   have Bn:∀x∈xs,Ty.rO us x:=by
    intro x hx;obtain⟨i,hi⟩:=List.mem_ofFn.1 hx;subst hi;exact(spec i).2.2.1
   have dd:∀e∈px,e.length=us.length:=by
    intro e he;obtain⟨k,hk⟩:=List.getElem?_of_mem he;obtain⟨i,_,rfl⟩:=je k e hk;have:=congrArg List.length (spec i).1;rwa[List.length_map,Ty.I9] at this
   have jc:∀k j c,At px k j c->Good w c:=by
    rintro k j c ⟨e,he,hj⟩;obtain⟨i,_,rfl⟩:=je k e he;exact(spec i).2.1 c (List.mem_of_getElem? hj)
   have Dh:∀k j c,At px k j c->w.cell? ((a.add (k*us.length)).add j)=some c.val:=by
    rintro k j c ⟨e,he,hj⟩;obtain⟨i,rfl,rfl⟩:=je k e he;exact(spec i).2.2.2 j c hj
   refine vC.one (t:=.list us) (x:=xs) (pc:=.list us.length (some a) cap px) (by rw[PC.fN,Gr];rfl) (by simp[PC.val,asl]) ?_ ⟨by show xs.length<=maxLen;omega,fun x hx=>Bn x hx⟩;by_cases h0:px=[]
   ·rw[h0];exact .nil _ _ _ fO
   ·obtain⟨c0,gK⟩:=acg h0 fO dd;have h1:=Dh 0 0 c0 gK;rw[zas,abZ,abZ] at h1;have Dt:=an3 h1;rw[Dt] at Dh⊢;refine .cons _ _ _ _ _ h0 (by omega) fO dd (fun k j c hk=>?_) jc;have:=Dh k j c hk;rwa[vD,vD] at this
  ·cases h
theorem abf:∀(lm:Nat) (t:TypeId) (cs:List Value) (y:DataW H×List MemPlace) (n:Nat) (ts:List Ty),DataW.trod enc P w 0 sp held lm t cs=some y->Ic P n t=some ts->vC P w ts cs
 |0,t,cs,y,n,ts,h,ht=>by simp[DataW.trod] at h
 |lm+1,t,cs,y,0,ts,h,ht=>by simp[Ic] at ht
 |lm+1,t,cs,y,n+1,ts,h,ht=>by
  simp only[Ic] at ht;cases hu:P.underlying t with
  |none=>rw[hu] at ht;cases ht
  |some d=>
   rw[hu] at ht;cases d<;>simp only at ht<;>first|(cases ht;done)|skip
   case bool=>
    injection ht with ht;subst ht;rw[DataW.trod_step] at h;unfold DataW.trodStep at h;simp only[hu] at h;split at h<;>first|(cases h;done)|(rename_i gw;cases gw;done)|skip
    rename_i b gw;exact vC.one (t:=.bool) (x:=b) (pc:=.bool b) rfl rfl (.bool b) trivial
   case int k=>
    injection ht with ht;subst ht;rw[DataW.trod_step] at h;unfold DataW.trodStep at h;simp only[hu] at h;split at h<;>first|(cases h;done)|(rename_i gw;cases gw;done)|skip
    rename_i k1 k2 n2 gw;injection gw with gw;injection gw with gw;subst gw;split at h
    ·rename_i hc;obtain⟨rfl,hc⟩:=hc;simp only[Lit.wf,zan,decide_eq_true_eq] at hc;exact vC.one (t:=.int k2) (x:=n2) (pc:=.int k2 n2) rfl rfl (.int k2 n2) hc
    ·cases h
   case slice e=>
    split at ht
    ·rename_i us pU;split at ht
     ·rename_i fO;obtain⟨fO,kD⟩:=fO;injection ht with ht;subst ht;exact aB8 (fun cs y hy=>abf lm e cs y n us hy pU) fO kD hu h
     ·cases ht
    ·cases ht
   case struct fs=>
    rw[DataW.trod_step] at h;unfold DataW.trodStep at h;simp only[hu] at h;split at h<;>first|(cases h;done)|(rename_i gw;cases gw;done)|skip
    rename_i hlen;split at ht
    ·rename_i us pU;split at ht
     ·rename_i kD;injection ht with ht;subst ht;rw[zar] at h;obtain⟨ys,h1,h2⟩:=h;have:=ajB (P:=P) (w:=w) (fun t ts cs y h3 h4=>abf lm t cs y n ts h4 h3) cs fs.toList 0 us ys pU h1;rwa[List.drop_zero,<-kD,<-hlen,List.take_length] at this
     ·cases ht
    ·cases ht
end
end
section
open Go.ChangeShapes Go.WideShapes Go.ChangeAt Go.RowKit
def Fq:(as:aq)->bf as.be->Prop
 |[],_=>True
 |[a],x=>Ty.rO a.2 x
 |a::b::as,x=>Ty.rO a.2 x.1/\Fq (b::as) x.2
theorem aoq (a:K×List Ty) (as:aq) (x:Ty.DL a.2) (y:bf (aq.be as)):Ty.rO a.2 x->Fq as y->Fq (a::as) (OR a.2 (aq.be as) x y):=by
 intro h1 h2;cases as with
 |nil=>exact h1
 |cons b as=>exact⟨h1,h2⟩
def TX (P:Program) (t:TypeId) (a:K×List Ty):Bool:=
 match Ic P 30 t with
 |some ts=>Ty.vG ts a.2&&(match P.underlying t,a.1 with
  |some (.struct _),.agg=>true
  |some (.int _),.one=>true
  |some .bool,.one=>true
  |some (.slice _),.one=>true
  |_,_=>false)
 |none=>false
def FG (P:Program):List TypeId->aq->Bool
 |[],[]=>true
 |t::ts,a::as=>TX P t a&&FG P ts as
 |_,_=>false
section
variable {H:Type} {enc:TypeId×Value->H} {P:Program} {w w':World} {sp:Nat->Bool} {held:Bool}
theorem anC {t:TypeId} {a:K×List Ty} {v:Value} {d:DataW H} {ps:List MemPlace} (hc:TX P t a=true) (hv:Value.okWide P w .any 0 t v) (hd:DataW.Trod enc P w 0 sp held t v d ps):
  ∃x:Ty.DL a.2,EM w (a.1,Ty.bq a.2 x) v/\Ty.rO a.2 x:=by
 obtain⟨lm,hd⟩:=hd;unfold TX at hc;split at hc
 ·rename_i ts GC;simp only[zan] at hc;obtain⟨h1,h2⟩:=hc;have h1:=Ty.w6 h1;subst h1;obtain⟨x,cH,e1,e2,e3,e4⟩:=abf lm t v.cells.toList _ 30 a.2 hd GC;refine⟨x,?_,e4⟩;unfold Value.okWide at hv;have one:(∀cs,v≠ .agg cs)->a.1=.one->EM w (a.1,Ty.bq a.2 x) v:=by
   intro hn ha;have Dh:v.cells.toList=[v]:=by cases v<;>first|rfl|(rename_i cs;exact absurd rfl (hn cs))
   rw[ha];exact⟨cH,e1,e3,by rw[e2,Dh]⟩
  split at h2
  ·rename_i fs hu ha;rw[hu] at hv;obtain⟨cs,rfl,_,_⟩:=hv;rw[ha];exact⟨cH,e1,e3,by rw[e2];rfl⟩
  ·rename_i k hu ha;refine one (fun cs e=>?_) ha;subst e;rw[hu] at hv;simp[Cell.okWide,hu,Cell.ok] at hv
  ·rename_i hu ha;refine one (fun cs e=>?_) ha;subst e;rw[hu] at hv;simp[Cell.okWide,hu,Cell.ok] at hv
  ·rename_i e hu ha;refine one (fun cs e=>?_) ha;subst e;rw[hu] at hv;simp[Cell.okWide,hu,Cell.ok] at hv
  ·cases h2
 ·cases hc
theorem ace:∀{ts:List TypeId} {as:aq} {vs:List Value} {ds:List (DataW H)} {ps:List MemPlace},FG P ts as=true->(∀(j:Nat) (t:TypeId) (v:Value),ts[j]? =some t->vs[j]? =some v->Value.okWide P w .any 0 t v)->
  DataW.TrodAll enc P w 0 sp held ts vs ds ps->∃x:bf (aq.be as),LU w (d8 as x) vs/\Fq as x
 |[],[],vs,ds,ps,hc,hv,h=>by
  obtain⟨rfl,rfl,rfl⟩:=trodAll_nil h;exact⟨(),⟨rfl,by intro j d v hj;simp[d8] at hj⟩,trivial⟩
 |t::ts,a::as,vs,ds,ps,hc,hv,h=>by
  simp only[FG,zan] at hc;obtain⟨v,vs1,d,ds1,p,q,rfl,rfl,rfl,h1,h2⟩:=trodAll_cons h;obtain⟨x,a1,a2⟩:=anC hc.1 (hv 0 t v rfl rfl) h1;obtain⟨y,b1,b2⟩:=ace hc.2 (fun j t v h3 h4=>hv (j+1) t v (by simpa using h3) (by simpa using h4)) h2;refine⟨OR a.2 (aq.be as) x y,?_,aoq a as x y a2 b2⟩;rw[adm];refine⟨by simp[b1.1],fun j d v hj fH=>?_⟩;cases j with
  |zero=>simp at hj fH;subst hj;subst fH;exact a1
  |succ j=>exact b1.2 j d v (by simpa using hj) (by simpa using fH)
 |[],_::_,vs,ds,ps,hc,hv,h=>by simp[FG] at hc
 |_::_,[],vs,ds,ps,hc,hv,h=>by simp[FG] at hc
theorem amy (hw:∀b,b<w.heap.size->w'.heap[b]? =w.heap[b]?):∀{ts:List TypeId} {vs:List Value} {ds:List (DataW H)} {ps:List MemPlace},DataW.TrodAll enc P w 0 sp held ts vs ds ps->DataW.TrodAll enc P w' 0 sp held ts vs ds ps
 |[],[],[],_,h=>h
 |t::ts,v::vs,d::ds,_,⟨p,q,⟨n,h1⟩,h2,e⟩=>by
  refine⟨p,q,⟨n,DataW.trod_carry n t _ _ h1 fun pl lO=>?_⟩,amy hw h2,e⟩;have cC:=DataW.trod_lt n t _ _ h1 pl lO;cases pl with
  |cell b o=>
   have hb:=hw b cC;simp only[World.sameAt,World.cell?,hb]
  |map b=>exact hw b cC
 |[],[],_::_,_,h=>h.elim
 |[],_::_,_,_,h=>h.elim
 |_::_,[],_,_,h=>h.elim
 |_::_,_::_,[],_,h=>h.elim
theorem avu (h1:w'.os=w.os) (h2:w'.output=w.output) (hw:∀b,b<w.heap.size->w'.heap[b]? =w.heap[b]?) (may:MemPlace->Prop):w.keptBut w' may:=by
 have Fv:=World.keptBut_refl w may;refine⟨h1,h2,fun i hi=>?_⟩;rw[hw i hi];exact Fv.2.2 i hi
theorem aAn {f:Func} {s:ChangeSpec} {apart UP U5 Tq:Bool} {W W':World} {args:Array Value} {v:Value} {ds gs:List (DataW H)} {vF pa pv:List MemPlace}
  (hW:DataW.Whole enc P f.params.toList s.vars apart W args.toList ds gs vF)
  (afI:∀(b:Nat) (sp:Nat->Bool) (hd:Bool),DataW.TrodAll enc P W' b sp hd f.resultTypes.toList (v.resultList f.resultTypes.size) (s.fn H (ds++gs)).results [])
  (PJ:∀sp:Nat->Bool,(∀p∈vF,sp p.block=true)->DataW.TrodAll enc P W' 0 sp true f.params.toList args.toList (s.fn H (ds++gs)).args pa)
  (afP:∀sp:Nat->Bool,(∀p∈vF,sp p.block=true)->DataW.TrodVars enc P W' sp s.vars (s.fn H (ds++gs)).vars pv)
  (ig:vF=pa++pv) (hk:W.keptBut W' (·∈vF)) (PR:∀a:Addr,a.block<W.heap.size->W'.frozen? a=W.frozen? a)
  (fT:∀(j:Nat) (t:TypeId) (r:Value),f.resultTypes[j]? =some t->(v.resultList f.resultTypes.size)[j]? =some r->Value.okWide P W' .any 0 t r):
  s.post enc P f apart UP U5 Tq W args v W':=by
 have hold:∀p∈vF,(fun b=>decide (b<W.heap.size)) p.block=true:=fun p hp=>by simpa using hW.lt p hp
 have cC:=hW.lt;refine⟨ds,gs,vF,[],pa,pv,hW,afI _ _ _,PJ _ hold,afP _ hold,World.keptBut_mono (fun p hp=>⟨hp,?_⟩) hk,fun _=>?_⟩
 ·rw[ig,zae] at hp;exact Or.inr hp
 ·obtain⟨_,_,_,_,_,hz,hn⟩:=hW;refine⟨fT,_,_,([]++pa)++pv,⟨[]++pa,pv,trodAll_append (PJ _ (fun _ _=>rfl)) (afI _ _ _),afP _ (fun _ _=>rfl),rfl,?_,?_⟩,?_⟩
  ·intro b off hp;have cd:MemPlace.cell b off∈vF:=by rw[ig];simpa using hp
   rw[PR ⟨b,off,none⟩ (cC _ cd)];exact hz b off cd
  ·intro ha;have:=hn ha;rw[ig] at this;simpa using this
  ·intro p hp _;rw[ig];simpa using hp
theorem aA0 {bO:List (K×List PC)} {b:Bool} (h:bO.map (fun p=>(p.1,p.2.map PC.er))=[(K.one,[C.bool b])]):ye bO=.bool b:=by
 match bO,h with
 |[],h=>simp at h
 |_::_::_,h=>simp at h
 |[(k,cH)],h=>
  simp only[zai,zat,zaF,Prod.mk.injEq,and_true] at h;obtain⟨rfl,h⟩:=h;match cH,h with
  |[],h=>simp at h
  |_::_::_,h=>simp at h
  |[pc],h=>
   simp only[zai,zat,zaF,and_true] at h;cases pc with
   |bool b=>simp[PC.er] at h;subst h;rfl
   |int k n=>simp[PC.er] at h
   |list sz a cap xs=>rw[PC.fN] at h;cases h
theorem amz:∀{ts:List TypeId} {vs:List Value} {ds:List (DataW H)} {ps:List MemPlace},DataW.TrodAll enc P w 0 sp held ts vs ds ps->ds.length=ts.length
 |[],vs,ds,ps,h=>by obtain⟨rfl,rfl,rfl⟩:=trodAll_nil h;rfl
 |t::ts,vs,ds,ps,h=>by
  obtain⟨v,vs1,d,ds1,p,q,rfl,rfl,rfl,h1,h2⟩:=trodAll_cons h;simp[amz h2]
def ae5 (P:Program):Bool:=(List.range P.types.size).all fun t=>match P.underlying t with|some (.slice e)=>decide (0<P.cellsOf e)|_=>true
theorem avU {f:FuncId} {fn:Func} {s:ChangeSpec} {sg:aq} {M:List Dv->Option (List Dv)} {tb:TypeId} (hl:laidOutB P=true) (hmr:mapsRowed P=true)
  (hz:ae5 P=true)
  (GC:∀t∈fn.params.toList,t<P.types.size)
  (hp:FG P fn.params.toList sg=true) (hr:fn.resultTypes=#[tb]) (hb:P.underlying tb=some .bool) (hs:s.vars=[])
  (Dt:∀ds:List (DataW H),ds.length=fn.params.toList.length->(s.fn H ds).results=[.lit (.bool true)]/\(s.fn H ds).args=ds/\(s.fn H ds).vars=[])
  (aso:dP P f M) (hM:∀x:bf (aq.be sg),Fq sg x->M (d8 sg x)=some [(.one,[.bool true])]) {apart UP U5 Tq:Bool}
  {W:World} {Fv:Nat} {args:Array Value} {ds gs:List (DataW H)} {vF:List MemPlace}
  (Bl:∀(j:Nat) t v,fn.params[j]? =some t->args[j]? =some v->Value.okWide P W .any Fv t v) (hW:DataW.Whole enc P fn.params.toList s.vars apart W args.toList ds gs vF):
  Calls P f args W fun e W'=>∃v,e=.returned v/\s.post enc P fn apart UP U5 Tq W args v W':=by
 have hW':=hW;obtain⟨p,q,hA,hV,rfl,PR,iI⟩:=hW;rw[hs] at hV;obtain⟨rfl,rfl⟩:=trodVars_none hV;obtain⟨x,hx,Bn⟩:=ace hp (fun j t v h1 h2=>Value.okWide_any_base<|Bl j t v (by rw[<-zau];exact h1) (by rw[<-zau];exact h2)) hA;have afo:=aso _ _ (hM x Bn) W args.toList hx;have yS:args.toList.toArray=args:=by cases args;rfl
 rw[yS] at afo;refine afo.mono fun e W' ⟨bO,p1,p2,p3,p4,p5⟩=>?_;have hv:=aA0 p1;have n8:∀b,b<W.heap.size->W'.heap[b]? =W.heap[b]? :=fun b hb=>p5.block b hb id;have hlen:=amz hA;obtain⟨s1,s2,s3⟩:=Dt ds hlen;refine⟨_,p2,?_⟩;rw[hv];refine aAn (pa:=p) (pv:=[]) hW' (fun _ _ _=>?_) (fun sp Dt=>?_) (fun _ _=>?_) (by simp) (avu p5.os p5.output n8 _) (fun a ha=>?_) ?_
 ·rw[zav,s1,hr];exact trodAll_cons_mk (shut_bool hb _) trodAll_mk0
 ·rw[zav,s2];exact DataW.TrodAll.respare (kids_rows hl hmr) (slices_full_of P hz) GC (amy n8 hA) (fun pl lO=>Dt pl (by simpa using lO))
 ·rw[zav,hs,s3];rfl
 ·simp only[World.frozen?,n8 a.block ha]
 ·rw[hr];rw[<-hr];exact ok_one hr rfl (okWide_bool_mk hb _)
end
theorem aDx {P:Program} {bg:aq} {b:K×List Ty} {args:aq} (hb:bg=b::args) {T:List aE} (hT:aB P T) (hm:P.follows .mixedOrders=true) {f:FuncId} {sc:bN} {ms:List bK} {mu:bi} {aH:aq} (hc:cG P f sc.er ms (b::args).length=true)
  (F:bf (aq.be (iA::iA::b::args))->Option (bf aH.be)) (hF:∀x y,F x=some y->K7 aI T sc ms mu.mI (b::args) aH x.1 x.2.1 x.2.2=some y):CL P f mu.mI (aE.MX ⟨f,iA::iA::b::args,mu,aH,F⟩)/\cc P f=true:=
 aDw hT hm hc F hF
end

end Go.Am
