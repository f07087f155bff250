/- M109, L_BlockPair, Br1, Br2, WT: parts of the proof. No condition. -/
import Derived.Test.YtaaeocdagekdcaaM108
import Derived.Test.YtaaeocdagekdcaaM66
import GoSem.ClaimChange
import Derived.ChangeReads
import Derived.ReadAgain
import Derived.ChangeSame
import Derived.WalkKit
import Derived.ProofKit
import Derived.OpenShut
set_option linter.unusedVariables false
set_option linter.unusedSimpArgs false
set_option maxRecDepth 20000
open List renaming length_map->co,length_append->AI,getD_eq_getElem?_getD->AT,append_nil->BY,getElem?_eq_getElem->GB,getElem?_map->If,map_append->OF,length_filter_le->Pd,mem_append->Pe,mem_filter->zaa,getElem?_range->zae,map_cons->zaf,getElem?_ofFn->zag,length_range->zai,map_nil->zaj,getElem_mem->zak,take_length->zal,length_cons->zam,length_nil->zan,mapM_cons->zap,mem_map->zaq,length->zas
open Bool renaming and_eq_true->wt
open Classical renaming choose_spec->AN,choose->IS
open Sum renaming inl->By,inr->zar
open Option renaming bind_eq_some_iff->IN,map_eq_some_iff->IT
open Array renaming getElem?_toList->zab
open Nat renaming mul_le_mul_right->zac,mul_le_mul->zad,zero_le->zat
open Int renaming toNat_natCast->zah
open List.cons renaming injEq->zao
namespace Go.Am
def Ks (NN:Nat):((Int×(Int×Int))×((U×(U×U))×((Int×(List U))×((U×(U×U))×(Int×(List U))))))->(Option ((U×(U×U))×(Int×Bool))):=
 (fun(((i0,i1,i2),(l3,l4,l5),(i6,l7),(l8,l9,bS),dX,cB):((Int×(Int×Int))×((U×(U×U))×((Int×(List U))×((U×(U×U))×(Int×(List U)))))))=>
 (vN ((i0,i1,i2),(l3,l4,l5),i6,l7)).ae (fun As=>
 au (df As)
 (some ((([]:U),([]:U),([]:U)),(0:Int),false))
 ((vN ((i0,i1,i2),(l8,l9,bS),dX,cB)).ae (fun ED=>
 au (df ED)
 (some ((([]:U),([]:U),([]:U)),(0:Int),false))
 (au (fy i6 dX)
 (some ((([]:U),([]:U),([]:U)),(0:Int),false))
 ((Hc ((l3,l4,l5),(i6,l7),(l8,l9,bS),dX,cB)).ae (fun TX=>
 au (df TX)
 (some ((([]:U),([]:U),([]:U)),(0:Int),false))
 ((Ew ((l3,l4,l5),l8)).ae (fun dm=>
 (Ew ((l8,l9,bS),l3)).ae (fun dA=>
 ah dm (
 (bc dA 0 (ab dA)).ae (fun d7=>
 (iN (av (ab dm) (ab d7)) 8).ae (fun _=>
 (bc (dn dm d7) 0 (av (ab dm) (ab d7))).ae (fun eY=>
 (G5 ((l3,l4,l5),(l8,l9,bS),eY)).ae (fun b20=>
 au (df b20)
 (some ((([]:U),([]:U),([]:U)),(0:Int),false))
 ((yF ((l3,l4,l5),l8,l9,bS)).ae (fun(ir,dP,b23)=>
 (bc ir 0 (ab ir)).ae (fun dq=>
 (bc dP 0 (ab dP)).ae (fun fi=>
 (bc (dn dm d7) 0 (av (ab dm) (ab d7))).ae (fun gj=>
 (Aj (dq,fi,gj)).ae (fun(gB,ii,gK)=>
 (bc gB 0 (ab gB)).ae (fun lZ=>
 (bc ii 0 (ab ii)).ae (fun lC=>
 (Ai ((i0,i1,i2),lZ,lC)).ae (fun(hH,iP,lD)=>
 (Cq ((i0,i1,i2),(l3,l4,l5),i6,l7)).ae (fun gp=>
 bK ((aO 0 (av (ab dm) (ab d7)) (ab (dn dm d7))).ae (fun _=>
 (aO 0 0 (ab (([]:U)))).ae (fun _=>
 (aO 0 0 (ab (([]:U)))).ae (fun _=>
 (aO 0 0 (ab (([]:U)))).ae (fun _=>
 ah hH (
 ah iP (
 ah lD (
 cj NN (fun(((ub,jZ,kZ,ud),(xT,nE,qu),(kN,jh,o8),(oh,ja),(jO,oB,j0),(vh,ng),qC,qD,nI,iu,nK,nM,oC):((Int×((List (U×(U×(U×U))))×(Int×Int)))×((Int×(Int×Int))×((U×(U×U))×((Int×(List U))×((U×(U×U))×((Int×(List U))×(U×(U×(U×(U×(U×(U×U)))))))))))))=>
 au (bO ud kZ)
 (bK ((bF jZ ud).ae (fun(rB,nN,mQ,o9)=>
 (Cq ((xT,nE,qu),(jO,oB,j0),vh,ng)).ae (fun rC=>
 ah oC (
 ah qC (
 ah qD (
 ah nI (
 ah iu (
 ah nK (
 ah nM (
 cj NN (fun(((zt,nO,rr,zu,wC,Mb,IW),(Dg,Dh,Di),(sA,nP,nh),(PU,lE),(qE,ni,uq),(zv,tp),(zK,wD,vp,tq),ur,pU,qF,nj,km,kA,qG):((Int×((List (U×(U×(U×U))))×(Int×(Int×((List (U×(U×(U×U))))×(Int×Int))))))×((Int×(Int×Int))×((U×(U×U))×((Int×(List U))×((U×(U×U))×((Int×(List U))×((U×(U×(U×U)))×(U×(U×(U×(U×(U×(U×U))))))))))))))=>
 au (bO IW Mb)
 (bK ((bF wC IW).ae (fun(uu,tr,pV,nQ)=>
 (Ha ((sA,nP,nh),zK,(qE,ni,uq),uu,PU)).ae (fun TW=>
 au (df TW)
 (ah qG (
 ah ur (
 ah pU (
 ah qF (
 ah nj (
 ah km (
 ah kA (
 some (By ((IW,zt,nO,rr,zu,wC,Mb),(Dg,Dh,Di),(sA,nP,nh),(PU,lE),(qE,ni,uq),(zv,tp),(zK,wD,vp,tq),ur,pU,qF,nj,km,kA,qG))))))))))
 ((bc qG 0 (ab qG)).ae (fun pR=>
 (G6 ((Dg,Dh,Di),(wD,vp,tq),(tr,pV,nQ),pR)).ae (fun(mN,nG,ul)=>
 (GX ((wD,vp,tq),tr,pV,nQ)).ae (fun arQ=>
 bK (ah qG (
 (aO 0 0 (ab (([]:List U)))).ae (fun _=>
 ah nj (
 ah ur (
 ah pU (
 ah qF (
 ah nj (
 ah km (
 ah kA (
 ah mN (
 ah nG (
 ah ul (
 cj NN (fun(((LW,oZ,WJ,Ft,wz,LX,Fu,LY,IK),(LZ,L3,L4),(ry,si,uo),(Dc,rz),(rA,vn,BF),(L6,ox),(tm,sj,sk,vo),(x9,BG,FG,FH),qx,qy,oy,pT,qz,qA,oz,m9,nH,kx,ky):((Int×((List (U×(U×(U×U))))×(Int×(Int×((List (U×(U×(U×U))))×(Int×(Int×(Int×Int))))))))×((Int×(Int×Int))×((U×(U×U))×((Int×(List U))×((U×(U×U))×((Int×(List U))×((U×(U×(U×U)))×((U×(U×(U×U)))×(U×(U×(U×(U×(U×(U×(U×(U×(U×(U×(List U))))))))))))))))))))=>
 au (bO IK LY)
 ((cN IK (ab pT)).ae (fun asL=>
 (bQ pT (av 0 asL)).ae (fun aeG=>
 (mW (ry,aeG)).ae (fun WL=>
 au (fR (0:Int) WL)
 ((bF rz WL).ae (fun nc=>
 (bF tm WL).ae (fun arV=>
 (vO (nc,arV)).ae (fun kz=>
 (ed kz (ab kz)).ae (fun tn=>
 ah ky (
 (aO 0 1 (ab ((tn::([]:List U))))).ae (fun _=>
 (iN (av (ab ky) (ab ((tn::([]:List U))))) 24).ae (fun _=>
 ah kx (
 (aO 0 (av (ab ky) (ab ((tn::([]:List U))))) (ab (dn ky ((tn::([]:List U)))))).ae (fun _=>
 ah pT (
 ah qx (
 ah qy (
 ah oy (
 ah pT (
 ah qz (
 ah qA (
 ah oz (
 ah m9 (
 ah nH (
 some (By ((LW,oZ,WJ,Ft,wz,LX,Fu,LY,bo .i64 IK 1),(LZ,L3,L4),(ry,si,uo),(Dc,rz),(rA,vn,BF),(L6,ox),(tm,sj,sk,vo),(x9,BG,FG,FH),qx,qy,oy,pT,qz,qA,oz,m9,nH,kx,dn ky ((tn::([]:List U)))))))))))))))))))))))))
 ((mW (rA,aeG)).ae (fun xS=>
 (bF ox xS).ae (fun Du=>
 (bF x9 xS).ae (fun aeH=>
 (vO (Du,aeH)).ae (fun I8=>
 (ed I8 (ab I8)).ae (fun Mq=>
 ah ky (
 (aO 0 1 (ab ((Mq::([]:List U))))).ae (fun _=>
 (iN (av (ab ky) (ab ((Mq::([]:List U))))) 24).ae (fun _=>
 ah kx (
 (aO 0 (av (ab ky) (ab ((Mq::([]:List U))))) (ab (dn ky ((Mq::([]:List U)))))).ae (fun _=>
 ah pT (
 ah qx (
 ah qy (
 ah oy (
 ah pT (
 ah qz (
 ah qA (
 ah oz (
 ah m9 (
 ah nH (
 some (By ((LW,oZ,WJ,Ft,wz,LX,Fu,LY,bo .i64 IK 1),(LZ,L3,L4),(ry,si,uo),(Dc,rz),(rA,vn,BF),(L6,ox),(tm,sj,sk,vo),(x9,BG,FG,FH),qx,qy,oy,pT,qz,qA,oz,m9,nH,kx,dn ky ((Mq::([]:List U))))))))))))))))))))))))))))))
 ((ah kx (
 ah ky (
 ah qx (
 ah qy (
 ah oy (
 ah pT (
 ah qz (
 ah qA (
 ah oz (
 ah m9 (
 ah nH (
 some (By ((LX,wz,Ft,WJ,oZ,LW,Fu),(LZ,L3,L4),(ry,si,uo),(Dc,rz),(rA,vn,BF),(L6,ox),(tm,sj,sk,vo),qx,qy,oy,pT,qz,qA,oz,m9,nH,kx,ky)))))))))))))).ae (fun FI=>
 some (zar FI))))
 ((bo .i64 zt arQ,nO,rr,zu,wC,Mb,IW,aD (ab nj),(0:Int)),(Dg,Dh,Di),(sA,nP,nh),(PU,lE),(qE,ni,uq),(zv,tp),(zK,wD,vp,tq),(uu,tr,pV,nQ),ur,pU,qF,nj,km,kA,mN,nG,ul,qG,([]:List U)))))))))))))))
 (fun((WM,wB,arX,PO,BH,WN,L9),(Ma,WO,PP),(Xq,Qb,Ms),(arY,Mu),(Qc,FJ,I9),(arZ,Ja),(Jb,Jc,Jd,Qe),Mv,Mw,Qf,Xr,Xs,Xt,Mx,My,Mz,Qg,Qh)=>
 ah Qg (
 ah Qh (
 ah Mv (
 ah Mw (
 ah Qf (
 ah Xr (
 ah Xs (
 ah Xt (
 ah Mx (
 ah My (
 ah Mz (
 cj NN (fun(((aeI,PQ,afe,aeJ,aeK,aff,aeL,aeM),(IL,IM,IP),(afg,afh,afi),(aeN,afj),(afk,afl,afm),(aeO,afn),(afo,afp,afq,afr),Qi,Qj,Qk,Dy,zJ,FK,Ql,Dz,Qm,Qn,Qo):((Int×(Int×((List (U×(U×(U×U))))×(Int×(Int×((List (U×(U×(U×U))))×(Int×Int)))))))×((Int×(Int×Int))×((U×(U×U))×((Int×(List U))×((U×(U×U))×((Int×(List U))×((U×(U×(U×U)))×(U×(U×(U×(U×(U×(U×(U×(U×(U×(U×(List U)))))))))))))))))))=>
 (bc Dz 0 (ab Dz)).ae (fun auE=>
 (pC (auE,(4096:Int))).ae (fun ar0=>
 au (bO PQ ar0)
 ((bc Dz 0 (ab Dz)).ae (fun auF=>
 (xg (auF,PQ)).ae (fun afs=>
 (bc Qo 0 (ab Qo)).ae (fun auG=>
 (bc afs 0 (ab afs)).ae (fun auH=>
 (Cp (auG,auH)).ae (fun aft=>
 (bc zJ 0 (ab zJ)).ae (fun auI=>
 (bc aft 0 (ab aft)).ae (fun auJ=>
 (Ah (auI,auJ)).ae (fun aeP=>
 (bc Dy 0 (ab Dy)).ae (fun auK=>
 (bc zJ 0 (ab zJ)).ae (fun auL=>
 (bc FK 0 (ab FK)).ae (fun auM=>
 (pB ((IL,IM,IP),(auK,auL,auM),aeP)).ae (fun afu=>
 (bc Ql 0 (ab Ql)).ae (fun auN=>
 (bc Dz 0 (ab Dz)).ae (fun auO=>
 (bc Qm 0 (ab Qm)).ae (fun auP=>
 (pB ((IL,IM,IP),(auN,auO,auP),PQ)).ae (fun afv=>
 (bc afu 0 (ab afu)).ae (fun auQ=>
 (bc afv 0 (ab afv)).ae (fun auR=>
 (Cl ((IL,IM,IP),auQ,auR)).ae (fun afw=>
 (bc Dy 0 (ab Dy)).ae (fun auS=>
 (bc zJ 0 (ab zJ)).ae (fun auT=>
 ah FK (
 (bc afw 0 (ab afw)).ae (fun auU=>
 (xi ((IL,IM,IP),(auS,auT,FK),aeP,auU)).ae (fun afx=>
 ah Qn (
 ah Qo (
 ah Qi (
 ah Qj (
 ah Qk (
 ah Dy (
 ah zJ (
 (aO 0 (ab FK) (ab afx)).ae (fun _=>
 ah Ql (
 ah Dz (
 ah Qm (
 some (By ((aeI,bo .i64 PQ 1,afe,aeJ,aeK,aff,aeL,aeM),(IL,IM,IP),(afg,afh,afi),(aeN,afj),(afk,afl,afm),(aeO,afn),(afo,afp,afq,afr),Qi,Qj,Qk,Dy,zJ,afx,Ql,Dz,Qm,Qn,Qo))))))))))))))))))))))))))))))))))))))
 ((ah Qn (
 ah Qi (
 ah Qj (
 ah Qk (
 ah Dy (
 ah zJ (
 ah FK (
 some (By ((aeM,aeI,afe,aeJ,aeK,aff,aeL),(IL,IM,IP),(afg,afh,afi),(aeN,afj),(afk,afl,afm),(aeO,afn),(afo,afp,afq,afr),Qi,Qj,Qk,Dy,zJ,FK,Qn)))))))))).ae (fun auV=>
 some (zar auV))))))
 ((WN,(0:Int),BH,PO,arX,wB,WM,L9),(Ma,WO,PP),(Xq,Qb,Ms),(arY,Mu),(Qc,FJ,I9),(arZ,Ja),(Jb,Jc,Jd,Qe),Mv,Mw,Qf,Xr,Xs,Xt,Mx,My,Mz,Qg,Qh))))))))))))))))))))
 (fun((ar1,ar2,auW,ar3,ar4,auX,ar5),(ar6,ar7,ar8),(auY,auZ,au0),(ar9,au1),(au2,au3,au4),(asa,au5),(au6,au7,au8,au9),afy,afz,afA,afB,afC,afD,afE)=>
 ah afE (
 ah afy (
 ah afz (
 ah afA (
 ah afB (
 ah afC (
 ah afD (
 some (By ((ar2,auW,ar3,ar4,auX,ar5,bo .i64 ar1 1),(ar6,ar7,ar8),(auY,auZ,au0),(ar9,au1),(au2,au3,au4),(asa,au5),(au6,au7,au8,au9),afy,afz,afA,afB,afC,afD,afE)))))))))))
 ((ah qG (
 ah ur (
 ah pU (
 ah qF (
 ah nj (
 ah km (
 ah kA (
 some (By ((zu,zt,nO,rr),(Dg,Dh,Di),(sA,nP,nh),(PU,lE),(qE,ni,uq),(zv,tp),ur,pU,qF,nj,km,kA,qG)))))))))).ae (fun ava=>
 some (zar ava))))
 ((ub,jZ,kZ,ud,rC,aD (ab rC),(0:Int)),(xT,nE,qu),(kN,jh,o8),(oh,ja),(jO,oB,j0),(vh,ng),(rB,nN,mQ,o9),qC,qD,nI,iu,nK,nM,oC)))))))))))
 (fun((asb,asc,avb,asd),(ase,asf,asg),(avc,avd,ave),(ash,avf),(avg,avh,avi),(asi,avj),afF,afG,afH,afI,afJ,afK,afL)=>
 ah afL (
 ah afF (
 ah afG (
 ah afH (
 ah afI (
 ah afJ (
 ah afK (
 some (By ((asc,avb,asd,bo .i64 asb 1),(ase,asf,asg),(avc,avd,ave),(ash,avf),(avg,avh,avi),(asi,avj),afF,afG,afH,afI,afJ,afK,afL)))))))))))
 ((ah qC (
 ah qD (
 ah nI (
 ah iu (
 ah nK (
 ah nM (
 some (By (ub,qC,qD,nI,iu,nK,nM))))))))).ae (fun avk=>
 some (zar avk))))
 (((0:Int),gp,aD (ab gp),(0:Int)),(i0,i1,i2),(l3,l4,l5),(i6,l7),(l8,l9,bS),(dX,cB),([]:U),([]:U),([]:U),hH,iP,lD,dn dm d7)))))))))
 (fun(asj,aBQ,aBR,aBS,afM,afN,afO)=>
 (ed afM (ab afM)).ae (fun avl=>
 (ed afN (ab afN)).ae (fun avm=>
 (ed afO (ab afO)).ae (fun avn=>
 some ((avl,avm,avn),asj,true))))))))))))))))))))))))))))))
def Ag:((Int×(Int×Int))×((U×(U×U))×((Int×(List U))×((U×(U×U))×(Int×(List U))))))->(Option ((U×(U×U))×(Int×Bool))):=Ks aN
theorem apQ (x:((Int×(Int×Int))×((U×(U×U))×((Int×(List U))×((U×(U×U))×(Int×(List U))))))) (z:((U×(U×U))×(Int×Bool))) (h:Ag x=some z):Ks aN x=some z:=h
section
variable {r:Rg} {La Da A:U} {Ra:List U} {Lb Db B:U} {Rb:List U} {m:Int}
theorem anT (H:BP r La Da A Ra Lb Db B Rb m) (S:U) (l:List Nat):(tV r La Da A Lb Db B S l).length=aC (S.map (jd La Da Lb Db))*ax r:= vQ fun n _=>jv (yK (mg H.ta).1 (Ix (mg H.ta).1 (Gv H.p.wZ H.p.w4 H.ta H.tb) _ n) l)
theorem azl {r:Rg} {L D:U} {g:Nat->U} {x:U} (hr:eG r=true) (b:∀i,(g i).length=ax r) (hx:x.length=ax r) (d:aC D<=4096) {o:Nat} (c:o<aC D): xi (r,(L,D,eP g (aC D)),(o:Int),x)=some (eP (fun a=>if a=o then x else g a) (aC D)):=by have f:=mq hr;have hl:(eP g (aC D)).length=aC D*ax r:=vQ fun i _=>b i;have e:(o+1)*ax r<=aC D*ax r:=zac _ c;have h2:aC D*ax r<=4096*6:=zad d f.2.2;rw[Nat.add_mul,Nat.one_mul] at e;rw[<-Yu hx (fun i _=>b i) c];exact aj ⟨hr,by dsimp only;omega,by dsimp only;rw[zah,hl,hx];omega,by dsimp only;rw[hl];omega⟩
theorem adU {r:Rg} {L D:U} {g:Nat->U} (hr:eG r=true) (a:∀i,(g i).length=ax r) (c:aC D<=4096) {o:Nat} (b:o<aC D): pB (r,(L,D,eP g (aC D)),(o:Int))=some (g o):=by have e:=mq hr;have hl:(eP g (aC D)).length=aC D*ax r:=vQ fun i _=>a i;have d:(o+1)*ax r<=aC D*ax r:=zac _ b;have h2:aC D*ax r<=4096*6:=zad c e.2.2;rw[<-Nq (fun i _=>a i) b];exact aj ⟨hr,by dsimp only;omega,by dsimp only;rw[zah,hl];exact d,by dsimp only;rw[hl];omega⟩
theorem avC {α β:Type} {l:List α} {f:α->β} {i:Nat} {d:α} (h:i<l.length):(l.take (i+1)).map f=(l.take i).map f++[f (l.getD i d)]:=by rw[R8 (d:=d) h,OF];rfl
set_option maxHeartbeats 8000000 in
theorem az6 (H:BP r La Da A Ra Lb Db B Rb m):Ag (r,(La,Da,A),(m,Ra),(Lb,Db,B),m,Rb)=some (EF r La Da A Ra Lb Db B Rb m):=by
 have P:=H.p;have T:=H.two;have hd:=H.cd;have l1:=P.la;have l2:=P.lb;have l3:=P.lJ;have Oc:=P.HA.cB;have Ar:=P.HB.cB;have ra:=P.HA.rl;have rb:=P.HB.rl;have hr:=(mg H.ta).1;have hw:=mq hr;have OI:=H.anS (ov La Lb);have abG:=anT H (ov La Lb);obtain⟨c,g,f⟩:=r;simp only[Ag,Ks,ah];generalize Fl:(c,g,f)=r at*
 rw[show vN (r,(La,Da,A),m,Ra)=some (oO r (La,Da,A) (m,Ra)) from aj hd.1,H.ca]
 simp only[aB];rw[show df true=false from rfl,iU,show vN (r,(Lb,Db,B),m,Rb)=some (oO r (Lb,Db,B) (m,Rb)) from aj hd.2,H.cb]
 simp only[aB];rw[show df true=false from rfl,iU,aW (me rfl),alj A B m P.HA P.HB l1 l2,decide_eq_true H.o]
 simp only[aB];rw[show df true=false from rfl,iU,ai3 La Da A Lb (by omega) (by omega)]
 simp only[aB];rw[ai3 Lb Db B La (by omega) (by omega)];simp only[aB,eH];have Fe:=Pd (fun x=> !decide (x∈Lb)) La;have LH:=Pd (fun x=> !decide (x∈La)) Lb;rw[kv (by simp only[av,ab,eD];omega)];simp only[aB];obtain⟨K,hK⟩:∃K,dn (La.filter fun x=> !decide (x∈Lb)) (Lb.filter fun x=> !decide (x∈La))=K:=⟨_,rfl⟩;have hKl:K.length<=24:=by rw[<-hK];show((La.filter _)++(Lb.filter _)).length<=24;rw[AI];omega
 have hKk:I6 La Lb K=ov La Lb:=afc fun v E=>by
  rw[<-hK];show v∈(La.filter _)++(Lb.filter _)↔_;rw[Pe,zaa,zaa];constructor
  ·rintro(⟨_,h⟩|⟨_,h⟩) ⟨h1,N⟩
   ·rw[decide_eq_true N] at h;exact absurd h (by decide)
   ·rw[decide_eq_true h1] at h;exact absurd h (by decide)
  ·intro h;rcases x4 E with q|q
   ·exact .inl ⟨q,by rw[decide_eq_false fun N=>h ⟨q,N⟩];rfl⟩
   ·exact .inr ⟨q,by rw[decide_eq_false fun N=>h ⟨N,q⟩];rfl⟩
 have hKa:av (ab (La.filter fun x=> !decide (x∈Lb))) (ab (Lb.filter fun x=> !decide (x∈La)))=ab K:=by
  rw[<-hK];show _=((La.filter _)++(Lb.filter _)).length;rw[AI];rfl
 rw[hK,hKa];simp only[eH,aB,be];obtain⟨S,hS⟩:∃S,ov La Lb=S:=⟨_,rfl⟩;have Pl:(jL La Lb).filter (fun x=>decide (x∈K))=S:=by rw[<-hS,<-hKk];rfl
 have M:∀v∈S,v∈jL La Lb:=fun v E=>by rw[<-Pl] at E;exact(zaa.1 E).1
 have nS:S.Nodup:=by rw[<-Pl];exact P.nJ.filter _
 rw[T.aAl A B (by omega),Pl];simp only[aB];unfold EF;rw[hS] at OI abG⊢;have iZ:AB r La Da A Lb Db B S=if(decide (aC (cq La Da Lb Db)<=65536)&&decide (0<=fg S (S.map (jd La Da Lb Db))))=true then(yV r La Da A Lb Db B S,true) else(([],[],[]),false):=by
  unfold AB;exact xY (by rw[wt,decide_eq_true_eq,decide_eq_true_eq]) _ _
 rw[iZ];cases Iq:(decide (aC (cq La Da Lb Db)<=65536)&&decide (0<=fg S (S.map (jd La Da Lb Db)))) with
 |false=>
  rw[show df false=true from rfl,lN]
  rfl
 |true=>
  rw[wt,decide_eq_true_eq,decide_eq_true_eq] at Iq;obtain⟨hP,za⟩:=Iq;obtain⟨xs,rk,dS,pN⟩:=Sb za;have M7:=gH xs;rw[show df true=false from rfl,iU,T.Rx]
  simp only[aB,eH];rw[show Aj (jL La Lb,cq La Da Lb Db,K)=some (S,S.map (jd La Da Lb Db),[]) by
   have:=Y4 (J:=jL La Lb) (keep:=K) (jd La Da Lb Db) (by omega) (by omega);rw[Pl] at this;exact this]
  simp only[aB,eH];obtain⟨s,L⟩:∃s,S.map (jd La Da Lb Db)=s:=⟨_,rfl⟩;have du:Ai (r,S,s)=some (S,s,tV r La Da A Lb Db B S []):=by
   unfold tV;rw[L];have:=show Ai (r,S,s)=some (S,s,pq (eX r) (aC s)) from aj ⟨hr,by dsimp only;omega,⟨by rw[<-L,co];omega,by rw[<-L];exact dS,by rw[<-L];exact rk⟩⟩
   rw[this,QP];rfl
  have an4:∀l,tV r La Da A Lb Db B S l=eP (fun n=>SL r (sY r (nV r La Da A Lb Db B) (pn La Da Lb Db S s) n) l) (aC s):=fun l=>by unfold tV;rw[L]
  rw[L] at xs rk dS pN M7 abG OI⊢;rw[du];simp only[aB];obtain⟨X,hX⟩:∃X,gm m Ra=X:=⟨_,rfl⟩;obtain⟨Y,Z⟩:∃Y,gm m Rb=Y:=⟨_,rfl⟩;have hXl:X.length<=4096:=by rw[<-hX];exact KS P.HA
  have hYl:Y.length<=4096:=by rw[<-Z];exact KS P.HB
  have Vr:∀i,i<X.length->fE Ra (X.getD i []):=fun i F=>xw P.HA (by rw[hX,AT,GB F];exact zak F);have Vt:∀i,i<Y.length->fE Rb (Y.getD i []):=fun i F=>xw P.HB (by rw[Z,AT,GB F];exact zak F);have TG:=P.aam;rw[hX,Z] at TG OI;have VA:Cq (r,(La,Da,A),m,Ra)=some (X.map (Au r (La,Da,A) Ra)):=by
   rw[<-hX];exact aj ⟨H.ta,H.ka⟩
  have Ip:Cq (r,(Lb,Db,B),m,Rb)=some (Y.map (Au r (Lb,Db,B) Rb)):=by
   rw[<-Z];exact aj ⟨H.tb,H.kb⟩
  obtain⟨z,Vq⟩:∃z,X.map (Au r (La,Da,A) Ra)=z:=⟨_,rfl⟩;obtain⟨C,Vs⟩:∃C,Y.map (Au r (Lb,Db,B) Rb)=C:=⟨_,rfl⟩;have lXB:z.length=X.length:=by rw[<-Vq,co]
  have lYB:C.length=Y.length:=by rw[<-Vs,co]
  rw[VA,Vq];simp only[aB,be,show aO 0 0 (ab ([]:U))=some () from rfl]
  subst Fl;rw[eR (fun i=>((((PL La Da Ra Lb Db Rb m X Y i 0).length:Int),z,aD (ab z),(i:Int)),(c,g,f),(La,Da,A),(m,Ra),(Lb,Db,B),(m,Rb),([]:U),([]:U),([]:U),S,s,tV (c,g,f) La Da A Lb Db B S (PL La Da Ra Lb Db Rb m X Y i 0),K))
   (r:=By (((lv La Da Ra Lb Db Rb m X Y).length:Int),[],[],[],S,s,tV (c,g,f) La Da A Lb Db B S (lv La Da Ra Lb Db Rb m X Y))) X.length ?b1 ?b2 ?b3 dE]
  case b3=>rw[aar];rfl
  case b2=>
   dsimp only
   rw[aW (dQ (by rw[nl,lXB];omega)),aas]
   try simp only[be,aB,show aO 0 0 (ab ([]:U))=some () from rfl]
  case b1=>
   intro i F;have hx:=Vr i F;obtain⟨x,ex⟩:∃x,X.getD i []=x:=⟨_,rfl⟩;rw[ex] at hx;dsimp only
   rw[aX (dg (by rw[nl,lXB];omega)),cE,show z[i]? =some (x,La,cf Ra x,kc (c,g,f) A (jl Da Ra x) (aC (cf Ra x))) by rw[<-Vq,<-ex];exact Pg F];simp only[aB];rw[Ip,Vs];simp only[aB,be,show aO 0 0 (ab ([]:U))=some () from rfl]
   rw[eR (fun j=>((((PL La Da Ra Lb Db Rb m X Y i j).length:Int),z,aD (ab z),(i:Int),C,aD (ab C),(j:Int)),(c,g,f),(La,Da,A),(m,Ra),(Lb,Db,B),(m,Rb),(x,La,cf Ra x,kc (c,g,f) A (jl Da Ra x) (aC (cf Ra x))),([]:U),([]:U),([]:U),S,s,tV (c,g,f) La Da A Lb Db B S (PL La Da Ra Lb Db Rb m X Y i j),K))
    (r:=By (((i:Int),((PL La Da Ra Lb Db Rb m X Y (i+1) 0).length:Int),z,aD (ab z)),(c,g,f),(La,Da,A),(m,Ra),(Lb,Db,B),(m,Rb),[],[],[],S,s,tV (c,g,f) La Da A Lb Db B S (PL La Da Ra Lb Db Rb m X Y (i+1) 0),K)) Y.length ?c1 ?c2 ?c3 dE]
   case c3=>rfl
   case c2=>
    dsimp only
    rw[aW (dQ (by rw[nl,lYB];omega)),aat F]
    try simp only[be,aB,show aO 0 0 (ab ([]:U))=some () from rfl]
   case c1=>
    intro j hj;have hy:=Vt j hj;have gS:=aau (La:=La) (Da:=Da) (Ra:=Ra) (Lb:=Lb) (Db:=Db) (Rb:=Rb) (m:=m) (X:=X) (Y:=Y) (j:=j+1) F;rw[Oa hj,AI] at gS;rw[ex] at gS;obtain⟨y,ey⟩:∃y,Y.getD j []=y:=⟨_,rfl⟩;rw[ey] at hy gS;dsimp only
    rw[aX (dg (by rw[nl,lYB];omega)),cE,show C[j]? =some (y,Lb,cf Rb y,kc (c,g,f) B (jl Db Rb y) (aC (cf Rb y))) by rw[<-Vs,<-ey];exact Pg hj];simp only[aB];rw[aAx A B Da Db P.HA P.HB P.na l1 l2 hx hy];simp only[aB];rw[Oa hj,ex,ey];obtain⟨G,AS⟩:∃G,PL La Da Ra Lb Db Rb m X Y i j=G:=⟨_,rfl⟩;rw[AS] at gS⊢;by_cases hm:lF La Lb m x y
    rotate_left
    ·rw[decide_eq_false hm,show df false=true from rfl,lN,adS hm]
     try simp only[be,aB,show aO 0 0 (ab ([]:U))=some () from rfl]
     rw[io]
     try simp only[be,aB,show aO 0 0 (ab ([]:U))=some () from rfl]
     rw[je,BY]
    ·rw[decide_eq_true hm,show df true=false from rfl,iU]
     have T2:=H.Sc hx hy hm;have tx:=(Hs H.ta P.HA hx).1;have ty:=(Hs H.tb P.HB hy).1;obtain⟨e1,e2⟩:=H.pxy hx hy hm;have eS:=W4 H hx hy hm M;have f8:∀q∈S.map (fL (ft La Ra Lb Rb x y)),1<=q/\q<=8:=fun q w=>by
      obtain⟨v,E,rfl⟩:=zaq.1 w;have h1:=H.f8 hx hy hm (M v E);have N:=T.dv (M v E);omega
     have pS:aC (S.map (fL (ft La Ra Lb Rb x y)))<=aC s:=by
      rw[<-L];exact Ym fun v E=>(H.f8 hx hy hm (M v E)).2
     have aqO:0<=fg S (S.map (jd La (cf Ra x) Lb (cf Rb y))):=by
      rw[eS];have hxx:=Og xs (D:=S.map (fL (ft La Ra Lb Rb x y))) (by rw[co]) f8;have hI:=tC (D:=S.map (fL (ft La Ra Lb Rb x y))) fun q w=>(f8 q w).1;rw[show fg S (S.map (fL (ft La Ra Lb Rb x y)))=fp (S.map (fL (ft La Ra Lb Rb x y))) from aj ⟨hxx,by omega⟩]
      omega
     try simp only[aB,eH]
     rw[aAE tx ty T2 (by omega) (hKk.trans hS) (by omega) aqO];unfold yV;simp only[aB];rw[T2.aAN];simp only[aB,be,show aO 0 0 (ab ([]:U))=some () from rfl,show aO 0 0 (ab ([]:List U))=some () from rfl]
     have acc:=H.acc hx hy hm M nS G;rw[L] at acc;dsimp only at acc;rw[d6,show((G.length:Nat):Int)+min (aC (cq La (cf Ra x) Lb (cf Rb y)):Int) 65537=(((G++rT La Da Ra Lb Db Rb m x y).length:Nat):Int) by rw[AI];omega];obtain⟨W,hW⟩:∃W,(((G++rT La Da Ra Lb Db Rb m x y).length:Nat):Int)=W:=⟨_,rfl⟩;rw[hW];obtain⟨u,Wv⟩:∃u,S.map (fL (ft La Ra Lb Rb x y))=u:=⟨_,rfl⟩;rw[Wv] at acc f8 pS eS;rw[eS] at acc;rw[eS];have ltD:u.length=S.length:=by rw[<-Wv,co]
     have gtD:jG u:=⟨by omega,fun q w=>by have:=f8 q w;omega⟩;have R:pC (u,4096)=some ((aC u:Nat):Int):=Yo (by omega) f8 (by omega);obtain⟨off,oW⟩:∃off:Nat->Nat,(fun n=>rF s (qT (S.map (ft La Ra Lb Rb x y)) (aM u n)))=off:=⟨_,rfl⟩;have HY:∀n,jQ s (qT (S.map (ft La Ra Lb Rb x y)) (aM u n)) s.length=off n:=fun n=>by rw[<-oW];rfl
     rw[oW] at acc;obtain⟨t,ht⟩:∃t:Nat->U,(fun n=>gz (c,g,f) (nV (c,g,f) La (cf Ra x) (kc (c,g,f) A (jl Da Ra x) (aC (cf Ra x))) Lb (cf Rb y) (kc (c,g,f) B (jl Db Rb y) (aC (cf Rb y)))) (pn La (cf Ra x) Lb (cf Rb y) S u) n (aC (cq La (cf Ra x) Lb (cf Rb y))))=t:=⟨_,rfl⟩;rw[ht] at acc⊢;obtain⟨h,hh⟩:∃h:Nat->U,(fun n=>SL (c,g,f) (sY (c,g,f) (nV (c,g,f) La Da A Lb Db B) (pn La Da Lb Db S s) n) G)=h:=⟨_,rfl⟩;rw[hh] at acc;rw[an4 G,hh];have abO:∀n,rF s (qT (S.map (ft La Ra Lb Rb x y)) (aM u n))=off n:=fun n=>HY n;have V:∀n,gz (c,g,f) (nV (c,g,f) La (cf Ra x) (kc (c,g,f) A (jl Da Ra x) (aC (cf Ra x))) Lb (cf Rb y) (kc (c,g,f) B (jl Db Rb y) (aC (cf Rb y)))) (pn La (cf Ra x) Lb (cf Rb y) S u) n (aC (cq La (cf Ra x) Lb (cf Rb y)))=t n:=fun n=>by rw[<-ht]
     have ehn:∀n,SL (c,g,f) (sY (c,g,f) (nV (c,g,f) La Da A Lb Db B) (pn La Da Lb Db S s) n) G=h n:=fun n=>by rw[<-hh]
     obtain⟨a1,a2,a3,a4⟩:=acc;simp only[abO] at a1;simp only[V] at a2;simp only[ehn] at a3;clear oW abO ht hh V ehn;have J2:=P.jn hx hy hm;have fne:∀v∈S,v∈La\/v∈Lb:=fun v E=>x4 (M v E);rw[eR (fun q=>((W,z,aD (ab z),(i:Int),C,aD (ab C),(j:Int),aD (ab S),(q:Int)),(c,g,f),(La,Da,A),(m,Ra),(Lb,Db,B),(m,Rb),(x,La,cf Ra x,kc (c,g,f) A (jl Da Ra x) (aC (cf Ra x))),(y,Lb,cf Rb y,kc (c,g,f) B (jl Db Rb y) (aC (cf Rb y))),([]:U),([]:U),([]:U),S,s,eP h (aC s),S,u,eP t (aC u),K,(S.take q).map (ft La Ra Lb Rb x y)))
      (r:=By ((aD (ab C),C,(i:Int),aD (ab z),z,W,(j:Int)),(c,g,f),(La,Da,A),(m,Ra),(Lb,Db,B),(m,Rb),(x,La,cf Ra x,kc (c,g,f) A (jl Da Ra x) (aC (cf Ra x))),[],[],[],S,s,eP h (aC s),S,u,eP t (aC u),K,S.map (ft La Ra Lb Rb x y))) S.length ?d1 ?d2 ?d3 dE]
     case d3=>rfl
     case d2=>
      dsimp only
      rw[aW (iQ S),zal]
      try simp only[be,aB,show aO 0 0 (ab ([]:U))=some () from rfl]
     case d1=>
      intro q w;have E:S.getD q 0∈S:=eF w;dsimp only
      rw[aX (dg (by rw[nl];omega)),kI (show q<ab S from w)]
      simp only[aB];rw[f9,show bQ S q=some (S.getD q 0) from gI w]
      simp only[aB];rw[show mW (La,S.getD q 0)=some (jU La (S.getD q 0)) from aj (by dsimp only;omega),avC (d:=0) w,je]
      simp only[aB];have hlen:((S.take q).map (ft La Ra Lb Rb x y)).length<=12:=by rw[co,List.length_take];omega
      by_cases Q:S.getD q 0∈La
      ·have I:=ff Q;have te:=hx.1;have gd:=P.HA.row (bh La (S.getD q 0)) (by omega);have hdm:=P.HA.re (i:=bh La (S.getD q 0)) (by omega);rw[xB Q,aX lc,cE,getD_some [] (show bh La (S.getD q 0)<Ra.length by omega)];simp only[aB];rw[cE,gI (show bh La (S.getD q 0)<x.length by omega)];simp only[aB];rw[show vO (Ra.getD (bh La (S.getD q 0)) [],x.getD (bh La (S.getD q 0)) 0)=some (ft La Ra Lb Rb x y (S.getD q 0)) by
        rw[show ft La Ra Lb Rb x y (S.getD q 0)=_ from aj Q]
        exact aj (by dsimp only;omega)]
       simp only[aB,iJ,be];rw[show aO 0 1 (ab [ft La Ra Lb Rb x y (S.getD q 0)])=some () from rfl]
       simp only[aB];rw[kv (by simp only[av,ab,zam,zan,eD];omega)];simp only[aB];rw[oP];simp only[be,aB,show aO 0 0 (ab ([]:U))=some () from rfl]
       rfl
      ·have hb:=(fne _ E).resolve_left Q;have I:=ff hb;have LV:=hy.1;have gd:=P.HB.row (bh Lb (S.getD q 0)) (by omega);have hdm:=P.HB.re (i:=bh Lb (S.getD q 0)) (by omega);rw[yZ Q,aW (by rfl),show mW (Lb,S.getD q 0)=some (jU Lb (S.getD q 0)) from aj (by dsimp only;omega)]
       simp only[aB];rw[xB hb,cE,getD_some [] (show bh Lb (S.getD q 0)<Rb.length by omega)];simp only[aB];rw[cE,gI (show bh Lb (S.getD q 0)<y.length by omega)];simp only[aB];rw[show vO (Rb.getD (bh Lb (S.getD q 0)) [],y.getD (bh Lb (S.getD q 0)) 0)=some (ft La Ra Lb Rb x y (S.getD q 0)) by
        rw[show ft La Ra Lb Rb x y (S.getD q 0)=_ from ak Q]
        exact aj (by dsimp only;omega)]
       simp only[aB,iJ,be];rw[show aO 0 1 (ab [ft La Ra Lb Rb x y (S.getD q 0)])=some () from rfl]
       simp only[aB];rw[kv (by simp only[av,ab,zam,zan,eD];omega)];simp only[aB];rw[oP];simp only[be,aB,show aO 0 0 (ab ([]:U))=some () from rfl]
       rfl
     rw[io]
     try simp only[be,aB,show aO 0 0 (ab ([]:U))=some () from rfl]
     rw[eR (fun n=>((W,(n:Int),z,aD (ab z),(i:Int),C,aD (ab C),(j:Int)),(c,g,f),(La,Da,A),(m,Ra),(Lb,Db,B),(m,Rb),(x,La,cf Ra x,kc (c,g,f) A (jl Da Ra x) (aC (cf Ra x))),([]:U),([]:U),([]:U),S,s,eP (qS (c,g,f) h t off n) (aC s),S,u,eP t (aC u),K,S.map (ft La Ra Lb Rb x y)))
      (r:=By (((j:Int),W,z,aD (ab z),(i:Int),C,aD (ab C)),(c,g,f),(La,Da,A),(m,Ra),(Lb,Db,B),(m,Rb),(x,La,cf Ra x,kc (c,g,f) A (jl Da Ra x) (aC (cf Ra x))),[],[],[],S,s,tV (c,g,f) La Da A Lb Db B S (G++rT La Da Ra Lb Db Rb m x y),K)) (aC u) ?e1 ?e2 ?e3 dE]
     case e3=>rfl
     case e2=>
      dsimp only
      try simp only[eH,aB]
      rw[R];simp only[aB];rw[aW dQ,a4]
      try simp only[be,aB,show aO 0 0 (ab ([]:U))=some () from rfl]
     case e1=>
      intro n hn;have O:∀k a,eV (c,g,f) (qS (c,g,f) h t off k a)=true:=by
       intro k;induction k with
       |zero=>exact a3
       |succ k ih=>
        intro a;show eV _ (if a=off k then _ else _)=true
        split
        ·exact K8 hr (ih a) (a2 k)
        ·exact ih a
      have vb:∀q,q<S.length->0<=(aM u n).getD q 0/\((aM u n).getD q 0).toNat<(ft La Ra Lb Rb x y (S.getD q 0)).length:=fun q w=>by
       have:=I1 gtD n (i:=q) (by omega);rw[<-Wv] at this⊢;rw[jH w] at this;unfold fL at this⊢;omega
      have lix:(aM u n).length=S.length:=(fT _ _).trans ltD;have CP:∀q,q<S.length->(S.map (ft La Ra Lb Rb x y)).getD q []=ft La Ra Lb Rb x y (S.getD q 0):=fun q w=>by rw[AT,If,getD_some 0 w];rfl
      dsimp only
      try simp only[eH,aB]
      rw[R];simp only[aB];rw[aX dg,show xg (u,(n:Int))=some (aM u n) from aj ⟨gtD,by dsimp only;omega,by dsimp only;omega⟩]
      simp only[eH,aB];rw[show Cp (S.map (ft La Ra Lb Rb x y),aM u n)=some (qT (S.map (ft La Ra Lb Rb x y)) (aM u n)) from aj ⟨by dsimp only;omega,fun q w=>by
       dsimp only at w⊢;rw[lix] at w;rw[CP q w];exact⟨by rw[co];exact w,vb q w⟩⟩]
      simp only[eH,aB];rw[show Ah (s,qT (S.map (ft La Ra Lb Rb x y)) (aM u n))=some ((off n:Nat):Int) by
       rw[<-HY n];refine aj ⟨⟨by dsimp only;omega,fun q w=>by have:=dS q w;omega⟩,⟨by dsimp only;unfold qT;rw[fT];omega,fun q w=>?_⟩,by dsimp only;unfold qT;rw[fT];omega⟩;dsimp only at w;obtain⟨p,I,rfl⟩:=zaq.1 w;have I:=List.mem_range.1 I;rw[lix] at I;rw[CP p I];have WB:=M _ (eF I);have hb:=J2.b _ (ff WB) _ (by rw[jA WB];exact eF (vb p I).2);have h8:=T.d8 _ (eF (l:=cq La Da Lb Db) (i:=bh (jL La Lb) (S.getD p 0)) (by rw[vm];exact ff WB));omega]
      simp only[eH,aB];rw[adU hr (fun k=>jv (O n k)) rk (a1 n hn)];simp only[eH,aB];rw[adU hr (fun k=>jv (a2 k)) (by omega) hn];simp only[eH,aB];rw[show Cl ((c,g,f),qS (c,g,f) h t off n (off n),t n)=some (fV (c,g,f) (qS (c,g,f) h t off n (off n)) (t n)) from aj ⟨hr,O n _,a2 n⟩]
      simp only[eH,aB,be];rw[azl hr (fun k=>jv (O n k)) (jv (K8 hr (O n _) (a2 n))) rk (a1 n hn)];simp only[aB];rw[show(fun a=>if a=off n then fV (c,g,f) (qS (c,g,f) h t off n (off n)) (t n) else qS (c,g,f) h t off n a)=qS (c,g,f) h t off (n+1) from funext fun a=>by
       show _=if a=off n then _ else _
       by_cases e:a=off n
       ·rw[aj e,aj e,e]
       ·rw[ak e,ak e]]
      rw[show aO 0 (ab (eP (qS (c,g,f) h t off n) (aC s))) (ab (eP (qS (c,g,f) h t off (n+1)) (aC s)))=some () from qj ((vQ fun k _=>jv (O n k)).trans (vQ fun k _=>jv (O (n+1) k)).symm)]
      simp only[be,aB,show aO 0 0 (ab ([]:U))=some () from rfl]
      rw[je]
     rw[io]
     try simp only[be,aB,show aO 0 0 (ab ([]:U))=some () from rfl]
     rw[je,<-hW]
   rw[io]
   try simp only[be,aB,show aO 0 0 (ab ([]:U))=some () from rfl]
   rw[je]
  rw[io]
  try simp only[iJ,aB]
  rw[hX,Z,<-OI];rfl
end
theorem anf {r:Rg} {La Da A:U} {Ra:List U} {Lb Db B:U} {Rb:List U} {m a:Int} (j:yW (r,(La,Da,A),(m,Ra))) (g:yW (r,(Lb,Db,B),(a,Rb))) (h:¬(m=a/\BP r La Da A Ra Lb Db B Rb m)): Ag (r,(La,Da,A),(m,Ra),(Lb,Db,B),a,Rb)=some (([],[],[]),0,false)/\yt (r,(La,Da,A),(m,Ra),(Lb,Db,B),a,Rb)=some (([],[],[]),0,false):=by obtain⟨d,c,b⟩:=r;simp only[Ag,Ks,yt,Kr,ah];rw[show vN ((d,c,b),(La,Da,A),m,Ra)=some (oO (d,c,b) (La,Da,A) (m,Ra)) from aj j,show yu ((d,c,b),(La,Da,A),m,Ra)=some (oO (d,c,b) (La,Da,A) (m,Ra)) from aj j];simp only[aB];cases ca:oO (d,c,b) (La,Da,A) (m,Ra) with|false=>exact⟨by rw[show df false=true from rfl,lN],by rw[show df false=true from rfl,lN]⟩|true=>rw[show df true=false from rfl,iU,iU,show vN ((d,c,b),(Lb,Db,B),a,Rb)=some (oO (d,c,b) (Lb,Db,B) (a,Rb)) from aj g,show yu ((d,c,b),(Lb,Db,B),a,Rb)=some (oO (d,c,b) (Lb,Db,B) (a,Rb)) from aj g];simp only[aB];cases cb:oO (d,c,b) (Lb,Db,B) (a,Rb) with|false=>exact⟨by rw[show df false=true from rfl,lN],by rw[show df false=true from rfl,lN]⟩|true=>rw[show df true=false from rfl,iU,iU];by_cases hm:m=a;rotate_left;exact⟨by rw[aX (qJ hm)],by rw[aX (qJ hm)]⟩;subst hm;have f:=of_decide_eq_true ca;have e:=of_decide_eq_true cb;have HA:=EI f.2.1;have HB:=EI e.2.1;have l1:=(gH (Gs f.1).1).2.1;have l2:=(gH (Gs e.1).1).2.1;have k:¬∀i,i<La.length->qL La Da Ra Lb Db Rb m i:=fun q=>h ⟨rfl,ca,cb,q⟩;rw[aW (me rfl),aW (me rfl),alj A B m HA HB l1 l2,aeZ A B m HA HB l1 l2,decide_eq_false k];simp only[aB];exact⟨by rw[show df false=true from rfl,lN],by rw[show df false=true from rfl,lN]⟩
theorem aok (r:Int×Int×Int) (t:U×U×U) (c:Int×List U) (g:U×U×U) (j:Int×List U) (q:iy t<=1048576) (k:lk c<=1048576) (w:iy g<=1048576) (d:lk j<=1048576): ∃b i f,Ag (r,t,c,g,j)=some (b,i,f)/\yt (r,t,c,g,j)=some (b,i,f)/\iy b<=1048576:=by obtain⟨La,Da,A⟩:=t;obtain⟨m,Ra⟩:=c;obtain⟨Lb,Db,B⟩:=g;obtain⟨s,Rb⟩:=j;have q:La.length+Da.length+A.length<=1048576:=q;have k:=R0 (l:=Ra) k;have w:Lb.length+Db.length+B.length<=1048576:=w;have d:=R0 (l:=Rb) d;have E:yW (r,(La,Da,A),m,Ra):=⟨⟨by show La.length<=_;omega,by show Da.length<=_;omega,by show A.length<=_;omega⟩,⟨by show La.length<=_;omega,by show Da.length<=_;omega⟩,k.1,k.2⟩;have C:yW (r,(Lb,Db,B),s,Rb):=⟨⟨by show Lb.length<=_;omega,by show Db.length<=_;omega,by show B.length<=_;omega⟩,⟨by show Lb.length<=_;omega,by show Db.length<=_;omega⟩,d.1,d.2⟩;by_cases h:m=s/\BP r La Da A Ra Lb Db B Rb m;obtain⟨rfl,H⟩:=h;have u:iy (EF r La Da A Ra Lb Db B Rb m).1<=1048576:=?_;obtain⟨⟨b,i,f⟩,e⟩:∃z,EF r La Da A Ra Lb Db B Rb m=z:=⟨_,rfl⟩;rw[e] at u;exact⟨b,i,f,by rw[az6 H,e],by rw[asl H,e],u⟩;unfold EF;split;rename_i o;unfold AB at o⊢;split at o;rename_i v;rw[aj v];have T:=H.two;have hr:=(mg H.ta).1;have y:=mq hr;obtain⟨xs,D,dS,pN⟩:=Sb v.2;have M7:=gH xs;have a:(yV r La Da A Lb Db B (ov La Lb)).2.2.length=aC ((ov La Lb).map (jd La Da Lb Db))*ax r:=vQ fun n _=>jv (HK hr (Gv H.p.wZ H.p.w4 H.ta H.tb) _ n _);have jV:aC ((ov La Lb).map (jd La Da Lb Db))*ax r<=4096*6:=zad D y.2.2;show(ov La Lb).length+((ov La Lb).map (jd La Da Lb Db)).length+(yV r La Da A Lb Db B (ov La Lb)).2.2.length<=_;rw[a];omega;cases o;decide;obtain⟨x,F⟩:=anf E C h;exact⟨_,_,_,x,F,by decide⟩
def NM:(Int×Int×Int)×(U×U×U)×(Int×(List U))×(U×U×U)×(Int×(List U))->Option Bool:=fun((a0,a1,a2,a3,a4):(Int×Int×Int)×(U×U×U)×(Int×(List U))×(U×U×U)×(Int×(List U)))=>if(Gz a1&&Gy a2&&Gz a3&&Gy a4)=true then some true else none
def SW (NN:Nat):((Int×(Int×Int))×((U×(U×U))×((Int×(List U))×((U×(U×U))×(Int×(List U))))))->(Option Bool):=
 (fun(((i0,i1,i2),(l3,l4,l5),(i6,l7),(l8,l9,bS),dX,cB):((Int×(Int×Int))×((U×(U×U))×((Int×(List U))×((U×(U×U))×(Int×(List U)))))))=>
 (Ch ((l3,l4,l5),(1048576:Int))).ae (fun fG=>
 au (bO fG (0:Int))
 (some true)
 ((Cg ((i6,l7),fG)).ae (fun gf=>
 au (bO gf (0:Int))
 (some true)
 ((Ch ((l8,l9,bS),gf)).ae (fun iG=>
 au (bO iG (0:Int))
 (some true)
 ((Cg ((dX,cB),iG)).ae (fun fH=>
 au (bO fH (0:Int))
 (some true)
 ((Eu (i0,i1,i2)).ae (fun(gA,g9,kV)=>
 (sL (l3,l4,l5)).ae (fun(gi,ir,dP)=>
 (sK (i6,l7)).ae (fun(gT,dq)=>
 (sL (l8,l9,bS)).ae (fun(fi,gj,gB)=>
 (sK (dX,cB)).ae (fun(lW,gK)=>
 (bc gi 0 (ab gi)).ae (fun lZ=>
 (bc ir 0 (ab ir)).ae (fun lC=>
 (bc dP 0 (ab dP)).ae (fun hH=>
 (bc dq 0 (ab dq)).ae (fun iP=>
 (bc fi 0 (ab fi)).ae (fun lD=>
 (bc gj 0 (ab gj)).ae (fun gp=>
 (bc gB 0 (ab gB)).ae (fun iL=>
 (bc gK 0 (ab gK)).ae (fun jZ=>
 (Ag ((gA,g9,kV),(lZ,lC,hH),(gT,iP),(lD,gp,iL),lW,jZ)).ae (fun((qB,o6,mO),nE,T0)=>
 (sL (l3,l4,l5)).ae (fun(kN,jh,o8)=>
 (sK (i6,l7)).ae (fun(oh,ja)=>
 (sL (l8,l9,bS)).ae (fun(jO,oB,j0)=>
 (sK (dX,cB)).ae (fun(vh,ng)=>
 (Eu (i0,i1,i2)).ae (fun(ww,vj,De)=>
 (bc kN 0 (ab kN)).ae (fun iu=>
 (bc jh 0 (ab jh)).ae (fun nK=>
 (bc o8 0 (ab o8)).ae (fun nM=>
 (bc ja 0 (ab ja)).ae (fun oC=>
 (bc jO 0 (ab jO)).ae (fun rB=>
 (bc oB 0 (ab oB)).ae (fun nN=>
 (bc j0 0 (ab j0)).ae (fun mQ=>
 (bc ng 0 (ab ng)).ae (fun o9=>
 (yt ((ww,vj,De),(iu,nK,nM),(oh,oC),(rB,nN,mQ),vh,o9)).ae (fun((rC,oD,nO),rr,b68)=>
 (bc rC 0 (ab rC)).ae (fun wC=>
 (bc oD 0 (ab oD)).ae (fun sv=>
 (bc nO 0 (ab nO)).ae (fun pf=>
 (bc qB 0 (ab qB)).ae (fun yb=>
 (bc o6 0 (ab o6)).ae (fun rD=>
 (bc mO 0 (ab mO)).ae (fun sx=>
 (tN ((wC,sv,pf),yb,rD,sx)).ae (fun b75=>
 au (df b75)
 (some false)
 (au (fy rr nE)
 (some false)
 (au (FT b68 T0)
 (some false)
 ((sL (l3,l4,l5)).ae (fun(nP,nh,mb)=>
 (bc kN 0 (ab kN)).ae (fun lE=>
 (bc jh 0 (ab jh)).ae (fun qE=>
 (bc o8 0 (ab o8)).ae (fun ni=>
 (bc nP 0 (ab nP)).ae (fun uq=>
 (bc nh 0 (ab nh)).ae (fun yd=>
 (bc mb 0 (ab mb)).ae (fun tp=>
 (tN ((lE,qE,ni),uq,yd,tp)).ae (fun b85=>
 au (df b85)
 (some false)
 ((sK (i6,l7)).ae (fun(Md,vp)=>
 (bc ja 0 (ab ja)).ae (fun tq=>
 (bc vp 0 (ab vp)).ae (fun ur=>
 (yz ((oh,tq),Md,ur)).ae (fun b90=>
 au (df b90)
 (some false)
 ((sL (l8,l9,bS)).ae (fun(qF,nj,km)=>
 (bc jO 0 (ab jO)).ae (fun kA=>
 (bc oB 0 (ab oB)).ae (fun qG=>
 (bc j0 0 (ab j0)).ae (fun uu=>
 (bc qF 0 (ab qF)).ae (fun tr=>
 (bc nj 0 (ab nj)).ae (fun pV=>
 (bc km 0 (ab km)).ae (fun nQ=>
 (tN ((kA,qG,uu),tr,pV,nQ)).ae (fun TW=>
 au (df TW)
 (some false)
 ((sK (dX,cB)).ae (fun(arP,mN)=>
 (bc ng 0 (ab ng)).ae (fun nG=>
 (bc mN 0 (ab mN)).ae (fun ul=>
 (yz ((vh,nG),arP,ul)).ae (fun amX=>
 au (df amX)
 (some false)
 (ah kN (
 ah jh (
 ah o8 (
 (yC ((kN,jh,o8),(1:Int))).ae (fun(LW,oZ,tj,Dr)=>
 ah ja (
 (Cf ((oh,ja),LW)).ae (fun(WK,wA)=>
 ah jO (
 ah oB (
 ah j0 (
 (yC ((jO,oB,j0),WK)).ae (fun(Fu,zF,zG,BE)=>
 ah ng (
 (Cf ((vh,ng),Fu)).ae (fun(L3,zI)=>
 au (bO L3 (0:Int))
 (some false)
 ((bc rC 0 (ab rC)).ae (fun ry=>
 (bc oD 0 (ab oD)).ae (fun si=>
 (bc nO 0 (ab nO)).ae (fun uo=>
 (bc qB 0 (ab qB)).ae (fun Ds=>
 (bc o6 0 (ab o6)).ae (fun rz=>
 (bc mO 0 (ab mO)).ae (fun rA=>
 (tN ((ry,si,uo),Ds,rz,rA)).ae (fun amZ=>
 au (df amZ)
 (some false)
 (au (fy rr nE)
 (some false)
 (au (FT b68 T0)
 (some false)
 (ah rC (
 ah oD (
 ah nO (
 (yC ((rC,oD,nO),(1:Int))).ae (fun(L5,x8,ox,tm)=>
 (bc x8 0 (ab rC)).ae (fun sj=>
 (bc ox 0 (ab oD)).ae (fun sk=>
 (bc tm 0 (ab nO)).ae (fun vo=>
 (Af ((sj,sk,vo),(1:Int))).ae (fun rp=>
 au (bO rp (0:Int))
 (some false)
 (au (fy rp L5)
 (some false)
 ((Eu (i0,i1,i2)).ae (fun(wv,L7,Fv)=>
 (sL (l3,l4,l5)).ae (fun(qx,qy,oy)=>
 (sK (i6,l7)).ae (fun(arS,qz)=>
 (sL (l8,l9,bS)).ae (fun(qA,oz,m9)=>
 (sK (dX,cB)).ae (fun(arU,kx)=>
 (bc qx 0 (ab qx)).ae (fun ky=>
 (bc qy 0 (ab qy)).ae (fun sn=>
 (bc oy 0 (ab oy)).ae (fun oA=>
 (bc qz 0 (ab qz)).ae (fun sq=>
 (bc qA 0 (ab qA)).ae (fun nc=>
 (bc oz 0 (ab oz)).ae (fun sr=>
 (bc m9 0 (ab m9)).ae (fun kz=>
 (bc kx 0 (ab kx)).ae (fun tn=>
 (yt ((wv,L7,Fv),(ky,sn,oA),(arS,sq),(nc,sr,kz),arU,tn)).ae (fun((Dt,Du,I7),arW,am0)=>
 (bc Dt 0 (ab Dt)).ae (fun FI=>
 (bc Du 0 (ab Du)).ae (fun Dw=>
 (bc I7 0 (ab I7)).ae (fun wB=>
 (bc qB 0 (ab qB)).ae (fun Dx=>
 (bc o6 0 (ab o6)).ae (fun Mr=>
 (bc mO 0 (ab mO)).ae (fun BH=>
 (tN ((FI,Dw,wB),Dx,Mr,BH)).ae (fun TY=>
 au (df TY)
 (some false)
 (au (fy arW nE)
 (some false)
 (au (FT am0 T0)
 (some false)
 ((bc x8 0 (ab rC)).ae (fun Qa=>
 (bc ox 0 (ab oD)).ae (fun Xo=>
 (bc tm 0 (ab nO)).ae (fun Xp=>
 (Af ((Qa,Xo,Xp),(1:Int))).ae (fun PP=>
 au (bO PP (0:Int))
 (some false)
 (au (fy PP L5)
 (some false)
 (some true))))))))))))))))))))))))))))))))))))))))))))))))))))))))))))))))))))))))))))))))))))))))))))))))))))))))))))))))))))))))))))))))))))))))))
theorem apw (x:(Int×Int×Int)×(U×U×U)×(Int×(List U))×(U×U×U)×(Int×(List U))) (y:Bool) (h:NM x=some y):SW aN x=some y:=by obtain⟨⟨r,q,w⟩,⟨a,b,c⟩,⟨m,d⟩,⟨f,g,j⟩,⟨n,l⟩⟩:=x;simp only[NM,wt] at h;split at h;rename_i p;rw[<-h];simp only[SW,ah];rw[RZ (o:=Ch ((a,b,c),1048576)) (s:=iy (a,b,c)) (aj ⟨by constructor<;>omega,p.1.1.1⟩)];by_cases D:((iy (a,b,c):Nat):Int)<=1048576;(case neg=>rw[ak D]);rw[aj D];rw[RZ (o:=Cg ((m,d),1048576 - (iy (a,b,c):Nat))) (s:=lk (m,d)) (aj ⟨by constructor<;>omega,p.1.1.2⟩)];by_cases A:((lk (m,d):Nat):Int)<=1048576 - (iy (a,b,c):Nat);(case neg=>rw[ak A]);rw[aj A];rw[RZ (o:=Ch ((f,g,j),1048576 - (iy (a,b,c):Nat) - (lk (m,d):Nat))) (s:=iy (f,g,j)) (aj ⟨by constructor<;>omega,p.1.2⟩)];by_cases C:((iy (f,g,j):Nat):Int)<=1048576 - (iy (a,b,c):Nat) - (lk (m,d):Nat);(case neg=>rw[ak C]);rw[aj C];rw[RZ (o:=Cg ((n,l),1048576 - (iy (a,b,c):Nat) - (lk (m,d):Nat) - (iy (f,g,j):Nat))) (s:=lk (n,l)) (aj ⟨by constructor<;>omega,p.2⟩)];by_cases B:((lk (n,l):Nat):Int)<=1048576 - (iy (a,b,c):Nat) - (lk (m,d):Nat) - (iy (f,g,j):Nat);(case neg=>rw[ak B]);rw[aj B];obtain⟨N,r1,r2,G,T,z0⟩:=aok (r,q,w) (a,b,c) (m,d) (f,g,j) (n,l) (by omega) (by omega) (by omega) (by omega);obtain⟨e,i,k⟩:=N;have S:sL (a,b,c)=some (a,b,c):=alZ _ (by omega);have K:tN ((a,b,c),(a,b,c))=some true:=UH _ (by omega);have:=qh a;have:=qh b;have:=qh c;have H:sK (m,d)=some (m,d):=alY _ (by omega);have R:yz ((m,d),(m,d))=some true:=abQ _ (by omega);have:=Uc d;have L:sL (f,g,j)=some (f,g,j):=alZ _ (by omega);have I:tN ((f,g,j),(f,g,j))=some true:=UH _ (by omega);have:=qh f;have:=qh g;have:=qh j;have F:sK (n,l)=some (n,l):=alY _ (by omega);have J:yz ((n,l),(n,l))=some true:=abQ _ (by omega);have:=Uc l;have w0:tN ((e,i,k),(e,i,k))=some true:=UH _ (by omega);have:=qh e;have:=qh i;have:=qh k;simp only[iy,lk] at*;have m1:yC ((a,b,c),(1:Int))=some ((1:Int)+(bH a:Nat)+(bH b:Nat)+(bH c:Nat),eo a ((1:Int)),eo b ((1:Int)+(bH a:Nat)),eo c ((1:Int)+(bH a:Nat)+(bH b:Nat))):=aj ⟨by omega,by(try simp only[iy,lk]);omega⟩;have m2:Cf ((m,d),(1:Int)+(bH a:Nat)+(bH b:Nat)+(bH c:Nat))=some ((1:Int)+(bH a:Nat)+(bH b:Nat)+(bH c:Nat)+(q8 d:Nat),yh d ((1:Int)+(bH a:Nat)+(bH b:Nat)+(bH c:Nat))):=aj ⟨by omega,by(try simp only[iy,lk]);omega⟩;have M:yC ((f,g,j),(1:Int)+(bH a:Nat)+(bH b:Nat)+(bH c:Nat)+(q8 d:Nat))=some ((1:Int)+(bH a:Nat)+(bH b:Nat)+(bH c:Nat)+(q8 d:Nat)+(bH f:Nat)+(bH g:Nat)+(bH j:Nat),eo f ((1:Int)+(bH a:Nat)+(bH b:Nat)+(bH c:Nat)+(q8 d:Nat)),eo g ((1:Int)+(bH a:Nat)+(bH b:Nat)+(bH c:Nat)+(q8 d:Nat)+(bH f:Nat)),eo j ((1:Int)+(bH a:Nat)+(bH b:Nat)+(bH c:Nat)+(q8 d:Nat)+(bH f:Nat)+(bH g:Nat))):=aj ⟨by omega,by(try simp only[iy,lk]);omega⟩;have Q:Cf ((n,l),(1:Int)+(bH a:Nat)+(bH b:Nat)+(bH c:Nat)+(q8 d:Nat)+(bH f:Nat)+(bH g:Nat)+(bH j:Nat))=some ((1:Int)+(bH a:Nat)+(bH b:Nat)+(bH c:Nat)+(q8 d:Nat)+(bH f:Nat)+(bH g:Nat)+(bH j:Nat)+(q8 l:Nat),yh l ((1:Int)+(bH a:Nat)+(bH b:Nat)+(bH c:Nat)+(q8 d:Nat)+(bH f:Nat)+(bH g:Nat)+(bH j:Nat))):=aj ⟨by omega,by(try simp only[iy,lk]);omega⟩;have E:bO ((1:Int)+(bH a:Nat)+(bH b:Nat)+(bH c:Nat)+(q8 d:Nat)+(bH f:Nat)+(bH g:Nat)+(bH j:Nat)+(q8 l:Nat)) 0=false:=dQ;have O:yC ((e,i,k),(1:Int))=some ((1:Int)+(bH e:Nat)+(bH i:Nat)+(bH k:Nat),eo e ((1:Int)),eo i ((1:Int)+(bH e:Nat)),eo k ((1:Int)+(bH e:Nat)+(bH i:Nat))):=aj ⟨by omega,by(try simp only[iy,lk]);omega⟩;have P:Af ((eo e ((1:Int)),eo i ((1:Int)+(bH e:Nat)),eo k ((1:Int)+(bH e:Nat)+(bH i:Nat))),(1:Int))=some ((1:Int)+(bH e:Nat)+(bH i:Nat)+(bH k:Nat)):=aqY (e,i,k) ((1:Int)) ⟨by omega,by(try simp only[iy,lk]);omega⟩;have v:bO ((1:Int)+(bH e:Nat)+(bH i:Nat)+(bH k:Nat)) 0=false:=dQ;have z:bc (eo e ((1:Int))) 0 (ab e)=some (eo e ((1:Int))):=Z0 (DB e ((1:Int)));have t:bc (eo i ((1:Int)+(bH e:Nat))) 0 (ab i)=some (eo i ((1:Int)+(bH e:Nat))):=Z0 (DB i ((1:Int)+(bH e:Nat)));have u:bc (eo k ((1:Int)+(bH e:Nat)+(bH i:Nat))) 0 (ab k)=some (eo k ((1:Int)+(bH e:Nat)+(bH i:Nat))):=Z0 (DB k ((1:Int)+(bH e:Nat)+(bH i:Nat)));simp only[aA7,bm,iJ,eH,be,G,T,XU,HI,axn,axp,S,K,H,R,L,I,F,J,w0,m1,m2,M,Q,E,O,P,v,z,t,u];cases h
section
def NE (P:Program) (r:TypeId->Option (List Ty)):Nat->List Field->Option (List Ty)
 |_,[]=>some []
 |off,f::fs=>match r f.type with
  |some ts=>if f.offset=off/\P.cellsOf f.type=ts.length then(NE P r (off+ts.length) fs).map (ts++·) else none
  |none=>none
def Kd (P:Program):Nat->TypeId->Option (List Ty)
 |0,_=>none
 |n+1,t=>match P.underlying t with
  |some .bool=>some [.bool]
  |some (.int k)=>some [.int k]
  |some (.slice e)=>match Kd P n e with
   |some ts=>if 0<ts.length/\P.cellsOf e=ts.length then some [.list ts] else none
   |none=>none
  |some (.struct fs)=>match NE P (Kd P n) 0 fs.toList with
   |some ts=>if P.cellsOf t=ts.length then some ts else none
   |none=>none
  |_=>none
mutual
def Ty.Wf:(t:Ty)->t.D->Prop
 |.int k,n=>LE.le (α:=Int) k.min n/\LE.le (α:=Int) n k.max
 |.bool,_=>True
 |.list ts,xs=>zas (α:=Ty.DL ts) xs<=maxLen/\∀e:Ty.DL ts,List.Mem (α:=Ty.DL ts) e xs->Ty.qc ts e
def Ty.qc:(ts:List Ty)->Ty.DL ts->Prop
 |[],_=>True
 |[t],x=>Ty.Wf t x
 |t::u::ts,x=>Ty.Wf t x.1/\Ty.qc (u::ts) x.2
end
theorem abm (t:Ty) (ts:List Ty) (x:t.D) (y:Ty.DL ts):Ty.qc (t::ts) (EP t ts x y)↔t.Wf x/\Ty.qc ts y:=by cases ts with|nil=>exact⟨fun h=>⟨h,trivial⟩,fun h=>h.1⟩|cons u us=>exact Iff.rfl
theorem anN (t:Ty):∀(ts:List Ty) (x:Ty.DL (t::ts)),∃a b,x=EP t ts a b
 |[],x=>⟨x,(),rfl⟩
 |_::_,x=>⟨x.1,x.2,rfl⟩
theorem aaJ:∀(ts us:List Ty) (x:Ty.DL ts) (y:Ty.DL us),Ty.qc ts x->Ty.qc us y->∃z:Ty.DL (ts++us),Ty.bu (ts++us) z=Ty.bu ts x++Ty.bu us y/\Ty.qc (ts++us) z
 |[],us,x,y,_,h=>⟨y,rfl,h⟩
 |t::ts,us,x,y,c,d=>by obtain⟨a,b,rfl⟩:=anN t ts x;rw[abm] at c;obtain⟨z,f,e⟩:=aaJ ts us b y c.2 d;exact⟨EP t (ts++us) a z,by have c:Ty.bu (t::(ts++us)) (EP t (ts++us) a z)=t.er a::Ty.bu (ts++us) z:=Up _ _ _ _;have d:Ty.bu (t::ts) (EP t ts a b)=t.er a::Ty.bu ts b:=Up _ _ _ _;exact c.trans (by rw[d,f];rfl),(abm _ _ _ _).2 ⟨c.1,e⟩⟩
theorem af3 {α β:Type} {f:α->Option β}:∀{l:List α} {r:List β},l.mapM f=some r->r.length=l.length/\∀(i:Nat) (x:α),l[i]? =some x->∃y,r[i]? =some y/\f x=some y:=by intro l;induction l with|nil=>intro r h;simp at h;subst h;exact⟨rfl,by simp⟩|cons a l e=>intro r h;rw[zap] at h;cases hx:f a with|none=>simp[hx] at h|some y=>cases II:l.mapM f with|none=>simp[hx,II] at h|some ys=>simp[hx,II] at h;subst h;obtain⟨d,c⟩:=e II;refine⟨by simp[d],fun i x b=>?_⟩;cases i with|zero=>simp at b;subst b;exact⟨y,rfl,hx⟩|succ i=>exact c i x (by simpa using b)
theorem ano {w:World} {a:Addr} {n:Nat} {cs:List Value} (h:w.cells? 0 a n=some cs):cs.length=n/\∀(j:Nat) (c:Value),cs[j]? =some c->w.cell? (a.add j)=some c:=by
 unfold World.cells? at h;rw[aj (zat _)] at h;obtain⟨d,f⟩:=af3 h;simp only[zai] at d;refine⟨d,fun j c e=>?_⟩;have i:j<n:=by rw[<-d];exact(List.getElem?_eq_some_iff.1 e).1
 obtain⟨y,b,g⟩:=f j j (zae i);rw[e] at b;injection b with b;subst b;exact g
theorem ann {w:World} {a:Addr} {v:Value} (h:w.cell? a=some v):a=ad a.block a.off:=by unfold World.cell? at h;split at h;split at h;cases h;rename_i c;obtain⟨b,o,s⟩:=a;(cases s with|none=>rfl|some q=>simp at c);cases h
theorem aaC (a:Addr):a.add 0=a:=by unfold Addr.add;simp
section
variable {H:Type} {enc:TypeId×Value->H} {P:Program} {w:World} {sp:Nat->Bool} {held:Bool}
def xo (P:Program) (w:World) (ts:List Ty) (cs:List Value):Prop:=
 ∃(x:Ty.DL ts) (di:List PC),di.map PC.er=Ty.bu ts x/\di.map PC.val=cs/\(∀pc∈di,Good w pc)/\Ty.qc ts x
theorem xo.one {t:Ty} {x:t.D} {pc:PC} {c:Value} (d:pc.er=t.er x) (a:pc.val=c) (b:Good w pc) (e:t.Wf x):xo P w [t] [c]:= ⟨x,[pc],by simp only[zaf,zaj,d];rfl,by simp[a],by simpa using b,e⟩
theorem aiT {r:TypeId->Option (List Ty)} {q:TypeId->List Value->Option (DataW H×List MemPlace)} (hr:∀t ts cs y,r t=some ts->q t cs=some y->xo P w ts cs) (cs:List Value): ∀(d:List Field) (off:Nat) (ts:List Ty) (ys:List (DataW H×List MemPlace)),NE P r off d=some ts->d.mapM (fun f=>q f.type ((cs.drop f.offset).take (P.cellsOf f.type)))=some ys->xo P w ts ((cs.drop off).take ts.length)
 |[],off,ts,ys,a,h2=>by simp only[NE] at a;injection a with a;subst a;exact⟨(),[],rfl,by simp,by simp,trivial⟩
 |f::d,off,ts,ys,a,h2=>by simp only[NE] at a;split at a;rename_i c g;split at a;rename_i i;obtain⟨j,o⟩:=i;rw[IT] at a;obtain⟨b,E,rfl⟩:=a;rw[zap] at h2;(cases hq:q f.type ((cs.drop f.offset).take (P.cellsOf f.type)) with|none=>simp[hq] at h2|some y=>cases hqs:d.mapM (fun f=>q f.type ((cs.drop f.offset).take (P.cellsOf f.type))) with|none=>simp[hq,hqs] at h2|some e=>obtain⟨A,p1,l,D,n,h⟩:=hr _ _ _ _ g hq;obtain⟨m,k,x,p,B,v⟩:=aiT hr cs d (off+c.length) b e E hqs;obtain⟨z,C,u⟩:=aaJ c b A m h v;refine⟨z,p1++k,by rw[OF,l,x,C],?_,fun pc s=>(Pe.1 s).elim (n pc) (B pc),u⟩;rw[OF,D,p,j,o,AI,List.take_add,List.drop_drop]);cases a;cases a
theorem aAv {s:Nat} {t e:TypeId} {us:List Ty} {cs:List Value} {y:DataW H×List MemPlace} (E:∀cs y,DataW.trod enc P w 0 sp held s e cs=some y->xo P w us cs) (m:0<us.length) (B:P.cellsOf e=us.length) (W:P.underlying t=some (.slice e)) (h:DataW.trod enc P w 0 sp held (s+1) t cs=some y):xo P w [.list us] cs:=by rw[DataW.trod_step] at h;unfold DataW.trodStep at h;simp only[W] at h;(split at h<;>first|(cases h;done)|(rename_i f;cases f;done)|skip);exact xo.one (t:=.list us) (x:=([]:List (Ty.DL us))) (pc:=.list us.length none 0 []) (by rw[PC.fx];rfl) rfl (.nil _ _ _ m) ⟨zat _,fun e d=>by cases d⟩;rename_i e' a len cap f;injection f with f;injection f with f;subst f;split at h;rename_i D;obtain⟨_,hlc,oQ⟩:=D;rw[IN] at h;obtain⟨elems,d,_⟩:=h;obtain⟨O,U⟩:=af3 d;simp only[zai] at O;have each:∀i:Fin len,∃(x:Ty.DL us) (l:List PC),l.map PC.er=Ty.bu us x/\(∀pc∈l,Good w pc)/\Ty.qc us x/\∀j pc,l[j]? =some pc->w.cell? ((a.add (i.1*us.length)).add j)=some pc.val:=(by intro i;obtain⟨Q,_,v⟩:=U i.1 i.1 (zae i.2);rw[IN] at v;obtain⟨o,z,R⟩:=v;rw[B] at z;obtain⟨c1,L⟩:=ano z;obtain⟨x,l,I,X,J,C⟩:=E o Q R;refine⟨x,l,I,J,C,fun j pc g=>L j pc.val ?_⟩;rw[<-X,If,g];rfl);let xs:List (Ty.DL us):=List.ofFn fun i:Fin len=>IS (each i);let px:List (List PC):=List.ofFn fun i:Fin len=>IS (AN (each i));have r:∀k e,px[k]? =some e->∃i:Fin len,i.1=k/\e=IS (AN (each i)):=(by intro k e b;rw[zag] at b;split at b;rename_i N;injection b with b;exact⟨⟨k,N⟩,rfl,b.symm⟩;cases b);have spec:=fun i:Fin len=>AN (AN (each i));have q:px.length=len:=(by simp[px]);have aBL:xs.length=len:=(by simp[xs]);have M:px.map (fun e=>e.map PC.er)=List.map (Ty.bu us) xs:=(by apply List.ext_getElem?;intro k;simp only[If,px,xs,zag];by_cases b:k<len;simp only[b,dif_pos,Option.map_some];rw[(spec ⟨k,b⟩).1];simp only[b,dif_neg,not_false_eq_true,Option.map_none]);have F:∀x∈xs,Ty.qc us x:=(by intro x hx;obtain⟨i,T⟩:=List.mem_ofFn.1 hx;subst T;exact(spec i).2.2.1);have A:∀e∈px,e.length=us.length:=(by intro e d;obtain⟨k,b⟩:=List.getElem?_of_mem d;obtain⟨i,_,rfl⟩:=r k e b;have:=congrArg zas (spec i).1;rwa[co,Ty.HZ] at this);have S:∀k j c,At px k j c->Good w c:=(by rintro k j c ⟨e,d,g⟩;obtain⟨i,_,rfl⟩:=r k e d;exact(spec i).2.1 c (List.mem_of_getElem? g));have n:∀k j c,At px k j c->w.cell? ((a.add (k*us.length)).add j)=some c.val:=(by rintro k j c ⟨e,d,g⟩;obtain⟨i,rfl,rfl⟩:=r k e d;exact(spec i).2.2.2 j c g);refine xo.one (t:=.list us) (x:=xs) (pc:=.list us.length (some a) cap px) (by rw[PC.fx,M];rfl) (by simp[PC.val,q]) ?_ ⟨by show xs.length<=maxLen;omega,fun x hx=>F x hx⟩;by_cases p:px=[];rw[p];exact .nil _ _ _ m;obtain⟨V,G⟩:=aaP p m A;have u:=n 0 0 V G;rw[Nat.zero_mul,aaC,aaC] at u;have K:=ann u;rw[K] at n⊢;refine .cons _ _ _ _ _ p (by omega) m A (fun k j c b=>?_) S;have:=n k j c b;rwa[xp,xp] at this;cases h
theorem ZM:∀(f:Nat) (t:TypeId) (cs:List Value) (y:DataW H×List MemPlace) (n:Nat) (ts:List Ty),DataW.trod enc P w 0 sp held f t cs=some y->Kd P n t=some ts->xo P w ts cs
 |0,t,cs,y,n,ts,h,a=>by simp[DataW.trod] at h
 |f+1,t,cs,y,0,ts,h,a=>by simp[Kd] at a
 |f+1,t,cs,y,n+1,ts,h,a=>by simp only[Kd] at a;cases hu:P.underlying t with|none=>rw[hu] at a;cases a|some d=>rw[hu] at a;(cases d<;>simp only at a<;>first|(cases a;done)|skip);(case bool=>injection a with a;subst a;rw[DataW.trod_step] at h;unfold DataW.trodStep at h;simp only[hu] at h;(split at h<;>first|(cases h;done)|(rename_i c;cases c;done)|skip);rename_i b c;exact xo.one (t:=.bool) (x:=b) (pc:=.bool b) rfl rfl (.bool b) trivial);(case int k=>injection a with a;subst a;rw[DataW.trod_step] at h;unfold DataW.trodStep at h;simp only[hu] at h;(split at h<;>first|(cases h;done)|(rename_i c;cases c;done)|skip);rename_i k1 p m c;injection c with c;injection c with c;subst c;split at h;rename_i i;obtain⟨rfl,i⟩:=i;simp only[Lit.wf,wt,decide_eq_true_eq] at i;exact xo.one (t:=.int p) (x:=m) (pc:=.int p m) rfl rfl (.int p m) i;cases h);(case slice e=>split at a;rename_i us o;split at a;rename_i l;obtain⟨l,j⟩:=l;injection a with a;subst a;exact aAv (fun cs y hy=>ZM f e cs y n us hy o) l j hu h;cases a;cases a);case struct fs=>rw[DataW.trod_step] at h;unfold DataW.trodStep at h;simp only[hu] at h;(split at h<;>first|(cases h;done)|(rename_i c;cases c;done)|skip);rename_i g;split at a;rename_i us o;split at a;rename_i j;injection a with a;subst a;rw[IT] at h;obtain⟨ys,q,h2⟩:=h;have:=aiT (P:=P) (w:=w) (fun t ts cs y s r=>ZM f t cs y n ts r s) cs fs.toList 0 us ys o q;rwa[List.drop_zero,<-j,<-g,zal] at this;cases a;cases a
end
end
section
open Go.ChangeShapes Go.WideShapes Go.ChangeAt Go.RowKit
def Hk:(as:aR)->bt as.br->Prop
 |[],_=>True
 |[a],x=>Ty.qc a.2 x
 |a::b::as,x=>Ty.qc a.2 x.1/\Hk (b::as) x.2
theorem anM (a:K×List Ty) (as:aR) (x:Ty.DL a.2) (y:bt (aR.br as)):Ty.qc a.2 x->Hk as y->Hk (a::as) (OB a.2 (aR.br as) x y):=by intro c d;cases as with|nil=>exact c|cons b as=>exact⟨c,d⟩
def Ul (P:Program) (t:TypeId) (a:K×List Ty):Bool:=
 match Kd P 30 t with
 |some ts=>Ty.xu ts a.2&&(match P.underlying t,a.1 with
  |some (.struct _),.agg=>true
  |some (.int _),.one=>true
  |some .bool,.one=>true
  |some (.slice _),.one=>true
  |_,_=>false)
 |none=>false
def HC (P:Program):List TypeId->aR->Bool
 |[],[]=>true
 |t::ts,a::as=>Ul P t a&&HC P ts as
 |_,_=>false
section
variable {H:Type} {enc:TypeId×Value->H} {P:Program} {w w':World} {sp:Nat->Bool} {held:Bool}
theorem amR {t:TypeId} {a:K×List Ty} {v:Value} {d:DataW H} {ps:List MemPlace} (g:Ul P t a=true) (f:Value.okWide P w .any 0 t v) (hd:DataW.Trod enc P w 0 sp held t v d ps): ∃x:Ty.DL a.2,GC w (a.1,Ty.bu a.2 x) v/\Ty.qc a.2 x:=by obtain⟨p,hd⟩:=hd;unfold Ul at g;split at g;rename_i ts o;simp only[wt] at g;obtain⟨h,m⟩:=g;have h:=Ty.xv h;subst h;obtain⟨x,l,i,n,j,r⟩:=ZM p t v.cells.toList _ 30 a.2 hd o;refine⟨x,?_,r⟩;unfold Value.okWide at f;have one:(∀cs,v≠ .agg cs)->a.1=.one->GC w (a.1,Ty.bu a.2 x) v:=(by intro hn c;have q:v.cells.toList=[v]:=(by cases v<;>first|rfl|(rename_i cs;exact absurd rfl (hn cs)));rw[c];exact⟨l,i,j,by rw[n,q]⟩);split at m;rename_i fs b c;rw[b] at f;obtain⟨cs,rfl,_,_⟩:=f;rw[c];exact⟨l,i,j,by rw[n];rfl⟩;rename_i k b c;refine one (fun cs e=>?_) c;subst e;rw[b] at f;simp[Cell.okWide,b,Cell.ok] at f;rename_i b c;refine one (fun cs e=>?_) c;subst e;rw[b] at f;simp[Cell.okWide,b,Cell.ok] at f;rename_i e b c;refine one (fun cs e=>?_) c;subst e;rw[b] at f;simp[Cell.okWide,b,Cell.ok] at f;cases m;cases g
theorem aaN:∀{ts:List TypeId} {as:aR} {vs:List Value} {ds:List (DataW H)} {ps:List MemPlace},HC P ts as=true->(∀(j:Nat) (t:TypeId) (v:Value),ts[j]? =some t->vs[j]? =some v->Value.okWide P w .any 0 t v)-> DataW.TrodAll enc P w 0 sp held ts vs ds ps->∃x:bt (aR.br as),Kn w (eZ as x) vs/\Hk as x
 |[],[],vs,ds,ps,hc,hv,h=>by obtain⟨rfl,rfl,rfl⟩:=trodAll_nil h;exact⟨(),⟨rfl,by intro j d v b;simp[eZ] at b⟩,trivial⟩
 |t::ts,a::as,vs,ds,ps,hc,hv,h=>by simp only[HC,wt] at hc;obtain⟨v,vs1,d,ds1,p,q,rfl,rfl,rfl,f,l⟩:=trodAll_cons h;obtain⟨x,i,n⟩:=amR hc.1 (hv 0 t v rfl rfl) f;obtain⟨y,e,k⟩:=aaN hc.2 (fun j t v m g=>hv (j+1) t v (by simpa using m) (by simpa using g)) l;refine⟨OB a.2 (aR.br as) x y,?_,anM a as x y n k⟩;rw[abR];refine⟨by simp[e.1],fun j d v b c=>?_⟩;cases j with|zero=>simp at b c;subst b;subst c;exact i|succ j=>exact e.2 j d v (by simpa using b) (by simpa using c)
 |[],_::_,vs,ds,ps,hc,hv,h=>by simp[HC] at hc
 |_::_,[],vs,ds,ps,hc,hv,h=>by simp[HC] at hc
theorem al0 (a:∀b,b<w.heap.size->w'.heap[b]? =w.heap[b]?):∀{ts:List TypeId} {vs:List Value} {ds:List (DataW H)} {ps:List MemPlace},DataW.TrodAll enc P w 0 sp held ts vs ds ps->DataW.TrodAll enc P w' 0 sp held ts vs ds ps
 |[],[],[],_,h=>h
 |t::ts,v::vs,d::ds,_,⟨p,q,⟨n,h1⟩,h2,e⟩=>by refine⟨p,q,⟨n,DataW.trod_carry n t _ _ h1 fun c i=>?_⟩,al0 a h2,e⟩;have f:=DataW.trod_lt n t _ _ h1 c i;cases c with|cell b o=>have g:=a b f;simp only[World.sameAt,World.cell?,g]|map b=>exact a b f
 |[],[],_::_,_,h=>h.elim
 |[],_::_,_,_,h=>h.elim
 |_::_,[],_,_,h=>h.elim
 |_::_,_::_,[],_,h=>h.elim
theorem auy (e:w'.os=w.os) (d:w'.output=w.output) (f:∀b,b<w.heap.size->w'.heap[b]? =w.heap[b]?) (a:MemPlace->Prop):w.keptBut w' a:=by have EE:=World.keptBut_refl w a;refine⟨e,d,fun i c=>?_⟩;rw[f i c];exact EE.2.2 i c
theorem ay7 {f:Func} {s:ChangeSpec} {c B D u:Bool} {W h:World} {args:Array Value} {v:Value} {ds l:List (DataW H)} {e pa pv:List MemPlace} (n:DataW.Whole enc P f.params.toList s.vars c W args.toList ds l e) (i:∀(b:Nat) (sp:Nat->Bool) (hd:Bool),DataW.TrodAll enc P h b sp hd f.resultTypes.toList (v.resultList f.resultTypes.size) (s.fn H (ds++l)).results []) (o:∀sp:Nat->Bool,(∀p∈e,sp p.block=true)->DataW.TrodAll enc P h 0 sp true f.params.toList args.toList (s.fn H (ds++l)).args pa) (k:∀sp:Nat->Bool,(∀p∈e,sp p.block=true)->DataW.TrodVars enc P h sp s.vars (s.fn H (ds++l)).vars pv) (m:e=pa++pv) (C:W.keptBut h (·∈e)) (z:∀a:Addr,a.block<W.heap.size->h.frozen? a=W.frozen? a) (x:∀(j:Nat) (t:TypeId) (r:Value),f.resultTypes[j]? =some t->(v.resultList f.resultTypes.size)[j]? =some r->Value.okWide P h .any 0 t r): s.post enc P f c B D u W args v h:=by have g:∀p∈e,(fun b=>decide (b<W.heap.size)) p.block=true:=fun p d=>(by simpa using n.lt p d);have A:=n.lt;refine⟨ds,l,e,[],pa,pv,n,i _ _ _,o _ g,k _ g,World.keptBut_mono (fun p d=>⟨d,?_⟩) C,fun _=>?_⟩;rw[m,Pe] at d;exact Or.inr d;obtain⟨_,_,_,_,_,y,hn⟩:=n;refine⟨x,_,_,([]++pa)++pv,⟨[]++pa,pv,trodAll_append (o _ (fun _ _=>rfl)) (i _ _ _),k _ (fun _ _=>rfl),rfl,?_,?_⟩,?_⟩;intro b off d;have q:MemPlace.cell b off∈e:=(by rw[m];simpa using d);rw[z ⟨b,off,none⟩ (A _ q)];exact y b off q;intro w;have:=hn w;rw[m] at this;simpa using this;intro p d _;rw[m];simpa using d
theorem azD {c:List (K×List PC)} {b:Bool} (h:c.map (fun p=>(p.1,p.2.map PC.er))=[(K.one,[C.bool b])]):zV c=.bool b:=by
 match c,h with
 |[],h=>simp at h
 |_::_::_,h=>simp at h
 |[(k,di)],h=>
  simp only[zaf,zaj,zao,Prod.mk.injEq,and_true] at h;obtain⟨rfl,h⟩:=h;match di,h with
  |[],h=>simp at h
  |_::_::_,h=>simp at h
  |[pc],h=>
   simp only[zaf,zaj,zao,and_true] at h;cases pc with
   |bool b=>simp[PC.er] at h;subst h;rfl
   |int k n=>simp[PC.er] at h
   |list sz a cap xs=>rw[PC.fx] at h;cases h
theorem al1:∀{ts:List TypeId} {vs:List Value} {ds:List (DataW H)} {ps:List MemPlace},DataW.TrodAll enc P w 0 sp held ts vs ds ps->ds.length=ts.length
 |[],vs,ds,ps,h=>by obtain⟨rfl,rfl,rfl⟩:=trodAll_nil h;rfl
 |t::ts,vs,ds,ps,h=>by obtain⟨v,vs1,d,ds1,p,q,rfl,rfl,rfl,h1,a⟩:=trodAll_cons h;simp[al1 a]
def adN (P:Program):Bool:=(List.range P.types.size).all fun t=>match P.underlying t with|some (.slice e)=>decide (0<P.cellsOf e)|_=>true
theorem avo {f:FuncId} {fn:Func} {s:ChangeSpec} {sg:aR} {M:List Dv->Option (List Dv)} {tb:TypeId} (hl:laidOutB P=true) (u:mapsRowed P=true) (Q:adN P=true) (A:∀t∈fn.params.toList,t<P.types.size) (R:HC P fn.params.toList sg=true) (hr:fn.resultTypes=#[tb]) (h:P.underlying tb=some .bool) (y:s.vars=[]) (m:∀ds:List (DataW H),ds.length=fn.params.toList.length->(s.fn H ds).results=[.lit (.bool true)]/\(s.fn H ds).args=ds/\(s.fn H ds).vars=[]) (n:dz P f M) (D:∀x:bt (aR.br sg),Hk sg x->M (eZ sg x)=some [(.one,[.bool true])]) {c S V I:Bool} {W:World} {EE:Nat} {args:Array Value} {ds G:List (DataW H)} {B:List MemPlace} (N:∀(j:Nat) t v,fn.params[j]? =some t->args[j]? =some v->Value.okWide P W .any EE t v) (z:DataW.Whole enc P fn.params.toList s.vars c W args.toList ds G B): Calls P f args W fun e o=>∃v,e=.returned v/\s.post enc P fn c S V I W args v o:=by have i:=z;obtain⟨p,q,l,w,rfl,Ps,jg⟩:=z;rw[y] at w;obtain⟨rfl,rfl⟩:=trodVars_none w;obtain⟨x,hx,K⟩:=aaN R (fun j t v F Y=>Value.okWide_any_base<|N j t v (by rw[<-zab];exact F) (by rw[<-zab];exact Y)) l;have d:=n _ _ (D x K) W args.toList hx;have E:args.toList.toArray=args:=(by cases args;rfl);rw[E] at d;refine d.mono fun e o ⟨bX,p1,J,p3,p4,k⟩=>?_;have T:=azD p1;have r:∀b,b<W.heap.size->o.heap[b]? =W.heap[b]? :=fun b h=>k.block b h id;have g:=al1 l;obtain⟨Z,L,C⟩:=m ds g;refine⟨_,J,?_⟩;rw[T];refine ay7 (pa:=p) (pv:=[]) i (fun _ _ _=>?_) (fun sp m=>?_) (fun _ _=>?_) (by simp) (auy k.os k.output r _) (fun a O=>?_) ?_;rw[BY,Z,hr];exact trodAll_cons_mk (shut_bool h _) trodAll_mk0;rw[BY,L];exact DataW.TrodAll.respare (kids_rows hl u) (slices_full_of P Q) A (al0 r l) (fun U X=>m U (by simpa using X));rw[BY,y,C];rfl;simp only[World.frozen?,r a.block O];rw[hr];rw[<-hr];exact ok_one hr rfl (okWide_bool_mk h _)
end
theorem aBw {P:Program} {bg:aR} {b:K×List Ty} {args:aR} (hb:bg=b::args) {T:List aF} (d:aA P T) (hm:P.follows .mixedOrders=true) {f:FuncId} {c:bV} {a:List bU} {mu:cX} {aJ:aR} (e:cK P f c.er a (b::args).length=true) (F:bt (aR.br (iA::iA::b::args))->Option (bt aJ.br)) (g:∀x y,F x=some y->M5 aN T c a mu.nW (b::args) aJ x.1 x.2.1 x.2.2=some y):EB P f mu.nW (aF.MX ⟨f,iA::iA::b::args,mu,aJ,F⟩)/\cg P f=true:= aBv d hm e F g
end
theorem Sj (l:List Int) (h:Ty.qc [.list [.int .i64]] l):B6 l=true:=by have a:l.length<=maxLen:=h.1;exact decide_eq_true (by unfold maxLen at a;omega)
theorem aBm (l:List (List Int)) (h:Ty.qc [.list [.list [.int .i64]]] l):Kk l=true:=by have b:l.length<=maxLen:=h.1;unfold Kk;rw[wt,decide_eq_true_eq,List.all_eq_true];exact⟨by unfold maxLen at b;omega,fun e a=>Sj e (h.2 e a)⟩
theorem amk (x:(List Int)×(List Int)×(List Int)) (h:Ty.qc [.list [.int .i64],.list [.int .i64],.list [.int .i64]] x):Gz x=true:=by obtain⟨c,a,b⟩:=x;show(B6 c&&B6 a&&B6 b)=true;rw[Sj c h.1,Sj a h.2.1,Sj b h.2.2];rfl
theorem amj (x:Int×(List (List Int))) (h:Ty.qc [.int .i64,.list [.list [.int .i64]]] x):Gy x=true:=by obtain⟨a0,a⟩:=x;show(Kk a)=true;rw[aBm a h.2]
end Go.Am
