/- L_FnSwapped: the law FnSwapped. No condition. -/
import Derived.Test.YtbgmbplglejidaaM79
set_option linter.unusedVariables false
set_option linter.unusedSimpArgs false
namespace Go.Am
def Mi:List Int->Option Bool:=fun _=>some true
theorem ao1 (x:Int):gC x x=false:=bne_self_eq_false _
theorem agu (x:Int):cJ x x=true:=beq_self_eq_true _
def wk:ao:=[(.one,[.list [.int .u8]])]
def Uw:ao:=[(.one,[.bool])]
def anA:aQ:=[]
def Hj (NN:Nat):(List Int)->(Option Bool):=
 (fun(l0:(List Int))=>
 ax (bG (1048576:Int) (aS (aa l0)))
 (some true)
 ((Bj (l0,(0:Int))).ab (fun i1=>
 (yh (l0,(2:Int),(1:Int),(3:Int))).ab (fun i2=>
 (yh (l0,(4:Int),(1:Int),(3:Int))).ab (fun i3=>
 (dw ((i2::(i2::(i3::([]:List Int))))) 3).ab (fun l4=>
 (Bh (l0,(30:Int),i1,l4)).ab (fun(i5,l6)=>
 (vY (i1,i2,i3)).ab (fun((i7,i8,l9),qC)=>
 (vY (i1,i3,i2)).ab (fun((eF,eA,eO),Nc)=>
 (cr eO 0 (aa eO)).ab (fun eP=>
 (cr l9 0 (aa l9)).ab (fun iU=>
 (AP (i1,(eF,eA,eP),i7,i8,iU)).ab (fun((f8,fw,fQ),b20)=>
 (vY (i1,i2,i2)).ab (fun((jT,ij,fz),b24)=>
 (cr fz 0 (aa fz)).ab (fun fI=>
 (vV ((i5,l6),(0:Int),jT,ij,fI)).ab (fun((kU,jD),b28)=>
 (cr jD 0 (aa jD)).ab (fun il=>
 (cr fz 0 (aa fz)).ab (fun jh=>
 (vV ((kU,il),(0:Int),jT,ij,jh)).ab (fun((gV,np),b33)=>
 ax (dA qC)
 (some false)
 (ax (dA Nc)
 (some false)
 (ax (dA b20)
 (some false)
 (ax (dA b24)
 (some false)
 (ax (dA b28)
 (some false)
 (ax (dA b33)
 (some false)
 ((cr np 0 (aa np)).ab (fun zL=>
 (sS (gV,zL)).ab (fun(tK,gA,iV)=>
 (sS (i5,l6)).ab (fun(kE,ji,jZ)=>
 (cr tK 0 (aa tK)).ab (fun gm=>
 (cr gA 0 (aa gA)).ab (fun gn=>
 (cr iV 0 (aa iV)).ab (fun gB=>
 (cr kE 0 (aa kE)).ab (fun gp=>
 (cr ji 0 (aa ji)).ab (fun nq=>
 (cr jZ 0 (aa jZ)).ab (fun gJ=>
 (Be ((gm,gn,gB),gp,nq,gJ)).ab (fun b47=>
 ax (dA b47)
 (some false)
 (ax (gC (aS (aa fQ)) (cd .i64 (cd .i64 (cd .i64 i2 i3) i2) i3))
 (some false)
 (ca ((ai 0 (aa fQ) (aa fQ)).ab (fun _=>
 (ai 0 (aa jD) (aa jD)).ab (fun _=>
 bM NN (fun(((kA,sy,kB,n5,lc),(kC,n9),qX,gK,fJ):((Int×(Int×(Int×(Int×Int))))×((Int×(List (Int×(Int×(Int×(List Int))))))×(Int×((List (Int×(Int×(Int×(List Int)))))×(List Int))))))=>
 ax (bG lc n5)
 ((fj lc (aa fJ)).ab (fun k58=>
 (dt fJ (bj 0 k58)).ab (fun xg=>
 (iZ lc (bA .i64 (cd .i64 sy kB) (1:Int))).ab (fun pV=>
 ax (KS (cJ xg (1:Int)) (cJ pV (0:Int)))
 (some (Sum.inr (Sum.inr false)))
 (ax (bG (1:Int) xg)
 (some (Sum.inr (Sum.inr false)))
 ((ai 0 (aa fJ) (aa fJ)).ab (fun _=>
 (ai 0 (aa gK) (aa gK)).ab (fun _=>
 some (Sum.inl ((kA,sy,kB,n5,bA .i64 lc 1),(kC,n9),qX,gK,fJ))))))))))
 (((ai 0 (aa gK) (aa gK)).ab (fun _=>
 some (Sum.inl (kA,(kC,n9),qX,gK)))).ab (fun p9=>
 some (Sum.inr p9))))
 ((i1,i2,i3,aS (aa fQ),(0:Int)),(i5,l6),kU,jD,fQ))))
 (fun(n6,(ni,zO),qY,nr)=>
 (cr nr 0 (aa nr)).ab (fun tL=>
 (sS (qY,tL)).ab (fun(od,tM,oe)=>
 (cr od 0 (aa od)).ab (fun lP=>
 (cr tM 0 (aa tM)).ab (fun lQ=>
 (cr oe 0 (aa oe)).ab (fun xt=>
 (cr (((0:Int)::((1:Int)::([]:List Int)))) 0 2).ab (fun tN=>
 (cr (((1:Int)::((0:Int)::([]:List Int)))) 0 2).ab (fun tO=>
 (AQ (((2:Int),n6,(0:Int)),(lP,lQ,xt),tN,tO)).ab (fun((zP,CK,l78),b79)=>
 ax (b79)
 ((sS (ni,zO)).ab (fun(CL,oh,gL)=>
 (cr zP 0 (aa zP)).ab (fun lk=>
 (cr CK 0 (aa CK)).ab (fun FJ=>
 (cr l78 0 (aa l78)).ab (fun Ri=>
 (cr CL 0 (aa CL)).ab (fun vp=>
 (cr oh 0 (aa oh)).ab (fun CM=>
 (cr gL 0 (aa gL)).ab (fun vq=>
 (AS (((2:Int),n6,(0:Int)),(lk,FJ,Ri),vp,CM,vq)).ab (fun b89=>
 some b89)))))))))
 (some false))))))))))))))))))))))))))))))))))))))))))))))
theorem aqt {p:Int} (hp:p∈[(2:Int),3,7,101,1000003]):cu p=true:=by
 simp only[List.mem_cons,List.not_mem_nil,or_false] at hp
 rcases hp with rfl|rfl|rfl|rfl|rfl
 ·exact aqq
 ·exact aqr
 ·exact aqs
 ·exact aqp
 ·exact aqo
theorem WW {p:Int} {L L':List aM} {d e:Nat} (hp:cu p=true) (hD:aP L=[(d:Int),(d:Int),(e:Int)]) (O:XK p L L' 0 (d*d) (aq (d*d) (d*d) (jI d d d))) {r w:Nat} (hr:r<d*d) (hw:w<e):
  gN p L' (r*e+w)=gN p L (ue d d r*e+w):=by
 have hT:bn (aP L) 2=e:=by
  rw[hD]
  show(e:Int).toNat*1=e
  rw[Nat.mul_one]
  exact Int.toNat_natCast e
 have h:=O.val 0 r w hr (by rw[hT];exact hw)
 rw[hT] at h
 simp only[Nat.zero_mul,Nat.zero_add] at h
 refine Zh ?_ (DO hp _ _) (DO hp _ _)
 refine h.trans (yM ?_)
 rw[sK (a:=ue d d r) (d*d) (AB hr) fun q hq aD=>by
  rw[j7 _ hr hq,Dx hq,if_neg (fun h=>aD (by rw[h,GK hq])),Int.zero_mul]]
 rw[j7 _ hr (AB hr),Dx (AB hr),if_pos (GK hr).symm,Int.one_mul]
theorem aiz {r c n:Nat} {M:aO} (h:n<r*c):(aq r c M)[n]? =some (M (n/c) (n%c)):=by
 unfold aq
 rw[List.getElem?_map,List.getElem?_range h]
 rfl
set_option maxHeartbeats 2000000 in
theorem ae0 (l0:List Int):Hj aC l0=some true:=by
 simp only[Hj]
 by_cases hl:l0.length<=1048576
 ·rw[aL (cN (by unfold aS aa;omega))]
  obtain⟨p,e1,hp⟩:=aqu l0 0 hl (by decide)
  have bk:=aqt hp
  have hm:=eT bk
  obtain⟨d,e2,hd⟩:=adE l0 2 1 3 hl (by decide) (by decide) (by decide) (by decide)
  obtain⟨e,e3,he⟩:=adE l0 4 1 3 hl (by decide) (by decide) (by decide) (by decide)
  obtain⟨d,rfl⟩:∃k:Nat,d=(k:Int):=⟨d.toNat,by omega⟩
  obtain⟨e,rfl⟩:∃k:Nat,e=(k:Int):=⟨e.toNat,by omega⟩
  have sa:1<=d/\d<=3:=by omega
  have sb:1<=e/\e<=3:=by omega
  have tt:d*d<=9:=Nat.mul_le_mul sa.2 sa.2
  have y9:d*e<=9:=Nat.mul_le_mul sa.2 sb.2
  have aiQ:0<d*e:=Nat.mul_pos sa.1 sb.1
  obtain⟨L,e4,H,gT⟩:=afO l0 30 p [(d:Int),(d:Int),(e:Int)] hl (by decide) bk (by simp) (by
   intro v hv
   simp only[List.mem_cons,List.not_mem_nil,or_false] at hv
   rcases hv with rfl|rfl|rfl<;>omega)
  have hlen:L.length=3:=by rw[<-ir,gT];rfl
  have hP0:d*d=((aP L).getD 0 0).toNat*((aP L).getD (0+1) 0).toNat:=by rw[gT];rfl
  have tq:cP L 2<=4:=(H.b4 1 (by omega)).2.2
  have hXl:(aq (d*d) (d*d) (jI d d d)).length=d*d*(d*d):=iu _ _ _
  have JY:dD p (aq (d*d) (d*d) (jI d d d)):=iL.2 (Ws hm d d)
  have E7:((aP L).getD 0 0).toNat=d:=by rw[gT];rfl
  have aao:((aP L).getD (0+1) 0).toNat=d:=by rw[gT];rfl
  obtain⟨L1,b1,O1⟩:=Yg (k:=0) H.ok (by omega) hP0 (by omega) (by rw[E7];show 1*d<=32;omega) (by
   rw[aao]
   have:=Nat.mul_le_mul sa.2 tq
   show d*cP L 2<=64
   omega) hXl JY
  have za:aP L1=aP L:=O1.lG
  have atq:L1.length=3:=by rw[<-ir,za,gT];rfl
  obtain⟨L2,b2,O2⟩:=Yg (k:=0) O1.ok (by omega) (by rw[za];exact hP0) (by omega) (by rw[za,E7];show 1*d<=32;omega) (by
   rw[za,aao]
   have:=Nat.mul_le_mul sa.2 tq
   rw[show cP L1 (0+2)=cP L 2 from O1.bd 2 (by omega) (by omega)]
   omega) hXl JY
  have aiR:aP L2=aP L:=O2.lG.trans za
  have Pc:bJ (aP L)=d*d*e:=by
   rw[gT]
   show(d:Int).toNat*((d:Int).toNat*((e:Int).toNat*1))=_
   simp only[Int.toNat_natCast]
   rw[Nat.mul_one,Nat.mul_assoc]
  have hT2:lZ p L2=lZ p L:=asT aiR fun n hn=>by
   rw[Pc] at hn
   obtain⟨r,w,rfl,hr,hw⟩:=LG hn
   rw[WW bk (za.trans gT) O2 hr hw,WW bk gT O1 (AB hr) hw,GK hr]
  obtain⟨t1,t2,t3,t8,hP⟩:=W7 H.ok
  have zp:=art (lZ p L) (by omega) (by omega) (by omega)
  have Fs:=H.ten
  rw[LX,gT] at Fs
  have ajv:gF (2,p,0) (c8 3,[(d:Int),(d:Int),(e:Int)],bC (bJ (aP L)) (gN p L1))=true:=by
   refine W5 bk (AE Fs).1 (by rw[<-gT];exact hP) (by rw[fc,gT]) (Lg fun k=>DO bk L1 k)
  have qR:nI [(1:Int),0,2] [(d:Int),(d:Int),(e:Int)]=true:=by
   have y8:d=1\/d=2\/d=3:=by omega
   have he3:e=1\/e=2\/e=3:=by omega
   rcases y8 with rfl|rfl|rfl<;>rcases he3 with rfl|rfl|rfl<;>decide
  have Qe:gF (2,p,0) ([(1:Int),0,2],[(d:Int),(d:Int),(e:Int)],bC (bJ (aP L)) (gN p L1))=true:=by
   refine W5 bk qR (by rw[<-gT];exact hP) (by rw[fc,gT]) (Lg fun k=>DO bk L1 k)
  have Ca:(c8 3).map (fun v=>sF v [(0:Int),1] [(1:Int),0])=[(1:Int),0,2]:=by decide
  have P7:=aqR (f:=[(0:Int),1]) (t:=[(1:Int),0]) ajv rfl (by decide) (by rw[Ca];exact Qe)
  rw[Ca] at P7
  have aju:lv (2,p,0) ([(1:Int),0,2],[(d:Int),(d:Int),(e:Int)],bC (bJ (aP L)) (gN p L1))=lv (2,p,0) (c8 3,[(d:Int),(d:Int),(e:Int)],bC (bJ (aP L)) (gN p L)):=by
   have Fb:lv (2,p,0) (c8 3,[(d:Int),(d:Int),(e:Int)],bC (bJ (aP L)) (gN p L))=(c8 3,[(d:Int),(d:Int),(e:Int)],bC (bJ (aP L)) (gN p L)):=by
    rw[gT]
    exact aeg Fs
   rw[Fb,aso Qe]
   have hS:fC [(1:Int),0,2] [(1:Int),0,2].length=c8 3:=by decide
   have Ke:dX [(1:Int),0,2] [(d:Int),(d:Int),(e:Int)] (c8 3)=[(d:Int),(d:Int),(e:Int)]:=rfl
   rw[hS,Ke,<-gT]
   congr 2
   refine jo fun n hn=>?_
   rw[Pc] at hn
   obtain⟨r,w,rfl,hr,hw⟩:=LG hn
   have ajf:mP (aP L) (rl [(1:Int),0,2] (aP L) (c8 3) (r*e+w)) (aP L).length=ue d d r*e+w:=by
    have h1:(rl [(1:Int),0,2] (aP L) (c8 3) (r*e+w))=[dP [(d:Int),(d:Int),(e:Int)] (r*e+w) 1,dP [(d:Int),(d:Int),(e:Int)] (r*e+w) 0,dP [(d:Int),(d:Int),(e:Int)] (r*e+w) 2]:=by
     rw[gT]
     rfl
    rw[h1,gT]
    show((0*(d:Int).toNat+(dP [(d:Int),(d:Int),(e:Int)] (r*e+w) 1).toNat)*(d:Int).toNat+(dP [(d:Int),(d:Int),(e:Int)] (r*e+w) 0).toNat)*(e:Int).toNat+(dP [(d:Int),(d:Int),(e:Int)] (r*e+w) 2).toNat=_
    have d1:dP [(d:Int),(d:Int),(e:Int)] (r*e+w) 1=((r%d:Nat):Int):=by
     show(((r*e+w)/((e:Int).toNat*1)%(d:Int).toNat:Nat):Int)=_
     rw[Int.toNat_natCast,Int.toNat_natCast,Nat.mul_one,pY hw]
    have d0:dP [(d:Int),(d:Int),(e:Int)] (r*e+w) 0=((r/d:Nat):Int):=by
     show(((r*e+w)/((d:Int).toNat*((e:Int).toNat*1))%(d:Int).toNat:Nat):Int)=_
     rw[Int.toNat_natCast,Int.toNat_natCast,Nat.mul_one,Nat.mul_comm d e,<-Nat.div_div_eq_div_mul,pY hw,Nat.mod_eq_of_lt ((Nat.div_lt_iff_lt_mul sa.1).2 hr)]
    have d2:dP [(d:Int),(d:Int),(e:Int)] (r*e+w) 2=((w:Nat):Int):=by
     show(((r*e+w)/1%(e:Int).toNat:Nat):Int)=_
     rw[Int.toNat_natCast,Nat.div_one,q9 hw]
    rw[d1,d0,d2]
    simp only[Int.toNat_natCast,Nat.zero_mul,Nat.zero_add]
    rfl
   rw[ajf,List.getD_eq_getElem?_getD,nz _ (by rw[Pc];exact jV (AB hr) hw)]
   show gN p L1 _=_
   rw[WW bk gT O1 (AB hr) hw,GK hr]
  have Qb:=ars (t':=(c8 3,[(d:Int),(d:Int),(e:Int)],bC (bJ (aP L)) (gN p L))) Qe (by rw[gT];exact Fs) aju (by
   have Fb:lv (2,p,0) (c8 3,[(d:Int),(d:Int),(e:Int)],bC (bJ (aP L)) (gN p L))=(c8 3,[(d:Int),(d:Int),(e:Int)],bC (bJ (aP L)) (gN p L)):=by
    rw[gT]
    exact aeg Fs
   rw[Fb]
   refine⟨by show(bC _ _).length<=_;rw[fc];decide,by show 3<=_;decide,?_⟩
   show(bC _ _).length<=_
   rw[fc]
   omega)
  have hTv:lZ p L=(c8 3,[(d:Int),(d:Int),(e:Int)],bC (bJ (aP L)) (gN p L)):=by rw[LX,gT];rfl
  have aiJ:lZ p L1=(c8 3,[(d:Int),(d:Int),(e:Int)],bC (bJ (aP L)) (gN p L1)):=by rw[LX,za,gT];rfl
  have f0:=W6 H.ok
  have f1:=W6 O1.ok
  have f2:=W6 O2.ok
  rw[hT2] at f2
  rw[hTv] at f0 f2 zp
  rw[aiJ] at f1
  generalize bC (bJ (aP L)) (gN p L)=A0 at f0 f2 zp Qb
  generalize bC (bJ (aP L)) (gN p L1)=A1 at f1 P7 Qb
  have Fh:=anV (p:=p) (r:=d*e) (k:=d*e) (c:=d*e) (A:=jI e d e) (B:=jI d e d) bk (by omega) (by omega) (by omega) (by rw[Nat.mul_comm d e];exact Ws hm e d) (Ws hm d e)
  rw[iN (M':=fun R C=>if R=C then 1 else 0) fun R hR C hC=>asd hm hR hC] at Fh
  have s1:=Wr bk (a:=d) (b:=e) (by omega) (by omega)
  have s2:=Wr bk (a:=e) (b:=d) (by omega) (by omega)
  have s3:=Wr bk (a:=d) (b:=d) (by omega) (by omega)
  rw[Nat.mul_comm e d] at s2
  have hZl:(aq (d*e) (d*e) (fun R C=>if R=C then(1:Int) else 0)).length=d*e*(d*e):=iu _ _ _
  have hZg:∀i,i<d*e*(d*e)->(aq (d*e) (d*e) (fun R C=>if R=C then(1:Int) else 0))[i]? =some (if i/(d*e)=i%(d*e) then 1 else 0):=fun i hi=>aiz hi
  generalize aq (d*e) (d*e) (fun R C=>if R=C then(1:Int) else 0)=Z at Fh hZl hZg
  generalize aq (d*e) (d*e) (jI d e d)=X1 at Fh s1
  generalize aq (d*e) (d*e) (jI e d e)=X2 at Fh s2
  generalize aq (d*d) (d*d) (jI d d d)=X3 at s3 b1 b2
  rw[e1]
  try simp only[dO]
  rw[e2]
  try simp only[dO]
  rw[e3]
  try simp only[dO]
  rw[show dw [(d:Int),(d:Int),(e:Int)] 3=some [(d:Int),(d:Int),(e:Int)] from rfl]
  try simp only[dO]
  rw[e4]
  try simp only[dO]
  rw[s1]
  try simp only[dO,fT]
  rw[s2]
  try simp only[dO,fT]
  rw[Fh]
  try simp only[dO,fT]
  rw[s3]
  try simp only[dO,fT]
  rw[show((0:Nat):Int)=0 from rfl] at b1 b2
  rw[b1]
  try simp only[dO,fT]
  rw[b2]
  try simp only[dO,fT]
  rw[show dA true=false from rfl]
  try simp only[wB]
  rw[f2]
  try simp only[dO,fT]
  rw[f0]
  try simp only[dO,fT]
  rw[zp]
  try simp only[dO]
  rw[show dA true=false from rfl,wB]
  have hNN:d*e*(d*e)<=9*9:=Nat.mul_le_mul y9 y9
  have hmI:cd .i64 (cd .i64 (cd .i64 (d:Int) (e:Int)) (d:Int)) (e:Int)=((d*e*(d*e):Nat):Int):=by
   have h3:d*e*d<=9*3:=Nat.mul_le_mul y9 sa.2
   rw[sD (by omega) (by omega),sD (by omega) (by omega),sD (by omega) (by omega),Nat.mul_assoc (d*e) d e]
  rw[hmI,show aS (aa Z)=((d*e*(d*e):Nat):Int) from congrArg (fun n:Nat=>(n:Int)) hZl,ao1,wB]
  rw[eH (fun i=>((p,(d:Int),(e:Int),((d*e*(d*e):Nat):Int),(i:Int)),(p,L),p,L1,Z)) (d*e*(d*e)) ?a1 ?a2 ?a3 (dk (by omega))]
  case a1=>
   intro i hi
   dsimp only
   rw[aR (df (by omega)),qE (by show i<Z.length;omega)]
   try simp only[dO]
   rw[hZ,show dt Z i=some (if i/(d*e)=i%(d*e) then 1 else 0) from hZg i hi]
   try simp only[dO]
   rw[sD (by omega) (by omega),fF (by omega),TA (by omega) (by omega)]
   try simp only[dO]
   have PW:((i:Int)%((d*e+1:Nat):Int))=((i%(d*e+1):Nat):Int):=by norm_cast
   rw[PW]
   have aap:=agb aiQ hi
   by_cases hc:i/(d*e)=i%(d*e)
   ·rw[if_pos hc,aap.2 hc,show cJ ((0:Nat):Int) 0=true from rfl,agu,show KS true true=false from rfl,wB,aL (cN (by omega))]
    try simp only[dO,cC]
    rw[fF (by omega)]
   ·rw[if_neg hc,rW (b:=(0:Int)) (show((i%(d*e+1):Nat):Int)≠0 from fun h=>hc (aap.1 (by omega))),show cJ (0:Int) 1=false from rfl,show KS false false=false from rfl,wB,aL (cN (by omega))]
    try simp only[dO,cC]
    rw[fF (by omega)]
  case a2=>
   dsimp only
   rw[aL (cN (by omega))]
   try simp only[dO,cC]
   try rfl
  case a3=>rfl
  simp only[cC,dO]
  rw[fx]
  dsimp only
  rw[f1]
  try simp only[dO,fT]
  rw[show cr [(0:Int),1] 0 2=some [(0:Int),1] from rfl,show cr [(1:Int),0] 0 2=some [(1:Int),0] from rfl]
  try simp only[dO,fT]
  rw[P7]
  try simp only[dO,yB,fT]
  rw[f0]
  try simp only[dO,yB,fT]
  rw[Qb]
  rfl
 ·rw[aR (df (by unfold aS aa;omega))]
theorem ahT (x:List Int) (y:Bool) (h:Mi x=some y):Hj aC x=some y:=by
 rw[ae0];exact h
end Go.Am
