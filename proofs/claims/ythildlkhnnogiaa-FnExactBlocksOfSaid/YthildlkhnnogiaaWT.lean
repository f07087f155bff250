/- L_BlocksOf, Br1, Br2, WT: parts of the proof. No condition. -/
import Derived.Test.YthildlkhnnogiaaMTB
import Derived.Test.YthildlkhnnogiaaM5
import GoSem.ClaimChange
import Derived.ChangeReads
import Derived.ReadAgain
import Derived.ChangeSame
import Derived.WalkKit
import Derived.ProofKit
import Derived.OpenShut
set_option linter.unusedVariables false
set_option linter.unusedSimpArgs false
namespace Go.Am
theorem agK (of:J) (x:Int):∀n,n<=of.length->(j9 of x n).length=(of.take n).countP (fun v=>decide (v=x))
 |0,_=>by simp[j9]
 |n+1,h=>by
  have ih:=agK of x n (by omega);rw[HW 0 (show n<of.length by omega),List.countP_append];simp only[j9];by_cases e:of.getD n 0=x
  ·rw[if_pos e,List.length_append,List.length_singleton,List.countP_cons,if_pos (by simpa using e),ih];simp
  ·rw[if_neg e,List.countP_cons,if_neg (by simpa using e),ih];simp
theorem at4 (of:J) (x:Int):(vals of x).length=of.countP (fun v=>decide (v=x)):=by
 have:=agK of x of.length (Nat.le_refl _);rw[List.take_length] at this;exact this
theorem Xk (n:Int):∀l:J,l.countP (fun v=>decide (v<n))+l.countP (fun v=>decide (v=n))<=l.countP (fun v=>decide (v<n+1))
 |[]=>by simp
 |v::l=>by
  have ih:=Xk n l;simp only[List.countP_cons,decide_eq_true_eq];by_cases h1:v<n
  ·rw[if_pos h1,if_neg (show¬v=n by omega),if_pos (show v<n+1 by omega)];omega
  ·by_cases h2:v=n
   ·rw[if_neg h1,if_pos h2,if_pos (show v<n+1 by omega)];omega
   ·rw[if_neg h1,if_neg h2];omega
theorem adk (of:J):∀n:Nat,((j5 of n).map fun x=>(vals of x).length).sum<=of.countP (fun v=>decide (v<(n:Int)))
 |0=>Nat.zero_le _
 |n+1=>by
  have ih:=adk of n;have st:=Xk (n:Int) of;have hv:=at4 of (n:Int);simp only[j5];split
  ·rw[List.map_append,List.sum_append];simp only[List.map_cons,List.map_nil,List.sum_cons,List.sum_nil];push_cast;omega
  ·push_cast;omega
theorem atC {α β:Type} (K:List α) (g:α->List β) (f:β->Nat):((K.flatMap g).map f).sum=(K.map fun l=>((g l).map f).sum).sum:=by
 induction K with
 |nil=>rfl
 |cons a K ih=>rw[List.flatMap_cons,List.map_append,List.sum_append,ih,List.map_cons,List.sum_cons]
theorem agf {α:Type} (K:List α) (f g:α->Nat) (h:∀l∈K,f l<=g l):(K.map f).sum<=(K.map g).sum:=by
 induction K with
 |nil=>exact Nat.le_refl _
 |cons a K ih=>
  have h1:=h a (by simp);have h2:=ih fun l hl=>h l (by simp[hl]);simp only[List.map_cons,List.sum_cons];omega
theorem VE {α:Type} (K:List α) (f:α->Nat) (c:Nat):(K.map fun l=>f l*c).sum=(K.map f).sum*c:=by
 induction K with
 |nil=>simp
 |cons a K ih=>simp only[List.map_cons,List.sum_cons,ih,Nat.add_mul]
theorem aic {S:List J} {of:J} {l:J} {x:Int} (h:l.length=S.length):bD (S++[of]) (l++[x])=bD S l++[((vals of x).length:Int)]:=by
 unfold bD;rw[List.length_append,List.length_singleton];rw[show dq (l.length+1) (fun i=>((vals ((S++[of]).getD i []) ((l++[x]).getD i 0)).length:Int))=dq l.length (fun i=>((vals ((S++[of]).getD i []) ((l++[x]).getD i 0)).length:Int))++[((vals ((S++[of]).getD l.length []) ((l++[x]).getD l.length 0)).length:Int)] from(y4 _ _).symm]
 congr 1
 ·refine ra fun i hi=>?_;rw[show(S++[of]).getD i []=S.getD i [] by rw[List.getD_eq_getElem?_getD,List.getElem?_append_left (by omega),<-List.getD_eq_getElem?_getD],show(l++[x]).getD i 0=l.getD i 0 by rw[List.getD_eq_getElem?_getD,List.getElem?_append_left hi,<-List.getD_eq_getElem?_getD]]
 ·rw[show(S++[of]).getD l.length []=of by rw[h,List.getD_eq_getElem?_getD,List.getElem?_append_right (Nat.le_refl _),Nat.sub_self];rfl,show(l++[x]).getD l.length 0=x by rw[List.getD_eq_getElem?_getD,List.getElem?_append_right (Nat.le_refl _),Nat.sub_self];rfl]
theorem WT (m:Int):∀(k:Nat) (S:List J),S.length=k->((dk m S).map fun ch=>bY (bD S ch)).sum<=bY (nv S)
 |0,S,h=>by
  rw[List.eq_nil_of_length_eq_zero h];exact Nat.le_refl _
 |k+1,S,h=>by
  obtain⟨S,of,rfl⟩:∃S' of,S=S'++[of]:=⟨S.dropLast,S.getLast (by intro e;rw[e] at h;simp at h),(List.dropLast_concat_getLast _).symm⟩;have ih:=WT m k S (by simpa using h);have hof:=Nat.le_trans (adk of m.toNat) (List.countP_le_length (p:=fun v=>decide (v<(m.toNat:Int))) (l:=of));rw[JG,atC,show bY (nv (S++[of]))=bY (nv S)*of.length by rw[show nv (S++[of])=nv S++[(of.length:Int)] by simp[nv],Hf,Int.toNat_natCast]];refine Nat.le_trans (agf _ _ (fun l=>bY (bD S l)*of.length) fun l hl=>?_) (by rw[VE];exact Nat.mul_le_mul_right _ ih);rw[List.map_map];have e:((dc m of).map ((fun ch=>bY (bD (S++[of]) ch))∘fun x=>l++[x]))=(dc m of).map fun x=>(vals of x).length*bY (bD S l):=List.map_congr_left fun x _=>by
   simp only[Function.comp];rw[aic (Wv hl),Hf,Int.toNat_natCast,Nat.mul_comm]
  rw[e,VE,Nat.mul_comm];exact Nat.mul_le_mul_left _ hof
theorem agd {α:Type} (p:α->Bool) (f:α->Nat):∀K:List α,((K.filter p).map f).sum<=(K.map f).sum
 |[]=>Nat.le_refl _
 |a::K=>by
  have ih:=agd p f K;by_cases h:p a=true
  ·rw[List.filter_cons_of_pos h];simp only[List.map_cons,List.sum_cons];omega
  ·rw[List.filter_cons_of_neg h];simp only[List.map_cons,List.sum_cons];omega
theorem atB {α:Type} (K:List α) (f:α->Nat) (c:Nat):(K.map fun l=>c+f l).sum=K.length*c+(K.map f).sum:=by
 induction K with
 |nil=>simp
 |cons a K ih=>simp only[List.map_cons,List.sum_cons,ih,List.length_cons,Nat.add_mul,Nat.one_mul];omega
theorem ahx {r:Rg} {L D A:J} {m:Int} {R:List J} (ht:jd r (L,D,A)=true) (hk:jP ((L,D,A),(m,R))=true) (hL:L.length<=12):ou (ug r (L,D,A) (m,R))<=1048576:=by
 have H:=CB hk;obtain⟨hr,_,_,⟨lP,lz⟩,hA,_,_,_,_⟩:=zi ht;have hw:=pi hr;have QX:=Pk H;have Rj:=Nat.le_trans (agd (sn m) (fun ch=>bY (bD R ch)) (dk m R)) (WT m R.length R rfl);rw[(Nv H).1] at Rj;have hb:((cP m R).map fun ch=>kR (nF r (L,D,A) R ch)).sum<=((cP m R).map fun ch=>36+bY (bD R ch)*aR r).sum:=by
  refine agf _ _ _ fun ch gX=>?_;have cW:=Pj H gX;have B:=H.blk cW;have Ge:=H.fy;have h1:=B.cl;have h2:=B.bl;have h3:=JP r A (eA D R ch) (bY (bD R ch));show ch.length+L.length+(bD R ch).length+(mZ r A (eA D R ch) (bY (bD R ch))).length<=_;omega
 rw[atB,VE] at hb;have hs2:((cP m R).map fun ch=>bY (bD R ch)).sum*aR r<=4096*6:=Nat.mul_le_mul (Nat.le_trans Rj lz) hw.2.2;unfold ou ug;rw[List.length_map,List.map_map];have e:((cP m R).map (kR∘nF r (L,D,A) R)).sum=((cP m R).map fun ch=>kR (nF r (L,D,A) R ch)).sum:=rfl;rw[show(m,R).1=m from rfl,show(m,R).2=R from rfl,e]
 omega
theorem aiy (r:Int×Int×Int) (t:J×J×J) (c:Int×List J) (h1:kS t<=1048576) (h2:mR c<=1048576):∃r0 r1,xp (r,t,c)=some (r0,r1)/\zp (r,t,c)=some (r0,r1)/\ou r0<=1048576:=by
 obtain⟨L,D,T⟩:=t;obtain⟨m,R⟩:=c;have h1:L.length+D.length+T.length<=1048576:=h1;have h2:=VI (l:=R) h2;have hd:CJ (r,(L,D,T),m,R):=⟨⟨by show L.length<=_;omega,by show D.length<=_;omega,by show T.length<=_;omega⟩,⟨by show L.length<=_;omega,by show D.length<=_;omega⟩,h2.1,h2.2⟩;by_cases hb:vI r (L,D,T) (m,R)=true
 ·refine⟨ug r (L,D,T) (m,R),true,?_,?_,?_⟩
  ·exact(if_pos hd).trans (congrArg some (if_pos hb))
  ·exact(if_pos hd).trans (congrArg some (if_pos hb))
  ·have hg:=of_decide_eq_true hb;refine ahx hg.1 hg.2.1 ?_;have hk:=hg.2.1;simp only[jP,Bool.and_eq_true,decide_eq_true_eq] at hk;by_cases ha:oD L D=true/\eo D<=4096
   ·exact(vB ha.1).1
   ·have e:fS L D= -1:=if_neg ha;rw[e] at hk;exact absurd hk.1 (by decide)
 ·exact⟨[],false,(if_pos hd).trans (congrArg some (if_neg hb)),(if_pos hd).trans (congrArg some (if_neg hb)),by decide⟩
def Ib:(Int×Int×Int)×(J×J×J)×(Int×(List J))->Option Bool:=fun((a0,a1,a2):(Int×Int×Int)×(J×J×J)×(Int×(List J)))=>if(H9 a1&&H8 a2)=true then some true else none
def xD:ak:=[(.agg,[.int .i64,.int .i64,.int .i64]),(.agg,[.list [.int .i64],.list [.int .i64],.list [.int .i64]]),(.agg,[.int .i64,.list [.list [.int .i64]]])]
def TW:ak:=[(.one,[.bool])]
def aol:aM:=[]
def NX (NN:Nat):((Int×(Int×Int))×((J×(J×J))×(Int×(List J))))->(Option Bool):=
 (fun(((i0,i1,i2),(l3,l4,l5),i6,l7):((Int×(Int×Int))×((J×(J×J))×(Int×(List J)))))=>
 (BX ((l3,l4,l5),(1048576:Int))).ae (fun i8=>
 av (bG i8 (0:Int))
 (some true)
 ((BV ((i6,l7),i8)).ae (fun i9=>
 av (bG i9 (0:Int))
 (some true)
 ((zv (i0,i1,i2)).ae (fun(jD,fZ,fH)=>
 (tU (l3,l4,l5)).ae (fun(iY,f7,e8)=>
 (tS (i6,l7)).ae (fun(lB,eS)=>
 (cX iY 0 (aa iY)).ae (fun f8=>
 (cX f7 0 (aa f7)).ae (fun fj=>
 (cX e8 0 (aa e8)).ae (fun fI=>
 (cX eS 0 (aa eS)).ae (fun jX=>
 (xp ((jD,fZ,fH),(f8,fj,fI),lB,jX)).ae (fun(e9,OY)=>
 (tU (l3,l4,l5)).ae (fun(gj,fe,fJ)=>
 (tS (i6,l7)).ae (fun(mJ,iG)=>
 (zv (i0,i1,i2)).ae (fun(wG,Du,Rz)=>
 (cX gj 0 (aa gj)).ae (fun kt=>
 (cX fe 0 (aa fe)).ae (fun iH=>
 (cX fJ 0 (aa fJ)).ae (fun lC=>
 (cX iG 0 (aa iG)).ae (fun np=>
 (zp ((wG,Du,Rz),(kt,iH,lC),mJ,np)).ae (fun(jG,WI)=>
 (cX jG 0 (aa jG)).ae (fun tq=>
 (cX e9 0 (aa e9)).ae (fun yB=>
 (tQ (tq,yB)).ae (fun b40=>
 av (dN b40)
 (some false)
 (av (GZ WI OY)
 (some false)
 ((tU (l3,l4,l5)).ae (fun(qO,n7,tr)=>
 (cX gj 0 (aa gj)).ae (fun yC=>
 (cX fe 0 (aa fe)).ae (fun pM=>
 (cX fJ 0 (aa fJ)).ae (fun lU=>
 (cX qO 0 (aa qO)).ae (fun ku=>
 (cX n7 0 (aa n7)).ae (fun kL=>
 (cX tr 0 (aa tr)).ae (fun tt=>
 (tR ((yC,pM,lU),ku,kL,tt)).ae (fun b50=>
 av (dN b50)
 (some false)
 ((tS (i6,l7)).ae (fun(AB,sb)=>
 (cX iG 0 (aa iG)).ae (fun wH=>
 (cX sb 0 (aa sb)).ae (fun AM=>
 (xo ((mJ,wH),AB,AM)).ae (fun b55=>
 av (dN b55)
 (some false)
 (aA gj (
 aA fe (
 aA fJ (
 (BU ((gj,fe,fJ),(1:Int))).ae (fun(Gu,qP,AO,wI)=>
 aA iG (
 (BS ((mJ,iG),Gu)).ae (fun(RG,nt)=>
 av (bG RG (0:Int))
 (some false)
 ((cX jG 0 (aa jG)).ae (fun mL=>
 (cX e9 0 (aa e9)).ae (fun yD=>
 (tQ (mL,yD)).ae (fun b64=>
 av (dN b64)
 (some false)
 (av (GZ WI OY)
 (some false)
 (aA jG (
 (BR (jG,(1:Int))).ae (fun(Ld,wK)=>
 (cX wK 0 (aa jG)).ae (fun AP=>
 (vl (AP,(1:Int))).ae (fun Dz=>
 av (bG Dz (0:Int))
 (some false)
 (av (fq Dz Ld)
 (some false)
 ((zv (i0,i1,i2)).ae (fun(i69,i70,i71)=>
 (tU (l3,l4,l5)).ae (fun(GR,uU,wL)=>
 (tS (i6,l7)).ae (fun(DA,GS)=>
 (cX GR 0 (aa GR)).ae (fun AR=>
 (cX uU 0 (aa uU)).ae (fun nu=>
 (cX wL 0 (aa wL)).ae (fun tw=>
 (cX GS 0 (aa GS)).ae (fun AS=>
 (zp ((i69,i70,i71),(AR,nu,tw),DA,AS)).ae (fun(qR,b82)=>
 (cX qR 0 (aa qR)).ae (fun yF=>
 (cX e9 0 (aa e9)).ae (fun n9=>
 (tQ (yF,n9)).ae (fun O0=>
 av (dN O0)
 (some false)
 (av (GZ b82 OY)
 (some false)
 ((cX wK 0 (aa jG)).ae (fun wM=>
 (vl (wM,(1:Int))).ae (fun Lf=>
 av (bG Lf (0:Int))
 (some false)
 (av (fq Lf Ld)
 (some false)
 (some true)))))))))))))))))))))))))))))))))))))))))))))))))))))))))))))))))))))))))))
theorem ajC (x:(Int×Int×Int)×(J×J×J)×(Int×(List J))) (y:Bool) (h:Ib x=some y):NX aL x=some y:=by
 obtain⟨⟨ag5,ag6,ag7⟩,⟨ld,lI,mn⟩,⟨vz,qf⟩⟩:=x;simp only[Ib,Bool.and_eq_true] at h;split at h
 ·rename_i hw;rw[<-h];simp only[NX,aA];rw[agk (o:=BX ((ld,lI,mn),1048576)) (s:=kS (ld,lI,mn)) (if_pos ⟨by constructor<;>omega,hw.1⟩)]
  by_cases c0:((kS (ld,lI,mn):Nat):Int)<=1048576
  case neg=>rw[if_neg c0]
  rw[if_pos c0];rw[agk (o:=BV ((vz,qf),1048576 - (kS (ld,lI,mn):Nat))) (s:=mR (vz,qf)) (if_pos ⟨by constructor<;>omega,hw.2⟩)]
  by_cases c1:((mR (vz,qf):Nat):Int)<=1048576 - (kS (ld,lI,mn):Nat)
  case neg=>rw[if_neg c1]
  rw[if_pos c1];obtain⟨r0,r1,hs,hi,z0⟩:=aiy (ag5,ag6,ag7) (ld,lI,mn) (vz,qf) (by omega) (by omega);have t1:tU (ld,lI,mn)=some (ld,lI,mn):=atW _ (by omega);have q1:tR ((ld,lI,mn),(ld,lI,mn))=some true:=aiu _ (by omega);have:=kB ld;have:=kB lI;have:=kB mn;have t2:tS (vz,qf)=some (vz,qf):=atV _ (by omega);have q2:xo ((vz,qf),(vz,qf))=some true:=ait _ (by omega);have:=WX qf;have w0:tQ (r0,r0)=some true:=ais _ (by omega);have:=ahy r0;simp only[kS,mR] at*
  have m1:BU ((ld,lI,mn),(1:Int))=some ((1:Int)+(bi ld:Nat)+(bi lI:Nat)+(bi mn:Nat),dM ld ((1:Int)),dM lI ((1:Int)+(bi ld:Nat)),dM mn ((1:Int)+(bi ld:Nat)+(bi lI:Nat))):=if_pos ⟨by omega,by(try simp only[kS,mR]);omega⟩
  have m2:BS ((vz,qf),(1:Int)+(bi ld:Nat)+(bi lI:Nat)+(bi mn:Nat))=some ((1:Int)+(bi ld:Nat)+(bi lI:Nat)+(bi mn:Nat)+(zJ qf:Nat),u0 qf ((1:Int)+(bi ld:Nat)+(bi lI:Nat)+(bi mn:Nat))):=if_pos ⟨by omega,by(try simp only[kS,mR]);omega⟩
  have k0:bG ((1:Int)+(bi ld:Nat)+(bi lI:Nat)+(bi mn:Nat)+(zJ qf:Nat)) 0=false:=eJ (by omega);have n0:BR (r0,(1:Int))=some ((1:Int)+(rB r0:Nat),jm r0 ((1:Int))):=if_pos ⟨by omega,by(try simp only[kS,mR]);omega⟩
  have d0:vl (jm r0 ((1:Int)),(1:Int))=some ((1:Int)+(rB r0:Nat)):=akO r0 ((1:Int)) ⟨by omega,by(try simp only[kS,mR]);omega⟩
  have kk0:bG ((1:Int)+(rB r0:Nat)) 0=false:=eJ (by omega);have lr0:cX (jm r0 ((1:Int))) 0 (aa r0)=some (jm r0 ((1:Int))):=aue (Sq r0 ((1:Int)));simp only[atU,bj,io,kY,bQ,hs,hi,SL,J3,aqo,aqp,t1,q1,t2,q2,w0,m1,m2,k0,n0,d0,kk0,lr0]
 ·cases h
section
def HY (P:Program) (r:TypeId->Option (List Ty)):Nat->List Field->Option (List Ty)
 |_,[]=>some []
 |off,f::fs=>match r f.type with
  |some ts=>if f.offset=off/\P.cellsOf f.type=ts.length then(HY P r (off+ts.length) fs).map (ts++·) else none
  |none=>none
def EH (P:Program):Nat->TypeId->Option (List Ty)
 |0,_=>none
 |n+1,t=>match P.underlying t with
  |some .bool=>some [.bool]
  |some (.int k)=>some [.int k]
  |some (.slice e)=>match EH P n e with
   |some ts=>if 0<ts.length/\P.cellsOf e=ts.length then some [.list ts] else none
   |none=>none
  |some (.struct fs)=>match HY P (EH P n) 0 fs.toList with
   |some ts=>if P.cellsOf t=ts.length then some ts else none
   |none=>none
  |_=>none
mutual
def Ty.Wf:(t:Ty)->t.D->Prop
 |.int k,n=>LE.le (α:=Int) k.min n/\LE.le (α:=Int) n k.max
 |.bool,_=>True
 |.list ts,xs=>List.length (α:=Ty.DL ts) xs<=maxLen/\∀e:Ty.DL ts,List.Mem (α:=Ty.DL ts) e xs->Ty.mh ts e
def Ty.mh:(ts:List Ty)->Ty.DL ts->Prop
 |[],_=>True
 |[t],x=>Ty.Wf t x
 |t::u::ts,x=>Ty.Wf t x.1/\Ty.mh (u::ts) x.2
end
theorem Xn (t:Ty) (ts:List Ty) (x:t.D) (y:Ty.DL ts):Ty.mh (t::ts) (zO t ts x y)↔t.Wf x/\Ty.mh ts y:=by
 cases ts with
 |nil=>exact⟨fun h=>⟨h,trivial⟩,fun h=>h.1⟩
 |cons u us=>exact Iff.rfl
theorem ahZ (t:Ty):∀(ts:List Ty) (x:Ty.DL (t::ts)),∃a b,x=zO t ts a b
 |[],x=>⟨x,(),rfl⟩
 |_::_,x=>⟨x.1,x.2,rfl⟩
theorem Wz:∀(ts us:List Ty) (x:Ty.DL ts) (y:Ty.DL us),Ty.mh ts x->Ty.mh us y->∃z:Ty.DL (ts++us),Ty.aE (ts++us) z=Ty.aE ts x++Ty.aE us y/\Ty.mh (ts++us) z
 |[],us,x,y,_,h=>⟨y,rfl,h⟩
 |t::ts,us,x,y,h1,h2=>by
  obtain⟨a,b,rfl⟩:=ahZ t ts x;rw[Xn] at h1;obtain⟨z,e1,e2⟩:=Wz ts us b y h1.2 h2;exact⟨zO t (ts++us) a z,by
   have h1:Ty.aE (t::(ts++us)) (zO t (ts++us) a z)=t.er a::Ty.aE (ts++us) z:=Py _ _ _ _;have h2:Ty.aE (t::ts) (zO t ts a b)=t.er a::Ty.aE ts b:=Py _ _ _ _;exact h1.trans (by rw[h2,e1];rfl),(Xn _ _ _ _).2 ⟨h1.1,e2⟩⟩
theorem abk {α β:Type} {f:α->Option β}:∀{l:List α} {r:List β},l.mapM f=some r->r.length=l.length/\∀(i:Nat) (x:α),l[i]? =some x->∃y,r[i]? =some y/\f x=some y:=by
 intro l;induction l with
 |nil=>intro r h;simp at h;subst h;exact⟨rfl,by simp⟩
 |cons a l ih=>
  intro r h;rw[List.mapM_cons] at h;cases hx:f a with
  |none=>simp[hx] at h
  |some y=>
   cases Dr:l.mapM f with
   |none=>simp[hx,Dr] at h
   |some ys=>
    simp[hx,Dr] at h;subst h;obtain⟨i1,i2⟩:=ih Dr;refine⟨by simp[i1],fun i x hi=>?_⟩;cases i with
    |zero=>simp at hi;subst hi;exact⟨y,rfl,hx⟩
    |succ i=>exact i2 i x (by simpa using hi)
theorem ahG {w:World} {a:Addr} {n:Nat} {cs:List Value} (h:w.cells? 0 a n=some cs):cs.length=n/\∀(j:Nat) (c:Value),cs[j]? =some c->w.cell? (a.add j)=some c:=by
 unfold World.cells? at h;rw[if_pos (Nat.zero_le _)] at h;obtain⟨h1,h2⟩:=abk h;simp only[List.length_range] at h1;refine⟨h1,fun j c hj=>?_⟩;have cj:j<n:=by rw[<-h1];exact(List.getElem?_eq_some_iff.1 hj).1
 obtain⟨y,e1,e2⟩:=h2 j j (List.getElem?_range cj);rw[hj] at e1;injection e1 with e1;subst e1;exact e2
theorem ahF {w:World} {a:Addr} {v:Value} (h:w.cell? a=some v):a=ad a.block a.off:=by
 unfold World.cell? at h;split at h
 ·split at h
  ·cases h
  ·rename_i hs;obtain⟨b,o,s⟩:=a;cases s with
   |none=>rfl
   |some q=>simp at hs
 ·cases h
theorem Ws (a:Addr):a.add 0=a:=by unfold Addr.add;simp
section
variable {H:Type} {enc:TypeId×Value->H} {P:Program} {w:World} {sp:Nat->Bool} {held:Bool}
def sQ (P:Program) (w:World) (ts:List Ty) (cs:List Value):Prop:=
 ∃(x:Ty.DL ts) (bx:List PC),bx.map PC.er=Ty.aE ts x/\bx.map PC.val=cs/\(∀pc∈bx,Good w pc)/\Ty.mh ts x
theorem sQ.one {t:Ty} {x:t.D} {pc:PC} {c:Value} (h1:pc.er=t.er x) (h2:pc.val=c) (h3:Good w pc) (h4:t.Wf x):sQ P w [t] [c]:=
 ⟨x,[pc],by simp only[List.map_cons,List.map_nil,h1];rfl,by simp[h2],by simpa using h3,h4⟩
theorem adB {r:TypeId->Option (List Ty)} {q:TypeId->List Value->Option (DataW H×List MemPlace)} (hr:∀t ts cs y,r t=some ts->q t cs=some y->sQ P w ts cs) (cs:List Value):
  ∀(fs:List Field) (off:Nat) (ts:List Ty) (ys:List (DataW H×List MemPlace)),HY P r off fs=some ts->fs.mapM (fun f=>q f.type ((cs.drop f.offset).take (P.cellsOf f.type)))=some ys->sQ P w ts ((cs.drop off).take ts.length)
 |[],off,ts,ys,h1,h2=>by
  simp only[HY] at h1;injection h1 with h1;subst h1;exact⟨(),[],rfl,by simp,by simp,trivial⟩
 |f::fs,off,ts,ys,h1,h2=>by
  simp only[HY] at h1;split at h1
  ·rename_i ts1 e1;split at h1
   ·rename_i hc;obtain⟨c1,c2⟩:=hc;rw[Option.map_eq_some_iff] at h1;obtain⟨ts2,e2,rfl⟩:=h1;rw[List.mapM_cons] at h2;cases hq:q f.type ((cs.drop f.offset).take (P.cellsOf f.type)) with
    |none=>simp[hq] at h2
    |some y=>
     cases hqs:fs.mapM (fun f=>q f.type ((cs.drop f.offset).take (P.cellsOf f.type))) with
     |none=>simp[hq,hqs] at h2
     |some ys2=>
      obtain⟨x1,p1,a1,a2,a3,a4⟩:=hr _ _ _ _ e1 hq;obtain⟨x2,p2,b1,b2,b3,b4⟩:=adB hr cs fs (off+ts1.length) ts2 ys2 e2 hqs;obtain⟨z,z1,z2⟩:=Wz ts1 ts2 x1 x2 a4 b4;refine⟨z,p1++p2,by rw[List.map_append,a1,b1,z1],?_,fun pc bg=>(List.mem_append.1 bg).elim (a3 pc) (b3 pc),z2⟩;rw[List.map_append,a2,b2,c1,c2,List.length_append,List.take_add,List.drop_drop]
   ·cases h1
  ·cases h1
theorem atc {gb:Nat} {t e:TypeId} {us:List Ty} {cs:List Value} {y:DataW H×List MemPlace} (ih:∀cs y,DataW.trod enc P w 0 sp held gb e cs=some y->sQ P w us cs) (eR:0<us.length) (gW:P.cellsOf e=us.length)
  (hu:P.underlying t=some (.slice e)) (h:DataW.trod enc P w 0 sp held (gb+1) t cs=some y):sQ P w [.list us] cs:=by
 rw[DataW.trod_step] at h;unfold DataW.trodStep at h;simp only[hu] at h;split at h<;>first|(cases h;done)|(rename_i fw;cases fw;done)|skip
 ·exact sQ.one (t:=.list us) (x:=([]:List (Ty.DL us))) (pc:=.list us.length none 0 []) (by rw[PC.d9];rfl) rfl (.nil _ _ _ eR) ⟨Nat.zero_le _,fun e he=>by cases he⟩
 ·rename_i e' a len cap fw;injection fw with fw;injection fw with fw;subst fw;split at h
  ·rename_i hc;obtain⟨_,hlc,jz⟩:=hc;rw[Option.bind_eq_some_iff] at h;obtain⟨elems,he,_⟩:=h;obtain⟨g1,g2⟩:=abk he;simp only[List.length_range] at g1;have each:∀i:Fin len,∃(x:Ty.DL us) (bx:List PC),bx.map PC.er=Ty.aE us x/\(∀pc∈bx,Good w pc)/\Ty.mh us x/\∀j pc,bx[j]? =some pc->w.cell? ((a.add (i.1*us.length)).add j)=some pc.val:=by
    intro i;obtain⟨y1,_,e2⟩:=g2 i.1 i.1 (List.getElem?_range i.2);rw[Option.bind_eq_some_iff] at e2;obtain⟨Xr,e3,e4⟩:=e2;rw[gW] at e3;obtain⟨c1,c2⟩:=ahG e3;obtain⟨x,bx,a1,a2,a3,a4⟩:=ih Xr y1 e4;refine⟨x,bx,a1,a3,a4,fun j pc hj=>c2 j pc.val ?_⟩;rw[<-a2,List.getElem?_map,hj];rfl
   let xs:List (Ty.DL us):=List.ofFn fun i:Fin len=>Classical.choose (each i);let px:List (List PC):=List.ofFn fun i:Fin len=>Classical.choose (Classical.choose_spec (each i));have fC:∀k e,px[k]? =some e->∃i:Fin len,i.1=k/\e=Classical.choose (Classical.choose_spec (each i)):=by
    intro k e hk;rw[List.getElem?_ofFn] at hk;split at hk
    ·rename_i cj;injection hk with hk;exact⟨⟨k,cj⟩,rfl,hk.symm⟩
    ·cases hk
   have spec:=fun i:Fin len=>Classical.choose_spec (Classical.choose_spec (each i));have aln:px.length=len:=by simp[px]
   have auy:xs.length=len:=by simp[xs]
   have Q0:px.map (fun e=>e.map PC.er)=List.map (Ty.aE us) xs:=by
    apply List.ext_getElem?;intro k;simp only[List.getElem?_map,px,xs,List.getElem?_ofFn];by_cases hk:k<len
    ·simp only[hk,dif_pos,Option.map_some];rw[(spec ⟨k,hk⟩).1]
    ·simp only[hk,dif_neg,not_false_eq_true,Option.map_none]
   have uK:∀x∈xs,Ty.mh us x:=by
    intro x hx;obtain⟨i,hi⟩:=List.mem_ofFn.1 hx;subst hi;exact(spec i).2.2.1
   have bU:∀e∈px,e.length=us.length:=by
    intro e he;obtain⟨k,hk⟩:=List.getElem?_of_mem he;obtain⟨i,_,rfl⟩:=fC k e hk;have:=congrArg List.length (spec i).1;rwa[List.length_map,Ty.CQ] at this
   have fW:∀k j c,At px k j c->Good w c:=by
    rintro k j c ⟨e,he,hj⟩;obtain⟨i,_,rfl⟩:=fC k e he;exact(spec i).2.1 c (List.mem_of_getElem? hj)
   have oL:∀k j c,At px k j c->w.cell? ((a.add (k*us.length)).add j)=some c.val:=by
    rintro k j c ⟨e,he,hj⟩;obtain⟨i,rfl,rfl⟩:=fC k e he;exact(spec i).2.2.2 j c hj
   refine sQ.one (t:=.list us) (x:=xs) (pc:=.list us.length (some a) cap px) (by rw[PC.d9,Q0];rfl) (by simp[PC.val,aln]) ?_ ⟨by show xs.length<=maxLen;omega,fun x hx=>uK x hx⟩;by_cases h0:px=[]
   ·rw[h0];exact .nil _ _ _ eR
   ·obtain⟨c0,dG⟩:=WH h0 eR bU;have h1:=oL 0 0 c0 dG;rw[Nat.zero_mul,Ws,Ws] at h1;have Au:=ahF h1;rw[Au] at oL⊢;refine .cons _ _ _ _ _ h0 (by omega) eR bU (fun k j c hk=>?_) fW;have:=oL k j c hk;rwa[ru,ru] at this
  ·cases h
theorem VT:∀(gb:Nat) (t:TypeId) (cs:List Value) (y:DataW H×List MemPlace) (n:Nat) (ts:List Ty),DataW.trod enc P w 0 sp held gb t cs=some y->EH P n t=some ts->sQ P w ts cs
 |0,t,cs,y,n,ts,h,ht=>by simp[DataW.trod] at h
 |gb+1,t,cs,y,0,ts,h,ht=>by simp[EH] at ht
 |gb+1,t,cs,y,n+1,ts,h,ht=>by
  simp only[EH] at ht;cases hu:P.underlying t with
  |none=>rw[hu] at ht;cases ht
  |some d=>
   rw[hu] at ht;cases d<;>simp only at ht<;>first|(cases ht;done)|skip
   case bool=>
    injection ht with ht;subst ht;rw[DataW.trod_step] at h;unfold DataW.trodStep at h;simp only[hu] at h;split at h<;>first|(cases h;done)|(rename_i fw;cases fw;done)|skip
    rename_i b fw;exact sQ.one (t:=.bool) (x:=b) (pc:=.bool b) rfl rfl (.bool b) trivial
   case int k=>
    injection ht with ht;subst ht;rw[DataW.trod_step] at h;unfold DataW.trodStep at h;simp only[hu] at h;split at h<;>first|(cases h;done)|(rename_i fw;cases fw;done)|skip
    rename_i k1 k2 n2 fw;injection fw with fw;injection fw with fw;subst fw;split at h
    ·rename_i hc;obtain⟨rfl,hc⟩:=hc;simp only[Lit.wf,Bool.and_eq_true,decide_eq_true_eq] at hc;exact sQ.one (t:=.int k2) (x:=n2) (pc:=.int k2 n2) rfl rfl (.int k2 n2) hc
    ·cases h
   case slice e=>
    split at ht
    ·rename_i us kH;split at ht
     ·rename_i eR;obtain⟨eR,gW⟩:=eR;injection ht with ht;subst ht;exact atc (fun cs y hy=>VT gb e cs y n us hy kH) eR gW hu h
     ·cases ht
    ·cases ht
   case struct fs=>
    rw[DataW.trod_step] at h;unfold DataW.trodStep at h;simp only[hu] at h;split at h<;>first|(cases h;done)|(rename_i fw;cases fw;done)|skip
    rename_i hlen;split at ht
    ·rename_i us kH;split at ht
     ·rename_i gW;injection ht with ht;subst ht;rw[Option.map_eq_some_iff] at h;obtain⟨ys,h1,h2⟩:=h;have:=adB (P:=P) (w:=w) (fun t ts cs y h3 h4=>VT gb t cs y n ts h4 h3) cs fs.toList 0 us ys kH h1;rwa[List.drop_zero,<-gW,<-hlen,List.take_length] at this
     ·cases ht
    ·cases ht
end
end
section
open Go.ChangeShapes Go.WideShapes Go.ChangeAt Go.RowKit
def Ch:(as:ak)->ba as.aZ->Prop
 |[],_=>True
 |[a],x=>Ty.mh a.2 x
 |a::b::as,x=>Ty.mh a.2 x.1/\Ch (b::as) x.2
theorem ahY (a:K×List Ty) (as:ak) (x:Ty.DL a.2) (y:ba (ak.aZ as)):Ty.mh a.2 x->Ch as y->Ch (a::as) (J5 a.2 (ak.aZ as) x y):=by
 intro h1 h2;cases as with
 |nil=>exact h1
 |cons b as=>exact⟨h1,h2⟩
def Pt (P:Program) (t:TypeId) (a:K×List Ty):Bool:=
 match EH P 30 t with
 |some ts=>Ty.sU ts a.2&&(match P.underlying t,a.1 with
  |some (.struct _),.agg=>true
  |some (.int _),.one=>true
  |some .bool,.one=>true
  |some (.slice _),.one=>true
  |_,_=>false)
 |none=>false
def CE (P:Program):List TypeId->ak->Bool
 |[],[]=>true
 |t::ts,a::as=>Pt P t a&&CE P ts as
 |_,_=>false
section
variable {H:Type} {enc:TypeId×Value->H} {P:Program} {w w':World} {sp:Nat->Bool} {held:Bool}
theorem ahg {t:TypeId} {a:K×List Ty} {v:Value} {d:DataW H} {ps:List MemPlace} (hc:Pt P t a=true) (hv:Value.okWide P w .any 0 t v) (hd:DataW.Trod enc P w 0 sp held t v d ps):
  ∃x:Ty.DL a.2,BC w (a.1,Ty.aE a.2 x) v/\Ty.mh a.2 x:=by
 obtain⟨gb,hd⟩:=hd;unfold Pt at hc;split at hc
 ·rename_i ts tp;simp only[Bool.and_eq_true] at hc;obtain⟨h1,h2⟩:=hc;have h1:=Ty.sV h1;subst h1;obtain⟨x,bx,e1,e2,e3,e4⟩:=VT gb t v.cells.toList _ 30 a.2 hd tp;refine⟨x,?_,e4⟩;unfold Value.okWide at hv;have one:(∀cs,v≠ .agg cs)->a.1=.one->BC w (a.1,Ty.aE a.2 x) v:=by
   intro hn ha;have oL:v.cells.toList=[v]:=by cases v<;>first|rfl|(rename_i cs;exact absurd rfl (hn cs))
   rw[ha];exact⟨bx,e1,e3,by rw[e2,oL]⟩
  split at h2
  ·rename_i fs hu ha;rw[hu] at hv;obtain⟨cs,rfl,_,_⟩:=hv;rw[ha];exact⟨bx,e1,e3,by rw[e2];rfl⟩
  ·rename_i k hu ha;refine one (fun cs e=>?_) ha;subst e;rw[hu] at hv;simp[Cell.okWide,hu,Cell.ok] at hv
  ·rename_i hu ha;refine one (fun cs e=>?_) ha;subst e;rw[hu] at hv;simp[Cell.okWide,hu,Cell.ok] at hv
  ·rename_i e hu ha;refine one (fun cs e=>?_) ha;subst e;rw[hu] at hv;simp[Cell.okWide,hu,Cell.ok] at hv
  ·cases h2
 ·cases hc
theorem WE:∀{ts:List TypeId} {as:ak} {vs:List Value} {ds:List (DataW H)} {ps:List MemPlace},CE P ts as=true->(∀(j:Nat) (t:TypeId) (v:Value),ts[j]? =some t->vs[j]? =some v->Value.okWide P w .any 0 t v)->
  DataW.TrodAll enc P w 0 sp held ts vs ds ps->∃x:ba (ak.aZ as),EQ w (dE as x) vs/\Ch as x
 |[],[],vs,ds,ps,hc,hv,h=>by
  obtain⟨rfl,rfl,rfl⟩:=trodAll_nil h;exact⟨(),⟨rfl,by intro j d v hj;simp[dE] at hj⟩,trivial⟩
 |t::ts,a::as,vs,ds,ps,hc,hv,h=>by
  simp only[CE,Bool.and_eq_true] at hc;obtain⟨v,vs1,d,ds1,p,q,rfl,rfl,rfl,h1,h2⟩:=trodAll_cons h;obtain⟨x,a1,a2⟩:=ahg hc.1 (hv 0 t v rfl rfl) h1;obtain⟨y,b1,b2⟩:=WE hc.2 (fun j t v h3 h4=>hv (j+1) t v (by simpa using h3) (by simpa using h4)) h2;refine⟨J5 a.2 (ak.aZ as) x y,?_,ahY a as x y a2 b2⟩;rw[XN];refine⟨by simp[b1.1],fun j d v hj gh=>?_⟩;cases j with
  |zero=>simp at hj gh;subst hj;subst gh;exact a1
  |succ j=>exact b1.2 j d v (by simpa using hj) (by simpa using gh)
 |[],_::_,vs,ds,ps,hc,hv,h=>by simp[CE] at hc
 |_::_,[],vs,ds,ps,hc,hv,h=>by simp[CE] at hc
theorem agz (hw:∀b,b<w.heap.size->w'.heap[b]? =w.heap[b]?):∀{ts:List TypeId} {vs:List Value} {ds:List (DataW H)} {ps:List MemPlace},DataW.TrodAll enc P w 0 sp held ts vs ds ps->DataW.TrodAll enc P w' 0 sp held ts vs ds ps
 |[],[],[],_,h=>h
 |t::ts,v::vs,d::ds,_,⟨p,q,⟨n,h1⟩,h2,e⟩=>by
  refine⟨p,q,⟨n,DataW.trod_carry n t _ _ h1 fun pl e7=>?_⟩,agz hw h2,e⟩;have cj:=DataW.trod_lt n t _ _ h1 pl e7;cases pl with
  |cell b o=>
   have hb:=hw b cj;simp only[World.sameAt,World.cell?,hb]
  |map b=>exact hw b cj
 |[],[],_::_,_,h=>h.elim
 |[],_::_,_,_,h=>h.elim
 |_::_,[],_,_,h=>h.elim
 |_::_,_::_,[],_,h=>h.elim
theorem anj (h1:w'.os=w.os) (h2:w'.output=w.output) (hw:∀b,b<w.heap.size->w'.heap[b]? =w.heap[b]?) (may:MemPlace->Prop):w.keptBut w' may:=by
 have base:=World.keptBut_refl w may;refine⟨h1,h2,fun i hi=>?_⟩;rw[hw i hi];exact base.2.2 i hi
theorem arR {f:Func} {s:ChangeSpec} {apart Qo Qu OR:Bool} {W W':World} {args:Array Value} {v:Value} {ds gs:List (DataW H)} {sT pa pv:List MemPlace}
  (hW:DataW.Whole enc P f.params.toList s.vars apart W args.toList ds gs sT)
  (aaj:∀(b:Nat) (sp:Nat->Bool) (hd:Bool),DataW.TrodAll enc P W' b sp hd f.resultTypes.toList (v.resultList f.resultTypes.size) (s.fn H (ds++gs)).results [])
  (C5:∀sp:Nat->Bool,(∀p∈sT,sp p.block=true)->DataW.TrodAll enc P W' 0 sp true f.params.toList args.toList (s.fn H (ds++gs)).args pa)
  (aap:∀sp:Nat->Bool,(∀p∈sT,sp p.block=true)->DataW.TrodVars enc P W' sp s.vars (s.fn H (ds++gs)).vars pv)
  (gp:sT=pa++pv) (hk:W.keptBut W' (·∈sT)) (KL:∀a:Addr,a.block<W.heap.size->W'.frozen? a=W.frozen? a)
  (fN:∀(j:Nat) (t:TypeId) (r:Value),f.resultTypes[j]? =some t->(v.resultList f.resultTypes.size)[j]? =some r->Value.okWide P W' .any 0 t r):
  s.post enc P f apart Qo Qu OR W args v W':=by
 have hold:∀p∈sT,(fun b=>decide (b<W.heap.size)) p.block=true:=fun p hp=>by simpa using hW.lt p hp
 have cj:=hW.lt;refine⟨ds,gs,sT,[],pa,pv,hW,aaj _ _ _,C5 _ hold,aap _ hold,World.keptBut_mono (fun p hp=>⟨hp,?_⟩) hk,fun _=>?_⟩
 ·rw[gp,List.mem_append] at hp;exact Or.inr hp
 ·obtain⟨_,_,_,_,_,hz,hn⟩:=hW;refine⟨fN,_,_,([]++pa)++pv,⟨[]++pa,pv,trodAll_append (C5 _ (fun _ _=>rfl)) (aaj _ _ _),aap _ (fun _ _=>rfl),rfl,?_,?_⟩,?_⟩
  ·intro b off hp;have bC:MemPlace.cell b off∈sT:=by rw[gp];simpa using hp
   rw[KL ⟨b,off,none⟩ (cj _ bC)];exact hz b off bC
  ·intro ha;have:=hn ha;rw[gp] at this;simpa using this
  ·intro p hp _;rw[gp];simpa using hp
theorem asp {bq:List (K×List PC)} {b:Bool} (h:bq.map (fun p=>(p.1,p.2.map PC.er))=[(K.one,[C.bool b])]):wX bq=.bool b:=by
 match bq,h with
 |[],h=>simp at h
 |_::_::_,h=>simp at h
 |[(k,bx)],h=>
  simp only[List.map_cons,List.map_nil,List.cons.injEq,Prod.mk.injEq,and_true] at h;obtain⟨rfl,h⟩:=h;match bx,h with
  |[],h=>simp at h
  |_::_::_,h=>simp at h
  |[pc],h=>
   simp only[List.map_cons,List.map_nil,List.cons.injEq,and_true] at h;cases pc with
   |bool b=>simp[PC.er] at h;subst h;rfl
   |int k n=>simp[PC.er] at h
   |list sz a cap xs=>rw[PC.d9] at h;cases h
theorem agA:∀{ts:List TypeId} {vs:List Value} {ds:List (DataW H)} {ps:List MemPlace},DataW.TrodAll enc P w 0 sp held ts vs ds ps->ds.length=ts.length
 |[],vs,ds,ps,h=>by obtain⟨rfl,rfl,rfl⟩:=trodAll_nil h;rfl
 |t::ts,vs,ds,ps,h=>by
  obtain⟨v,vs1,d,ds1,p,q,rfl,rfl,rfl,h1,h2⟩:=trodAll_cons h;simp[agA h2]
def ZB (P:Program):Bool:=(List.range P.types.size).all fun t=>match P.underlying t with|some (.slice e)=>decide (0<P.cellsOf e)|_=>true
theorem anD {f:FuncId} {fn:Func} {s:ChangeSpec} {sg:ak} {M:List Dv->Option (List Dv)} {tb:TypeId} (hl:laidOutB P=true) (hmr:mapsRowed P=true)
  (hz:ZB P=true)
  (tp:∀t∈fn.params.toList,t<P.types.size)
  (hp:CE P fn.params.toList sg=true) (hr:fn.resultTypes=#[tb]) (hb:P.underlying tb=some .bool) (hs:s.vars=[])
  (Au:∀ds:List (DataW H),ds.length=fn.params.toList.length->(s.fn H ds).results=[.lit (.bool true)]/\(s.fn H ds).args=ds/\(s.fn H ds).vars=[])
  (alp:dd P f M) (hM:∀x:ba (ak.aZ sg),Ch sg x->M (dE sg x)=some [(.one,[.bool true])]) {apart Qo Qu OR:Bool}
  {W:World} {base:Nat} {args:Array Value} {ds gs:List (DataW H)} {sT:List MemPlace}
  (Av:∀(j:Nat) t v,fn.params[j]? =some t->args[j]? =some v->Value.okWide P W .any base t v) (hW:DataW.Whole enc P fn.params.toList s.vars apart W args.toList ds gs sT):
  Calls P f args W fun e W'=>∃v,e=.returned v/\s.post enc P fn apart Qo Qu OR W args v W':=by
 have hW':=hW;obtain⟨p,q,hA,hV,rfl,KL,fx⟩:=hW;rw[hs] at hV;obtain⟨rfl,rfl⟩:=trodVars_none hV;obtain⟨x,hx,uK⟩:=WE hp (fun j t v h1 h2=>Value.okWide_any_base<|Av j t v (by rw[<-Array.getElem?_toList];exact h1) (by rw[<-Array.getElem?_toList];exact h2)) hA;have ZW:=alp _ _ (hM x uK) W args.toList hx;have vU:args.toList.toArray=args:=by cases args;rfl
 rw[vU] at ZW;refine ZW.mono fun e W' ⟨bq,p1,p2,p3,p4,p5⟩=>?_;have hv:=asp p1;have jw:∀b,b<W.heap.size->W'.heap[b]? =W.heap[b]? :=fun b hb=>p5.block b hb id;have hlen:=agA hA;obtain⟨s1,s2,s3⟩:=Au ds hlen;refine⟨_,p2,?_⟩;rw[hv];refine arR (pa:=p) (pv:=[]) hW' (fun _ _ _=>?_) (fun sp Au=>?_) (fun _ _=>?_) (by simp) (anj p5.os p5.output jw _) (fun a ha=>?_) ?_
 ·rw[List.append_nil,s1,hr];exact trodAll_cons_mk (shut_bool hb _) trodAll_mk0
 ·rw[List.append_nil,s2];exact DataW.TrodAll.respare (kids_rows hl hmr) (slices_full_of P hz) tp (agz jw hA) (fun pl e7=>Au pl (by simpa using e7))
 ·rw[List.append_nil,hs,s3];rfl
 ·simp only[World.frozen?,jw a.block ha]
 ·rw[hr];rw[<-hr];exact ok_one hr rfl (okWide_bool_mk hb _)
end
end
theorem Nm (l:List Int) (h:Ty.mh [.list [.int .i64]] l):xi l=true:=by
 have h1:l.length<=maxLen:=h.1;exact decide_eq_true (by unfold maxLen at h1;omega)
theorem aua (l:List (List Int)) (h:Ty.mh [.list [.list [.int .i64]]] l):EM l=true:=by
 have h1:l.length<=maxLen:=h.1;unfold EM;rw[Bool.and_eq_true,decide_eq_true_eq,List.all_eq_true];exact⟨by unfold maxLen at h1;omega,fun e he=>Nm e (h.2 e he)⟩
theorem aub (x:(List Int)×(List Int)×(List Int)) (h:Ty.mh [.list [.int .i64],.list [.int .i64],.list [.int .i64]] x):H9 x=true:=by
 obtain⟨a0,a1,a2⟩:=x;show(xi a0&&xi a1&&xi a2)=true;rw[Nm a0 h.1,Nm a1 h.2.1,Nm a2 h.2.2];rfl
theorem at9 (x:Int×(List (List Int))) (h:Ty.mh [.int .i64,.list [.list [.int .i64]]] x):H8 x=true:=by
 obtain⟨a0,a1⟩:=x;show(EM a1)=true;rw[aua a1 h.2]
end Go.Am
