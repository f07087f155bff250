/- L_ChainOf: the law FnExactChainOf. No condition. -/
import Derived.Test.YtbgmbplglejidaaM72
set_option linter.unusedVariables false
set_option linter.unusedSimpArgs false
namespace Go.Am
theorem aqf {m:Int} {D A:List Int} (h:nE m D A):iN (zk m D A).1<=1048576:=by
 have kc:(List.range (D.length - 1)).length=D.length - 1:=List.length_range
 unfold zk
 cases DO:dZ (lz m D) 0 (1,A,[]) (List.range (D.length - 1)) with
 |none=>exact(by decide:iN (ra).1<=1048576)
 |some st=>
  have:=IA (lz m D) (ie m D) (List.range (D.length - 1)) (List.range (D.length - 1)) 0 (1,A,[]) st (Bo h).s (fun k s a s' ha _ hI cq=>by
   have hi:k<D.length - 1:=by have:=rP ha;rw[kc] at this;omega
   unfold lz at cq
   split at cq
   ·rename_i hf
    split at cq
    ·injection cq with cq
     subst cq
     exact ie.next h hi hI hf
    ·cases cq
   ·cases cq) DO
  rw[kc,Nat.zero_add] at this
  exact(H7 h this).1
theorem afw (p:Int) (t:List Int×List Int×List Int) (h1:lV t<=1048576):∃r0 r1,vt (p,t)=some (r0,r1)/\xC (p,t)=some (r0,r1)/\iN r0<=1048576:=by
 obtain⟨L,D,T⟩:=t
 have h1:L.length+D.length+T.length<=1048576:=h1
 refine⟨(Au (p,L,D,T)).1,(Au (p,L,D,T)).2,if_pos ⟨by show L.length<=_;omega,by show D.length<=_;omega,by show T.length<=_;omega⟩,if_pos ⟨by show L.length<=_;omega,by show D.length<=_;omega,by show T.length<=_;omega⟩,?_⟩
 unfold Au
 split
 ·rename_i hg
  exact aqf (V3 hg.1 hg.2.1 hg.2.2)
 ·decide
def FQ:(Int)×((List Int)×(List Int)×(List Int))->Option Bool:=fun((a0,a1):(Int)×((List Int)×(List Int)×(List Int)))=>if(FK a1)=true then some true else none
def vD:ai:=[(.one,[.int .i64]),(.agg,[.list [.int .i64],.list [.int .i64],.list [.int .i64]])]
def Td:ai:=[(.one,[.bool])]
def ald:aN:=[]
def Ls (NN:Nat):(Int×((List Int)×((List Int)×(List Int))))->(Option Bool):=
 (fun((i0,l1,l2,l3):(Int×((List Int)×((List Int)×(List Int)))))=>
 (z3 ((l1,l2,l3),(1048576:Int))).U (fun i4=>
 ak (bd i4 (0:Int))
 (some true)
 ((se (l1,l2,l3)).U (fun(l5,l6,l7)=>
 (cd l5 0 (J l5)).U (fun l8=>
 (cd l6 0 (J l6)).U (fun l9=>
 (cd l7 0 (J l7)).U (fun eW=>
 (vt (i0,l8,l9,eW)).U (fun((cT,dk),sv)=>
 (se (l1,l2,l3)).U (fun(e9,de,dS)=>
 (cd e9 0 (J e9)).U (fun c8=>
 (cd de 0 (J de)).U (fun iq=>
 (cd dS 0 (J dS)).U (fun d7=>
 (xC (i0,c8,iq,d7)).U (fun((g8,cM),Xf)=>
 (cd cM 0 (J cM)).U (fun mK=>
 (cd dk 0 (J dk)).U (fun fE=>
 (sa ((g8,mK),cT,fE)).U (fun b25=>
 ak (cC b25)
 (some false)
 (ak (EB Xf sv)
 (some false)
 ((se (l1,l2,l3)).U (fun(dr,gL,gy)=>
 (cd e9 0 (J e9)).U (fun nY=>
 (cd de 0 (J de)).U (fun nZ=>
 (cd dS 0 (J dS)).U (fun n3=>
 (cd dr 0 (J dr)).U (fun Ep=>
 (cd gL 0 (J gL)).U (fun n4=>
 (cd gy 0 (J gy)).U (fun kl=>
 (vp ((nY,nZ,n3),Ep,n4,kl)).U (fun b35=>
 ak (cC b35)
 (some false)
 ((ae 0 (J e9) (J e9)).U (fun _=>
 (ae 0 (J de) (J de)).U (fun _=>
 (ae 0 (J dS) (J dS)).U (fun _=>
 (zZ ((e9,de,dS),(1:Int))).U (fun(uJ,rL,hJ,iG)=>
 ak (bd uJ (0:Int))
 (some false)
 ((cd cM 0 (J cM)).U (fun iZ=>
 (cd dk 0 (J dk)).U (fun kL=>
 (sa ((g8,iZ),cT,kL)).U (fun b42=>
 ak (cC b42)
 (some false)
 (ak (EB Xf sv)
 (some false)
 ((ae 0 (J cM) (J cM)).U (fun _=>
 (zW ((g8,cM),(1:Int))).U (fun(nf,km)=>
 (cd km 0 (J cM)).U (fun mL=>
 (tB ((g8,mL),(1:Int))).U (fun nV=>
 ak (bd nV (0:Int))
 (some false)
 (ak (dt nV nf)
 (some false)
 ((se (l1,l2,l3)).U (fun(gM,kM,gN)=>
 (cd gM 0 (J gM)).U (fun lQ=>
 (cd kM 0 (J kM)).U (fun rM=>
 (cd gN 0 (J gN)).U (fun nh=>
 (xC (i0,lQ,rM,nh)).U (fun((Bh,gd),b55)=>
 (cd gd 0 (J gd)).U (fun iI=>
 (cd dk 0 (J dk)).U (fun jw=>
 (sa ((Bh,iI),cT,jw)).U (fun b58=>
 ak (cC b58)
 (some false)
 (ak (EB b55 sv)
 (some false)
 ((cd km 0 (J cM)).U (fun qv=>
 (tB ((g8,qv),(1:Int))).U (fun uM=>
 ak (bd uM (0:Int))
 (some false)
 (ak (dt uM nf)
 (some false)
 (some true)))))))))))))))))))))))))))))))))))))))))))))))))))))))))
theorem agB (x:(Int)×((List Int)×(List Int)×(List Int))) (y:Bool) (h:FQ x=some y):Ls az x=some y:=by
 obtain⟨a0,⟨mW,nJ,oE⟩⟩:=x
 simp only[FQ] at h
 split at h
 ·rename_i hw
  rw[<-h]
  simp only[Ls]
  rw[aqd (o:=z3 ((mW,nJ,oE),1048576)) (s:=lV (mW,nJ,oE)) (if_pos ⟨by constructor<;>omega,hw⟩)]
  by_cases c0:((lV (mW,nJ,oE):Nat):Int)<=1048576
  case neg=>rw[if_neg c0]
  rw[if_pos c0]
  obtain⟨r0,r1,hs,hi,z0⟩:=afw a0 (mW,nJ,oE) (by omega)
  obtain⟨EQ,oq⟩:=r0
  have t1:se (mW,nJ,oE)=some (mW,nJ,oE):=aqs _ (by omega)
  have q1:vp ((mW,nJ,oE),(mW,nJ,oE))=some true:=afs _ (by omega)
  have:=tO mW
  have:=tO nJ
  have:=tO oE
  have w0:sa ((EQ,oq),(EQ,oq))=some true:=afr _ (by omega)
  have:=Mp oq
  simp only[lV,iN] at*
  have m1:zZ ((mW,nJ,oE),(1:Int))=some ((1:Int)+(dQ mW:Nat)+(dQ nJ:Nat)+(dQ oE:Nat),fb mW ((1:Int)),fb nJ ((1:Int)+(dQ mW:Nat)),fb oE ((1:Int)+(dQ mW:Nat)+(dQ nJ:Nat))):=if_pos ⟨by omega,by(try simp only[lV,iN]);omega⟩
  have k0:bd ((1:Int)+(dQ mW:Nat)+(dQ nJ:Nat)+(dQ oE:Nat)) 0=false:=cP (by omega)
  have n0:zW ((EQ,oq),(1:Int))=some ((1:Int)+(mn oq:Nat),fO oq ((1:Int))):=if_pos ⟨by omega,by(try simp only[lV,iN]);omega⟩
  have d0:tB ((EQ,fO oq ((1:Int))),(1:Int))=some ((1:Int)+(mn oq:Nat)):=ahP (EQ,oq) ((1:Int)) ⟨by omega,by(try simp only[lV,iN]);omega⟩
  have kk0:bd ((1:Int)+(mn oq:Nat)) 0=false:=cP (by omega)
  have akx:cd (fO oq ((1:Int))) 0 (J oq)=some (fO oq ((1:Int))):=KS (Jr oq ((1:Int)))
  simp only[aw,ky,bW,hs,hi,abn,H4,ana,anb,t1,q1,w0,m1,k0,n0,d0,kk0,akx]
 ·cases h
end Go.Am
