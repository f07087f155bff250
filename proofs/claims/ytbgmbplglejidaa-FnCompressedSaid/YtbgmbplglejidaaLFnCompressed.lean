/- L_FnCompressed: the law FnCompressed. No condition. -/
import Derived.Test.YtbgmbplglejidaaM77
set_option linter.unusedVariables false
set_option linter.unusedSimpArgs false
namespace Go.Am
def LJ:List Int->Option Bool:=fun _=>some true
def vN:ak:=[(.one,[.list [.int .u8]])]
def Ts:ak:=[(.one,[.bool])]
def akN:aP:=[]
def Gx (NN:Nat):(List Int)->(Option Bool):=
 (fun(l0:(List Int))=>
 aG (bQ (1048576:Int) (aN (J l0)))
 (some true)
 ((Aq (l0,(0:Int))).aa (fun i1=>
 (Ap (l0,(10:Int))).aa (fun l2=>
 (Ao (l0,(30:Int),i1,l2)).aa (fun(i3,l4)=>
 (xA (i3,l4)).aa (fun(i5,l6)=>
 (tN (i3,l4)).aa (fun(l7,l8,l9)=>
 (df l7 0 (J l7)).aa (fun eE=>
 (df l8 0 (J l8)).aa (fun bZ=>
 (df l9 0 (J l9)).aa (fun de=>
 (xz (i1,eE,bZ,de)).aa (fun((fe,fO),b15)=>
 aG (b15)
 ((df l6 0 (J l6)).aa (fun gC=>
 (ql (i5,gC)).aa (fun b17=>
 aG (b17)
 ((df l6 0 (J l6)).aa (fun lx=>
 (tN (i5,lx)).aa (fun(j7,gM,dU)=>
 (df j7 0 (J j7)).aa (fun eo=>
 (df gM 0 (J gM)).aa (fun fZ=>
 (df dU 0 (J dU)).aa (fun iF=>
 (df l7 0 (J l7)).aa (fun gn=>
 (df l8 0 (J l8)).aa (fun fh=>
 (df l9 0 (J l9)).aa (fun nd=>
 (Ak ((eo,fZ,iF),gn,fh,nd)).aa (fun b28=>
 aG (b28)
 ((df l6 0 (J l6)).aa (fun gN=>
 (vB (i5,gN)).aa (fun gO=>
 (df fO 0 (J fO)).aa (fun ly=>
 (vB (fe,ly)).aa (fun nf=>
 (df gO 0 (J gO)).aa (fun iG=>
 (df nf 0 (J nf)).aa (fun BZ=>
 (tP (iG,BZ)).aa (fun b35=>
 some b35))))))))
 (some false)))))))))))
 (some false))))
 (some false))))))))))))
theorem anx {p:Int} (hp:p∈[(2:Int),3,7,101,1000003]):cm p=true:=by
 simp only[List.mem_cons,List.not_mem_nil,or_false] at hp
 rcases hp with rfl|rfl|rfl|rfl|rfl
 ·exact anu
 ·exact anv
 ·exact anw
 ·exact ant
 ·exact ans
theorem ad7 (l0:List Int):Gx aE l0=some true:=by
 simp only[Gx]
 by_cases hl:l0.length<=1048576
 ·rw[aV (dg (by unfold aN J;omega))]
  obtain⟨p,e1,hp⟩:=anz l0 0 hl (by decide)
  have bg:=anx hp
  obtain⟨D,e2,hD,hd⟩:=afj l0 10 hl (by decide)
  obtain⟨L,e3,H,Ep⟩:=aeQ l0 30 p D hl (by decide) bg hD hd
  obtain⟨C,f1,f2,f3,f4,f5,f6,f7,f8⟩:=afb H.ok H.b4
  obtain⟨L',g1,g2,g3,g4,g5⟩:=H.aeP
  obtain⟨t1,t2,t3,t8,hP⟩:=Lo H.ok
  have BK:jR p C=jR p L:=adF f3 fun n _=>f6 n
  have ahJ:tY C=tY L':=by
   have dE:L'.length=L.length:=by rw[<-gd,<-gd,g3]
   refine Nv (by rw[Ii,Ii,f4,dE]) fun k hk=>?_
   rw[Ii,f4] at hk
   rw[W7 (by omega),W7 (by omega)]
   have k1:=f8 (k+1) (by omega) (by omega)
   have k2:=g5 k hk
   have hu:zV p C (be L) (k+1)=zV p L (be L) (k+1):=by
    funext u w
    have:=f6 (u*aQ (be L) (k+1)+w)
    unfold nA at this
    rw[f3] at this
    exact this
   rw[hu] at k1
   have k3:((L'.getD k bB).2.2.1).toNat=(C.getD k bB).2.2.1.toNat:=k2.symm.trans k1
   obtain⟨b,q,c,d,z1,_⟩:=CJ ((Bf g2).1 k (by omega))
   obtain⟨b',q',c',d',z2,_⟩:=CJ ((Bf f2).1 k (by omega))
   rw[z1,z2] at k3⊢
   simp only[Int.toNat_natCast] at k3
   rw[k3]
  rw[e1]
  simp only[ox]
  rw[e2]
  simp only[ox]
  rw[e3]
  simp only[ox]
  rw[afa H.ok,f1]
  simp only[ox]
  rw[adE H.ok]
  have BE:=aos (jR p L) (by omega) (by omega) (by omega)
  have hT:tN (p,C)=some (jR p L):=by rw[adE f2,BK]
  generalize jR p L=T at g1 BE hT
  obtain⟨a1,a2,a3⟩:=T
  simp only[ox,iI]
  rw[g1]
  simp only[ox,AX,iI]
  rw[amq f2]
  simp only[ox,AX,iI]
  rw[hT]
  simp only[ox,AX,iI]
  rw[BE]
  simp only[ox,AX,iI]
  rw[W6 f2,W6 g2,ahJ]
  simp only[ox,iI]
  rw[JU (tY L') (by
   have dE:L'.length=L.length:=by rw[<-gd,<-gd,g3]
   rw[Ii]
   omega)]
  rfl
 ·rw[bc (dk (by unfold aN J;omega))]
theorem agW (x:List Int) (y:Bool) (h:LJ x=some y):Gx aE x=some y:=by
 rw[ad7];exact h
end Go.Am
