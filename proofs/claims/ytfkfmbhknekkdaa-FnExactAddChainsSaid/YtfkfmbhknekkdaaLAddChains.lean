/- L_AddChains: the law FnExactAddChains. No condition. -/
import Derived.Test.YtfkfmbhknekkdaaM88
set_option linter.unusedVariables false
set_option linter.unusedSimpArgs false
namespace Go.Am
theorem Z0 {x y:Int×List aR}:dR (AJ x y).1<=524288:=by
 unfold AJ
 split
 ·rename_i h
  split
  ·obtain⟨h1,_⟩:=AK h
   have h8:=(rZ (m:=x.1) (l:=x.2) h1).2.1
   have hp:eC x.1:=e8 (rZ (m:=x.1) (l:=x.2) h1).1
   show(gK x y).length+((gK x y).map fk).sum<=_
   have hl:(gK x y).length=x.2.length:=by unfold gK;simp
   have bU:∀l:List aR,(∀e∈l,fk e<=32768)->(l.map fk).sum<=l.length*32768:=by
    intro l
    induction l with
    |nil=>intro _;simp
    |cons a l ih=>
     intro hl
     have h1:=hl a List.mem_cons_self
     have h2:=ih fun e he=>hl e (List.mem_cons_of_mem _ he)
     rw[List.map_cons,List.sum_cons,List.length_cons,Nat.add_mul]
     omega
   have:=bU (gK x y) fun e he=>by
    unfold gK at he
    obtain⟨k,hk,rfl⟩:=List.mem_map.1 he
    exact(IC hp (Dt h (List.mem_range.1 hk)).1).2
   rw[hl] at this⊢
   omega
  ·decide
 ·decide
theorem abf (x y:Int×List aR) (h:dR x<=1048576) (h':dR y<=1048576):∃r0 r1,tp (x,y)=some (r0,r1)/\vl (x,y)=some (r0,r1)/\dR r0<=524288:=
 ⟨_,_,if_pos ⟨h,h'⟩,if_pos ⟨h,h'⟩,Z0⟩
def Dm:(Int×(List (Int×Int×Int×(List Int))))×(Int×(List (Int×Int×Int×(List Int))))->Option Bool:=fun((a0,a1):(Int×(List (Int×Int×Int×(List Int))))×(Int×(List (Int×Int×Int×(List Int)))))=>if(xx a0&&xx a1)=true then some true else none
def tA:ax:=[(.agg,[.int .i64,.list [.int .i64,.int .i64,.int .i64,.list [.int .i64]]]),(.agg,[.int .i64,.list [.int .i64,.int .i64,.int .i64,.list [.int .i64]]])]
def Ob:ax:=[(.one,[.bool])]
def ag2:aJ:=[]
def H6 (NN:Nat):((Int×(List (Int×(Int×(Int×(List Int))))))×(Int×(List (Int×(Int×(Int×(List Int)))))))->(Option Bool):=
 (fun(((i0,l1),i2,l3):((Int×(List (Int×(Int×(Int×(List Int))))))×(Int×(List (Int×(Int×(Int×(List Int))))))))=>
 (tn ((i0,l1),(1048576:Int))).ah (fun i4=>
 aH (cr i4 (0:Int))
 (some true)
 ((tn ((i2,l3),i4)).ah (fun i5=>
 aH (cr i5 (0:Int))
 (some true)
 ((lc (i0,l1)).ah (fun(i6,l7)=>
 (lc (i2,l3)).ah (fun(i8,l9)=>
 (d7 l7 0 (aa l7)).ah (fun jG=>
 (d7 l9 0 (aa l9)).ah (fun uv=>
 (tp ((i6,jG),i8,uv)).ah (fun((jh,kc),vE)=>
 (lc (i0,l1)).ah (fun(ng,gR)=>
 (lc (i2,l3)).ah (fun(gm,nv)=>
 (d7 gR 0 (aa gR)).ah (fun iP=>
 (d7 nv 0 (aa nv)).ah (fun sP=>
 (vl ((ng,iP),gm,sP)).ah (fun((gG,ov),Rj)=>
 (d7 ov 0 (aa ov)).ah (fun Cl=>
 (d7 kc 0 (aa kc)).ah (fun l25=>
 (lT ((gG,Cl),jh,l25)).ah (fun b26=>
 aH (fc b26)
 (some false)
 (aH (Cu Rj vE)
 (some false)
 ((lc (i0,l1)).ah (fun(uh,rh)=>
 (d7 gR 0 (aa gR)).ah (fun nw=>
 (d7 rh 0 (aa rh)).ah (fun pS=>
 (lT ((ng,nw),uh,pS)).ah (fun b31=>
 aH (fc b31)
 (some false)
 ((lc (i2,l3)).ah (fun(mr,kf)=>
 (d7 nv 0 (aa nv)).ah (fun zr=>
 (d7 kf 0 (aa kf)).ah (fun F4=>
 (lT ((gm,zr),mr,F4)).ah (fun b36=>
 aH (fc b36)
 (some false)
 ((aI 0 (aa gR) (aa gR)).ah (fun _=>
 (qm ((ng,gR),(1:Int))).ah (fun(y7,l38)=>
 (aI 0 (aa nv) (aa nv)).ah (fun _=>
 (qm ((gm,nv),y7)).ah (fun(nk,l40)=>
 aH (cr nk (0:Int))
 (some false)
 ((d7 ov 0 (aa ov)).ah (fun uz=>
 (d7 kc 0 (aa kc)).ah (fun l42=>
 (lT ((gG,uz),jh,l42)).ah (fun b43=>
 aH (fc b43)
 (some false)
 (aH (Cu Rj vE)
 (some false)
 ((aI 0 (aa ov) (aa ov)).ah (fun _=>
 (qm ((gG,ov),(1:Int))).ah (fun(rb,Co)=>
 (d7 Co 0 (aa ov)).ah (fun l46=>
 (rK ((gG,l46),(1:Int))).ah (fun j4=>
 aH (cr j4 (0:Int))
 (some false)
 (aH (fb j4 rb)
 (some false)
 ((lc (i0,l1)).ah (fun(Lr,ox)=>
 (lc (i2,l3)).ah (fun(wI,lH)=>
 (d7 ox 0 (aa ox)).ah (fun sQ=>
 (d7 lH 0 (aa lH)).ah (fun wR=>
 (vl ((Lr,sQ),wI,wR)).ah (fun((B9,WC),b56)=>
 (d7 WC 0 (aa WC)).ah (fun l57=>
 (d7 kc 0 (aa kc)).ah (fun l58=>
 (lT ((B9,l57),jh,l58)).ah (fun b59=>
 aH (fc b59)
 (some false)
 (aH (Cu b56 vE)
 (some false)
 ((d7 Co 0 (aa ov)).ah (fun l60=>
 (rK ((gG,l60),(1:Int))).ah (fun FQ=>
 aH (cr FQ (0:Int))
 (some false)
 (aH (fb FQ rb)
 (some false)
 (some true))))))))))))))))))))))))))))))))))))))))))))))))))))))))))))
theorem ab6 (x:(Int×(List (Int×Int×Int×(List Int))))×(Int×(List (Int×Int×Int×(List Int))))) (y:Bool) (h:Dm x=some y):H6 bh x=some y:=by
 obtain⟨⟨o7,jw⟩,⟨rT,mS⟩⟩:=x
 simp only[Dm,Bool.and_eq_true] at h
 split at h
 ·rename_i hw
  rw[<-h]
  simp only[H6]
  rw[Y7 (o:=tn ((o7,jw),1048576)) (s:=dR (o7,jw)) (if_pos ⟨by constructor<;>omega,hw.1⟩)]
  by_cases c0:((dR (o7,jw):Nat):Int)<=1048576
  case neg=>rw[if_neg c0]
  rw[if_pos c0]
  rw[Y7 (o:=tn ((rT,mS),1048576 - (dR (o7,jw):Nat))) (s:=dR (rT,mS)) (if_pos ⟨by constructor<;>omega,hw.2⟩)]
  by_cases c1:((dR (rT,mS):Nat):Int)<=1048576 - (dR (o7,jw):Nat)
  case neg=>rw[if_neg c1]
  rw[if_pos c1]
  obtain⟨r0,r1,hs,hi,z0⟩:=abf (o7,jw) (rT,mS) (by omega) (by omega)
  obtain⟨CH,mJ⟩:=r0
  have t0:lc (o7,jw)=some (o7,jw):=Zg _ (by omega)
  have q0:lT ((o7,jw),(o7,jw))=some true:=Jn _ (by omega)
  have:=AP jw
  have t1:lc (rT,mS)=some (rT,mS):=Zg _ (by omega)
  have q1:lT ((rT,mS),(rT,mS))=some true:=Jn _ (by omega)
  have:=AP mS
  have w0:lT ((CH,mJ),(CH,mJ))=some true:=Jn _ (by omega)
  have:=AP mJ
  simp only[dR] at*
  have m0:qm ((o7,jw),(1:Int))=some ((1:Int)+(gM jw:Nat),e9 jw ((1:Int))):=if_pos ⟨by omega,by(try simp only[dR]);omega⟩
  have m1:qm ((rT,mS),(1:Int)+(gM jw:Nat))=some ((1:Int)+(gM jw:Nat)+(gM mS:Nat),e9 mS ((1:Int)+(gM jw:Nat))):=if_pos ⟨by omega,by(try simp only[dR]);omega⟩
  have k0:cr ((1:Int)+(gM jw:Nat)+(gM mS:Nat)) 0=false:=eV (by omega)
  have n0:qm ((CH,mJ),(1:Int))=some ((1:Int)+(gM mJ:Nat),e9 mJ ((1:Int))):=if_pos ⟨by omega,by(try simp only[dR]);omega⟩
  have d0:rK ((CH,e9 mJ ((1:Int))),(1:Int))=some ((1:Int)+(gM mJ:Nat)):=acS (CH,mJ) ((1:Int)) ⟨by omega,by(try simp only[dR]);omega⟩
  have kk0:cr ((1:Int)+(gM mJ:Nat)) 0=false:=eV (by omega)
  have agJ:d7 (e9 mJ ((1:Int))) 0 (aa mJ)=some (e9 mJ ((1:Int))):=alz (F9 mJ ((1:Int)))
  simp only[bL,ti,cQ,hs,hi,aid,EA,ah4,ah5,t0,q0,t1,q1,w0,m0,m1,k0,n0,d0,kk0,agJ]
 ·cases h
end Go.Am
