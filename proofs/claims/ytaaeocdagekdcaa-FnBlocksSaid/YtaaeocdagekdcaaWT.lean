/- M130, M131, L_FnBlocks, Br1, Br2, Ak, WT: parts of the proof. No condition. -/
import Derived.Test.YtaaeocdagekdcaaM129
import Derived.Test.YtaaeocdagekdcaaM49
import GoSem.ClaimChange
import Derived.ChangeReads
import Derived.ReadAgain
import Derived.ChangeSame
import Derived.WalkKit
import Derived.ProofKit
import Derived.OpenShut
set_option linter.unusedVariables false
set_option linter.unusedSimpArgs false
open List renaming length_map->co,getD_eq_getElem?_getD->wt,length_append->AI,mem_append->By,map_cons->GB,take_length->If,getElem?_eq_getElem->IN,length_nil->IS,append_nil->IT,length_cons->Pe,map_append->zaa,map_congr_left->zad,map_nil->zae,mem_singleton->zaf,getElem?_eq_some_iff->zag,getElem?_map->zah,length_range->zai,length_filter_le->zam,getElem?_of_mem->zap,getElem?_range->zas,sum_cons->zat,getElem?_ofFn->zau,mem_map->zax,nil_append->zay,mapM_cons->zaA,range->zaB,take_add->zaC,length->zaE
open Sum renaming inl->AN,inr->Pd
open Nat renaming le_trans->AT,le_refl->zac,mul_le_mul_right->zao,pow_le_pow_right->zaq,mul_le_mul->zar,succ_mul->zaw,add_zero->zaD,zero_le->zaF
open Classical renaming choose_spec->BY,choose->zak
open Bool renaming and_eq_true->OF
open Int renaming natCast_add->zab,add_emod->zav
open Option renaming bind_eq_some_iff->zaj,map_eq_some_iff->zal
open Array renaming getElem?_toList->zan
open List.cons renaming injEq->zaz
namespace Go.Am
def tw (L:U) (R:List U) (J K:U) (v:Int):Int:=(R.getD (aX L v) []).getD (K.getD (aX J v) 0).toNat 0
theorem ak8 {L:U} (hn:L.Nodup) (R:List U) (J K:U):nG L R J K=L.map (tw L R J K):=by refine sL (by rw[Be,co]) fun i a=>?_;rw[Be] at a;rw[zy a,h9 a];unfold tw;rw[kD hn a]
theorem aiz {f:Int->Int} {L:U} (h:∀v∈L,0<=f v):∀n,n<=L.length->sm n (fun i=>(L.map f).getD i 0)=(((L.take n).map fun v=>(f v).toNat).sum:Nat)
 |0,_=>by simp[sm]
 |n+1,hn=>by have hl:n<L.length:=(by omega);have:=h _ (eX hl);simp only[sm];rw[aiz h n (by omega),aaE 0 hl,h9 hl,zaa,List.sum_append,zab];simp only[GB,zae,zat,List.sum_nil,zaD];omega
def gC (L:U) (R:List U) (J K:U) (v:Int):Nat:=if v∈L then(tw L R J K v).toNat else 0
theorem Vh {L J:U} {R:List U} {K:U} (hL:L.Nodup) (d:J.Nodup) (b:∀v∈L,v∈J) (c:∀v∈L,0<=tw L R J K v):mX (nG L R J K)=((J.map (gC L R J K)).sum:Nat):=by unfold mX;rw[ak8 hL,co,aiz c L.length (zac _),If,show(J.map (gC L R J K)).sum=(L.map (gC L R J K)).sum from ajb hL d b fun v a=>aq a];congr 2;exact zad fun v a=>(ai a).symm
theorem ai8 {m:Int} {f g:Int->Nat}:∀{J:U},(∀v∈J,(f v:Int)%m=(g v:Int)%m)->((J.map f).sum:Int)%m=((J.map g).sum:Int)%m
 |[],_=>rfl
 |v::J,h=>by have c:=h v (by simp);have a:=ai8 (J:=J) fun u b=>h u (List.mem_cons_of_mem _ b);simp only[GB,zat];rw[zab,zab,zav,c,a,<-zav]
theorem ai9 (f g:Int->Nat):∀J:U,(J.map f).sum+(J.map g).sum=(J.map fun v=>f v+g v).sum
 |[]=>rfl
 |v::J=>by have:=ai9 f g J;simp only[GB,zat];omega
def qi (La:U) (Ra:List U) (Lb:U) (Rb:List U) (S:U):List U:=S.map fun v=>if v∈La then Ra.getD (aX La v) [] else Rb.getD (aX Lb v) []
theorem ahn {La:U} {Ra:List U} {Lb:U} {Rb:List U} {S:U} {i:Nat} (h:i<S.length):(qi La Ra Lb Rb S).getD i []=if S.getD i 0∈La then Ra.getD (aX La (S.getD i 0)) [] else Rb.getD (aX Lb (S.getD i 0)) []:=by unfold qi;simp[wt,h]
section
variable {La Da Lb Db A B L D:U} {Ra Rb R:List U} {m:Int} {r:Rg}
theorem B0 {v:Int}:v∈fu La Lb↔v∈jL La Lb/\¬(v∈La/\v∈Lb):=by unfold fu;rw[List.mem_filter];by_cases a:v∈La<;>by_cases b:v∈Lb<;>simp[a,b]
theorem fR.ak9 (H:fR La Da Ra Lb Db Rb m) (k:Nat) (s:mX (nG La Ra (jL La Lb) (aD (cC La Da Lb Db) k))%m=0) (r:mX (nG Lb Rb (jL La Lb) (aD (cC La Da Lb Db) k))%m=0):
  mX (nG (fu La Lb) (qi La Ra Lb Rb (fu La Lb)) (jL La Lb) (aD (cC La Da Lb Db) k))%m=0:=by
 have nJ:=H.nJ;have nS:(fu La Lb).Nodup:=nJ.filter _;have o:∀v∈La,0<=tw La Ra (jL La Lb) (aD (cC La Da Lb Db) k) v/\tw La Ra (jL La Lb) (aD (cC La Da Lb Db) k) v<m/\((aD (cC La Da Lb Db) k).getD (aX (jL La Lb) v) 0).toNat<(Ra.getD (aX La v) []).length:=by
  intro v c;have p1:=eZ c;have l1:=H.la;have l:=H.kb k (xm (b:=Lb) v c);rw[H.yG c] at l;have hr:=H.HA.row (aX La v) (by omega);have i:((aD (cC La Da Lb Db) k).getD (aX (jL La Lb) v) 0).toNat<(Ra.getD (aX La v) []).length:=by omega
  have:=H.HA.al (aX La v) (by omega) _ (eX i);exact⟨this.1,this.2,i⟩
 have p:∀v∈Lb,0<=tw Lb Rb (jL La Lb) (aD (cC La Da Lb Db) k) v:=by
  intro v c;have p1:=eZ c;have l1:=H.lb;have l:=H.kb k (Ac (a:=La) v c);rw[H.BV c] at l;have hr:=H.HB.row (aX Lb v) (by omega);have i:((aD (cC La Da Lb Db) k).getD (aX (jL La Lb) v) 0).toNat<(Rb.getD (aX Lb v) []).length:=by omega
  exact(H.HB.al (aX Lb v) (by omega) _ (eX i)).1
 have j:∀v∈fu La Lb,tw (fu La Lb) (qi La Ra Lb Rb (fu La Lb)) (jL La Lb) (aD (cC La Da Lb Db) k) v=if v∈La then tw La Ra (jL La Lb) (aD (cC La Da Lb Db) k) v else tw Lb Rb (jL La Lb) (aD (cC La Da Lb Db) k) v:=by
  intro v c;unfold tw;rw[ahn (eZ c),jp c];split<;>rfl
 rw[Vh H.na nJ xm fun v c=>(o v c).1] at s;rw[Vh H.nb nJ Ac p] at r;rw[Vh nS nJ (fun v c=>(B0.1 c).1) fun v c=>by
  rw[j v c];split
  ·rename_i h;exact(o v h).1
  ·rename_i h;exact p v ((th (B0.1 c).1).resolve_left h)]
 have n:(((jL La Lb).map (gC La Ra (jL La Lb) (aD (cC La Da Lb Db) k))).sum+((jL La Lb).map (gC Lb Rb (jL La Lb) (aD (cC La Da Lb Db) k))).sum:Int)%m=0:=by
  rw[zav,s,r];simp
 rw[<-n,<-zab,ai9];refine ai8 fun v c=>?_;unfold gC;by_cases d:v∈La
 ·by_cases f:v∈Lb
  ·rw[aq (fun q=>(B0.1 q).2 ⟨d,f⟩),ai d,ai f];obtain⟨x1,x2,u⟩:=o v d;have y1:=p v f;have t:=(H.Q3 v d f).2 _ u;have e:((tw La Ra (jL La Lb) (aD (cC La Da Lb Db) k) v).toNat+(tw Lb Rb (jL La Lb) (aD (cC La Da Lb Db) k) v).toNat:Nat)=(tw La Ra (jL La Lb) (aD (cC La Da Lb Db) k) v+tw Lb Rb (jL La Lb) (aD (cC La Da Lb Db) k) v:Int):=by omega
   rw[e];exact t.symm
  ·have g:v∈fu La Lb:=B0.2 ⟨c,fun q=>f q.2⟩;rw[ai g,ai d,aq f,j v g,ai d,zaD]
 ·have f:=(th c).resolve_left d;have g:v∈fu La Lb:=B0.2 ⟨c,fun q=>d q.1⟩;rw[ai g,aq d,ai f,j v g,aq d,Nat.zero_add]
theorem BP.at2 (H:BP r La Da A Ra Lb Db B Rb m) {n:Nat} (h:qm ((fu La Lb).map (jd La Da Lb Db)) (m,qi La Ra Lb Rb (fu La Lb)) n=true): kV r (qP r La Da A Lb Db B) (uT La Da Lb Db (fu La Lb) ((fu La Lb).map (jd La Da Lb Db))) n (aB (cC La Da Lb Db))=dU r:=by have hr:=(j7 H.ta).1;have a:=H.p;have f:=Kx a.vc a.vd H.ta H.tb;have g:Sub (fu La Lb) ((fu La Lb).map (jd La Da Lb Db)) (jL La Lb) (cC La Da Lb Db):=H.two.ai6 _;rw[HI hr f];refine Uw hr _ fun k e=>?_;rw[List.mem_range] at e;unfold vQ;split;rename_i i;by_cases c:mX (nG La Ra (jL La Lb) (aD (cC La Da Lb Db) k))%m=0;by_cases b:mX (nG Lb Rb (jL La Lb) (aD (cC La Da Lb Db) k))%m=0;exfalso;have d:=a.ak9 k c b;rw[<-Lu g (by unfold qi;rw[co,co]) a.gJ k] at d;refine of_decide_eq_true h ?_;rw[<-i];exact d;unfold qP GM;rw[LD H.cb (a.vd.lt k) (decide_eq_true (by rw[Lu a.vd a.HB.rl a.gJ k];exact b)),mul_zero hr (zB H.ta (a.vc.lt k))];unfold qP GM;rw[LD H.ca (a.vc.lt k) (decide_eq_true (by rw[Lu a.vc a.HA.rl a.gJ k];exact c)),zero_mul hr (zB H.tb (a.vd.lt k))];rfl
theorem BP.at1 (H:BP r La Da A Ra Lb Db B Rb m) (d:0<=fF (fu La Lb) ((fu La Lb).map (jd La Da Lb Db))): qq r (zz r La Da A Lb Db B (fu La Lb)) (m,qi La Ra Lb Rb (fu La Lb))=true:=by have hr:=(j7 H.ta).1;have a:=H.p;have c:=Kx a.vc a.vd H.ta H.tb;obtain⟨g,l,t3,t4⟩:=ajt d;have e:(zz r La Da A Lb Db B (fu La Lb)).2.2.length=aB ((fu La Lb).map (jd La Da Lb Db))*ar r:=zt fun n _=>jf (ER hr c _ n _);have tk:f7 r (zz r La Da A Lb Db B (fu La Lb))=true:=QU hr g l e (Lo _ fun n _=>Po (ER hr c _ n _));refine decide_eq_true ⟨tk,?_,?_⟩;show jQ ((fu La Lb,(fu La Lb).map (jd La Da Lb Db),(zz r La Da A Lb Db B (fu La Lb)).2.2),(m,qi La Ra Lb Rb (fu La Lb)))=true;simp only[jQ,OF,decide_eq_true_eq];refine⟨d,⟨a.HA.m1,a.HA.NF⟩,by unfold qi;rw[co,co],fun j b=>?_⟩;unfold qi at b;rw[co] at b;have k:=eX b;have o:=(B0.1 k).1;unfold Hw;rw[ahn b,h9 b,RB];have l1:=a.la;have l2:=a.lb;split;rename_i h;have p1:=eZ h;rw[a.yG h];exact⟨a.HA.row _ (by omega),a.HA.al _ (by omega)⟩;rename_i h;have h':=(th o).resolve_left h;have p1:=eZ h';rw[a.BV h'];exact⟨a.HB.row _ (by omega),a.HB.al _ (by omega)⟩;refine(Pf hr e).2 fun n hn f=>?_;show fE (fw _ _) _ _=_;rw[Kc (fun i _=>jf (ER hr c _ i _)) hn];exact H.at2 f
theorem gm.cover (H:gm D m R) {o:Nat} (l:o<aB D) (p:¬qm D (m,R) o=true):∃ch,ch∈bD m R/\∃n,n<aB (bw R ch)/\eF D R ch n=o:=by have e:∀i,i<D.length->0<=(aD D o).getD i 0/\(aD D o).getD i 0<D.getD i 0:=fun i a=>Nj H.g o a;have r:(aD D o).length=D.length:=(by unfold aD;rw[ff]);have BF:=H.rl;have d:∀i,i<D.length->((aD D o).getD i 0).toNat<(R.getD i []).length:=fun i a=>(by have:=e i a;have:=H.row i a;omega);have t:(cE D.length (hH R (aD D o))).length=D.length:=ff _ _;have b:∀i,i<D.length->(cE D.length (hH R (aD D o))).getD i 0=(R.getD i []).getD ((aD D o).getD i 0).toNat 0:=fun i a=>JS _ a;have f:gn R (cE D.length (hH R (aD D o))):=⟨by omega,fun i a=>by rw[b i (by omega)];exact eX (d i (by omega))⟩;have j:∀i,i<D.length->(aD D o).getD i 0∈vals (R.getD i []) ((cE D.length (hH R (aD D o))).getD i 0):=fun i a=>(by have:=e i a;exact Jo.2 ⟨((aD D o).getD i 0).toNat,d i a,by omega,(b i a).symm⟩);generalize hce:cE D.length (hH R (aD D o))=ch at*;have K:=H.blk f;have c:∀i,i<D.length->(bw R ch).getD i 0=((vals (R.getD i []) (ch.getD i 0)).length:Int):=fun i a=>EX;have k:∀i,i<(bw R ch).length->0<=(cE D.length fun i=>((aX (vals (R.getD i []) (ch.getD i 0)) ((aD D o).getD i 0):Nat):Int)).getD i 0/\(cE D.length fun i=>((aX (vals (R.getD i []) (ch.getD i 0)) ((aD D o).getD i 0):Nat):Int)).getD i 0<(bw R ch).getD i 0:=fun i a=>(by have yl:=K.bl;rw[JS _ (by omega),c i (by omega)];have:=eZ (j i (by omega));omega);refine⟨ch,YH H f ?_,rC (bw R ch) (cE D.length fun i=>((aX (vals (R.getD i []) (ch.getD i 0)) ((aD D o).getD i 0):Nat):Int)),QZ fun i a=>by have:=k i a;omega,?_⟩;have s:mX ch=sm D.length (hH R (aD D o)):=(by unfold mX;rw[t];exact Z0 _ fun i a=>by rw[b i a];rfl);rw[s];exact Decidable.of_not_not fun h=>p (decide_eq_true h);have q:tQ R ch (rC (bw R ch) (cE D.length fun i=>((aX (vals (R.getD i []) (ch.getD i 0)) ((aD D o).getD i 0):Nat):Int)))=aD D o:=(by unfold tQ;rw[Nk (by rw[ff,K.bl]) k];unfold AY;rw[ff];refine sL (by rw[ff,r]) fun i a=>?_;rw[ff] at a;rw[JS _ a,JS _ a,aaP (by omega),Int.toNat_natCast,jp (j i a)]);unfold eF;rw[q];exact NQ H.g l
theorem abL (a:A.length=aB D*ar r):fw (kH r A) (aB D)=A:=by have b:∀n,n<=aB D->fw (kH r A) n=A.take (n*ar r):=(by intro n;induction n with|zero=>intro _;simp[fw]|succ n c=>intro hn;have hm:(n+1)*ar r<=A.length:=(by rw[a];exact zao _ hn);rw[zaw] at hm;simp only[fw];rw[c (by omega),zaw,zaC];rfl);rw[b _ (zac _),<-a,If]
theorem ag6 (p:A.length=aB D*ar r) {ch:U} (pW:∀n,n<aB (bw R ch)->eF D R ch n<aB D) {g:Nat->U} (l:∀i,i<aB D->(g i).length=ar r):∀q,q<=aB (bw R ch)->
  ∃a,uY r D R ch (nZ r A (eF D R ch) (aB (bw R ch))) (fw g (aB D)) q=fw a (aB D)/\(∀i,i<aB D->(a i).length=ar r)/\∀o,o<aB D->((∃n,n<q/\eF D R ch n=o)->a o=kH r A o)/\(a o=g o\/a o=kH r A o)
 |0,_=>⟨g,rfl,l,fun o _=>⟨fun⟨n,hn,_⟩=>absurd hn (by omega),.inl rfl⟩⟩
 |q+1,hq=>by
  obtain⟨a,e,k,m⟩:=ag6 p pW l q (by omega);have c:=pW q (by omega);have d:∀o,o<aB D->(kH r A o).length=ar r:=fun o h=>by
   have hm:o*ar r+ar r<=A.length:=by rw[p,<-zaw];exact zao _ h
   unfold kH fE;simp;omega
  have hx:fE (nZ r A (eF D R ch) (aB (bw R ch))) (q*ar r) (ar r)=kH r A (eF D R ch q):=by
   rw[U7];exact Kc (g:=fun i=>kH r A (eF D R ch i)) (fun i f=>d _ (pW i f)) (by omega)
  refine⟨fun j=>if j=eF D R ch q then kH r A (eF D R ch q) else a j,?_,fun i f=>?_,fun o b=>⟨fun⟨n,hn,s⟩=>?_,?_⟩⟩
  ·simp only[uY];rw[e,hx];exact N0 (d _ c) k c
  ·dsimp only
   split
   ·exact d _ c
   ·exact k i f
  ·dsimp only
   split
   ·rename_i h;rw[h]
   ·rename_i h;exact(m o b).1 ⟨n,by
     have:n≠q:=by rintro rfl;exact h s.symm
     omega,s⟩
  ·dsimp only
   split
   ·rename_i h;rw[h];exact .inr rfl
   ·exact(m o b).2
theorem apf (p:qq r (L,D,A) (m,R)=true):QJ r (L,D,A) (m,R) (qU r (L,D,A) (m,R))=((L,D,A),true):=by obtain⟨v,s,_⟩:=of_decide_eq_true p;have H:=A8 s;have T:=j7 v;have x:=T.2.2.2.2.1;have b:(qU r (L,D,A) (m,R)).length=(bD m R).length:=(by unfold qU;rw[co]);have step:∀i,i<=(bD m R).length->∃g,qb r L D R (bD m R) (qU r (L,D,A) (m,R)) i=some (fw g (aB D))/\(∀o,o<aB D->(g o).length=ar r)/\ ∀o,o<aB D->((∃q,q<i/\∃n,n<aB (bw R ((bD m R).getD q []))/\eF D R ((bD m R).getD q []) n=o)->g o=kH r A o)/\(g o=dU r\/g o=kH r A o):=(by intro i;induction i with|zero=>intro _;exact⟨fun _=>dU r,by rw[<-Rv];rfl,fun _ _=>jf (vF T.1),fun o _=>⟨fun⟨q,f,_⟩=>absurd f (by omega),.inl rfl⟩⟩|succ i G=>intro hi;obtain⟨g,e,t,d⟩:=G (by omega);have u:=vz H (ch:=(bD m R).getD i []) (by rw[wt,IN (by omega:i<(bD m R).length)];exact List.getElem_mem _);have c:(qU r (L,D,A) (m,R)).getD i b0=zp r (L,D,A) R ((bD m R).getD i []):=(by unfold qU;rw[wt,zah,wt,IN (by omega:i<(bD m R).length)];rfl);have z:Ge r L R ((bD m R).getD i []) ((qU r (L,D,A) (m,R)).getD i b0):=(by rw[c];exact⟨rfl,(Ht v H u).1,rfl,rfl⟩);obtain⟨J,C,F,k⟩:=ag6 (R:=R) x (fun n _=>H.Jw u n) t _ (zac _);refine⟨J,?_,F,fun o a=>⟨fun⟨q,f,n,hn,j⟩=>?_,?_⟩⟩;rw[afp e z,c];exact congrArg some C;by_cases y:q=i;subst y;exact(k o a).1 ⟨n,hn,j⟩;have:=(d o a).1 ⟨q,by omega,n,hn,j⟩;rcases(k o a).2 with h|h;rw[h,this];exact h;rcases(k o a).2 with h|h;rw[h];exact(d o a).2;exact .inr h);obtain⟨g,e,t,d⟩:=step _ (zac _);have I:fw g (aB D)=A:=(by rw[<-abL (r:=r) x];refine CX fun o a=>?_;by_cases l:qm D (m,R) o=true;rcases(d o a).2 with h|h;rw[h,LD p a l];exact h;obtain⟨ch,B,n,hn,j⟩:=H.cover a l;obtain⟨q,f⟩:=zap B;have E:=(zag.1 f).1;have w:(bD m R).getD q []=ch:=(by rw[wt,f];rfl);exact(d o a).1 ⟨q,E,n,by rw[w];exact hn,by rw[w];exact j⟩);unfold QJ;rw[ai ⟨T.1,s,b.symm⟩];rw[b,e,I]
end
def TU (NN:Nat):(U×Int)->(Option Bool):=
 (fun(l0,i1)=>
 bN (bS NN (fun(i2,l3,i4,i5)=>
 aA (cH i5 i4)
 ((cg l3 i5).ae (fun i6=>
 aA (bH i6 i2)
 (some (Pd (Pd true)))
 (some (AN (i2,l3,i4,bt .i64 i5 1)))))
 (some (Pd (AN ()))))
 (i1,l0,aK (aa l0),(0:Int)))
 (fun _=>
 some false))
def G4:=TU bW
theorem ae5 {l:U} {v:Int} (hl:l.length<=1048576):G4 (l,v)=some (decide (v∈l)):=by
 simp only[G4,TU];have hp:=JF l v;rw[gd (fun i=>(v,l,aK (aa l),(i:Int))) (r:=if aX l v<l.length then Pd true else AN ()) (aX l v) ?_ ?_ ?_ dY]
 ·by_cases h:aX l v<l.length
  ·rw[ai h,decide_eq_true (sn.1 h)];rfl
  ·rw[aq h,decide_eq_false fun q=>h (sn.2 q)];rfl
 ·intro j b;simp only
  have a:j<l.length:=by omega
  rw[be (uP a),dw,getD_some 0 a,bV,aW (qw (fun e=>Gm b (by rw[getD_some 0 a,e])))];simp only[nY (show j<=1048577 by omega)]
 ·simp only
  by_cases h:aX l v<l.length
  ·rw[ai h,be (uP h),dw,Gl h,bV,be (rN rfl)]
  ·rw[aq h,aW (show cH _ (aK (aa l))=false from F7 (by show l.length<=_;omega))]
 ·rfl
def TW (NN:Nat):(U×U)->(Option U):=
 (fun(l0,l1)=>
 (aU 0 0 (aa (([]:U)))).ae (fun _=>
 (jT (au (aa (([]:U))) (aa l0)) 8).ae (fun _=>
 (aU 0 (au (aa (([]:U))) (aa l0)) (aa (ci (([]:U)) l0))).ae (fun _=>
 (jT (au (aa (ci (([]:U)) l0)) (aa l1)) 8).ae (fun _=>
 (dO (ci (ci (([]:U)) l0) l1) (au (aa (ci (([]:U)) l0)) (aa l1))).ae (fun l2=>
 some l2))))))
def KO:=TW bW
theorem apg (l a:U) (h:l.length<=1048576) (h':a.length<=1048576):KO (l,a)=some (l++a):=by simp only[KO,TW];have hm:fe=140737488355328:=rfl;rw[uq];simp only[bV];rw[mr (by simp only[au,aa,IS];omega)];simp only[bV];rw[show aU 0 (au (aa ([]:U)) (aa l)) (aa (ci ([]:U) l))=some () from ng (by simp[au,aa,ci])];simp only[bV];rw[mr (by simp only[au,aa,ci,zay];omega)];simp only[bV];have e:dO (ci (ci ([]:U) l) a) (au (aa (ci ([]:U) l)) (aa a))=some (l++a):=(by unfold dO ci au aa;rw[ai (by simp)];congr 1;rw[zay,<-AI,If]);rw[e];rfl
def TV (NN:Nat):(U×U)->(Option Bool):=
 (fun(l0,l1)=>
 bN (bS NN (fun(l2,l3,l4,i5,i6)=>
 aA (cH i6 i5)
 ((cg l4 i6).ae (fun i7=>
 aA (gZ (aK (aa l3)) i6)
 (some (Pd (Pd false)))
 ((cg l3 i6).ae (fun i8=>
 aA (iQ i8 i7)
 (some (Pd (Pd false)))
 (some (AN (l2,l3,l4,i5,bt .i64 i6 1)))))))
 (some (Pd (AN (l2,l3)))))
 (l0,l1,l0,aK (aa l0),(0:Int)))
 (fun(l9,cP)=>
 some (bH (aK (aa l9)) (aK (aa cP)))))
def Ew:=TV bW
theorem X3 (x:U) (h:x.length<=1048576):Ew (x,x)=some true:=by simp only[Ew,TV];rw[gd (fun k=>(x,x,x,aK (aa x),(k:Int))) x.length ?a1 ?a2 ?a3 dY];(case a3=>rfl);(case a2=>dsimp only;rw[aW (eB (by rw[nl];omega))]);(case a1=>intro k a;obtain⟨v,b⟩:∃v,x[k]? =some v:=⟨_,IN a⟩;dsimp only;rw[be (dt (by rw[nl];omega)),dw,b];simp only[bY];rw[aW (B7 (by rw[nl];omega)),aW (rB rfl),dZ];rfl);rw[ic];exact congrArg some (rN rfl)
def TX (NN:Nat):((U×(U×U))×(U×(U×U)))->(Option Bool):=
 (fun((l0,l1,l2),l3,l4,l5)=>
 (Ew (l0,l3)).ae (fun b6=>
 aA (b6)
 ((Ew (l1,l4)).ae (fun b7=>
 aA (b7)
 ((Ew (l2,l5)).ae (fun b8=>
 some b8))
 (some false)))
 (some false)))
def Ey:=TX bW
theorem ahB (L D A:U) (b:L.length<=1048576) (a:D.length<=1048576) (c:A.length<=1048576):Ey ((L,D,A),(L,D,A))=some true:=by simp only[Ey,TX];rw[X3 L b];simp only[bY];rw[X3 D a];simp only[bY];rw[X3 A c];rfl
def sx (L:U) (R:List U) (x:Int) (j:Nat):List U:=((zaB j).filter fun i=>decide (L.getD i 0=x)).map fun i=>R.getD i []
theorem ZP (L:U) (R:List U) (x:Int) (j:Nat):sx L R x (j+1)=if L.getD j 0=x then ci (sx L R x j) [R.getD j []] else sx L R x j:=by unfold sx ci;rw[List.range_succ,List.filter_append,zaa];split;rename_i h;rw[show[j].filter (fun i=>decide (L.getD i 0=x))=[j] from List.filter_cons_of_pos (p:=fun i=>decide (L.getD i 0=x)) (decide_eq_true h)];rfl;rename_i h;rw[show[j].filter (fun i=>decide (L.getD i 0=x))=[] from List.filter_cons_of_neg (p:=fun i=>decide (L.getD i 0=x)) (by rw[decide_eq_false h];simp)];simp
theorem ahQ (L:U) (R:List U) (x:Int) (j:Nat):(sx L R x j).length<=j:=by unfold sx;rw[co];have:=zam (fun i=>decide (L.getD i 0=x)) (zaB j);rwa[zai] at this
theorem ahP {L:U} (hn:L.Nodup) (R:List U) (x:Int):sx L R x L.length=if x∈L then[R.getD (aX L x) []] else[]:=by
 have c:∀j,j<=L.length->sx L R x j=if aX L x<j then[R.getD (aX L x) []] else[]:=by
  intro j;induction j with
  |zero=>intro _;rfl
  |succ j d=>
   intro hj;rw[ZP,d (by omega)];by_cases h:L.getD j 0=x
   ·have b:aX L x=j:=by rw[<-h];exact kD hn (by omega)
    rw[ai h,aq (by omega),ai (by omega),b];rfl
   ·have b:aX L x≠j:=fun e=>h (by
     have hm:x∈L:=sn.1 (by omega);rw[<-e];exact jp hm)
    rw[aq h];by_cases a:aX L x<j
    ·rw[ai a,ai (by omega)]
    ·rw[aq a,aq (by omega)]
 rw[c _ (zac _)];by_cases h:x∈L
 ·rw[ai h,ai (eZ h)]
 ·rw[aq h,aq fun q=>h (sn.1 q)]
theorem alg {r:Rg} {L D T:U} {m:Int} {R:List U} (d:f7 r (L,D,T)=true) (l:jQ ((L,D,T),(m,R))=true):qq r (L,D,gp r D (m,R) T (aB D)) (m,R)=true:=by
 have t:=j7 d;have g:∀i,i<aB D->eD r (kH r T i)=true:=fun i a=>zB d a;have k:∀n,n<=aB D->gp r D (m,R) T n=fw (fun i=>if i<n/\qm D (m,R) i=true then dU r else kH r T i) (aB D):=by
  intro n;induction n with
  |zero=>
   intro _;rw[show gp r D (m,R) T 0=T from rfl]
   refine(abL (r:=r) t.2.2.2.2.1).symm.trans (CX fun i _=>?_);rw[aq (by omega)]
  |succ n f=>
   intro hn;simp only[gp];by_cases c:qm D (m,R) n=true
   ·rw[ai c,f (by omega),N0 (jf (vF t.1)) (fun i a=>by
     split
     ·exact jf (vF t.1)
     ·exact jf (g i a)) (by omega:n<aB D)]
    refine CX fun i _=>?_;by_cases h:i=n
    ·subst h;rw[ai rfl,ai ⟨by omega,c⟩]
    ·rw[aq h];simp only[show(i<n+1↔i<n) from⟨fun _=>by omega,fun _=>by omega⟩]
   ·rw[aq c,f (by omega)];refine CX fun i _=>?_;by_cases h:i=n
    ·subst h;rw[aq (fun q=>c q.2),aq (fun q=>c q.2)]
    ·simp only[show(i<n+1↔i<n) from⟨fun _=>by omega,fun _=>by omega⟩]
 have e:=k _ (zac _);have b:∀i,i<aB D->eD r (if i<aB D/\qm D (m,R) i=true then dU r else kH r T i)=true:=fun i a=>by
  split
  ·exact vF t.1
  ·exact g i a
 have j:(gp r D (m,R) T (aB D)).length=aB D*ar r:=by rw[e];exact zt fun i a=>jf (b i a)
 have xa:=Kv d;refine decide_eq_true ⟨QU t.1 xa.1 t.2.2.2.1.2 j ?_,l,(Pf t.1 j).2 fun n hn c=>?_⟩
 ·rw[e];exact Lo _ fun i a=>Po (b i a)
 ·rw[e,Kc (fun i a=>jf (b i a)) hn,ai ⟨hn,c⟩]
section
variable {r:Rg} {La Da A Lb Db B:U} {Ra Rb:List U} {m:Int}
theorem akK (H:BP r La Da A Ra Lb Db B Rb m):QH (r,(La,Da,A),(m,Ra),qU r (La,Da,A) (m,Ra)):=by have a:=H.p;have e:=H.cd.1.2;have T:=j7 H.ta;have hn:=Lp a.HA;refine⟨e,?_,fun b d=>?_⟩;show(qU r (La,Da,A) (m,Ra)).length<=_;unfold qU;rw[co];show(bD m Ra).length<=_;omega;unfold qU at d;obtain⟨ch,f,rfl⟩:=zax.1 d;have c:=vz a.HA f;have tk:=j7 (Ht H.ta a.HA c).1;have K:=a.HA.blk c;have eu:=T.2.1.1;have la:=a.la;refine⟨?_,?_,?_,?_⟩;show ch.length<=_;rw[K.cl];omega;show La.length<=_;omega;show(bw Ra ch).length<=_;rw[K.bl];omega;show(nZ r A (eF Da Ra ch) (aB (bw Ra ch))).length<=_;rw[tk.2.2.2.2.1];exact AT (zar tk.2.2.2.1.2 (mE T.1).2.2) (by omega)
end
def Td:U->Option Bool:=fun _=>some true
def TT (NN:Nat):U->(Option Bool):=
 (fun l0=>
 aA (cH (1048576:Int) (aK (aa l0)))
 (some true)
 ((KP (l0,(0:Int))).ae (fun((i1,i2,i3),(l4,l5,l6),(i7,l8),(l9,cP,ed),eA,eY)=>
 (GQ ((i1,i2,i3),(l4,l5,l6),i7,l8)).ae (fun(dh,UM)=>
 (cr dh 0 (aa dh)).ae (fun dM=>
 (GS ((i1,i2,i3),(l4,l5,l6),(i7,l8),dM)).ae (fun((dj,fN,gb),b20)=>
 aA (de UM)
 (some false)
 (aA (de b20)
 (some false)
 ((cr dj 0 (aa dj)).ae (fun gi=>
 (cr fN 0 (aa fN)).ae (fun ef=>
 (cr gb 0 (aa gb)).ae (fun ie=>
 (Ey ((gi,ef,ie),l4,l5,l6)).ae (fun UO=>
 aA (de UO)
 (some false)
 ((wK ((i1,i2,i3),(l4,l5,l6),i7,l8)).ae (fun b25=>
 aA (de b25)
 (some false)
 ((wJ ((l9,cP,ed),eA,eY)).ae (fun b26=>
 aA (de b26)
 (some false)
 ((KO (l4,l9)).ae (fun gw=>
 bN ((aU 0 0 (aa (([]:U)))).ae (fun _=>
 ah gw (
 bS NN (fun((iT,te),(np,qD,rk),(gz,jB,iG),(nO,jJ),(ou,nw,kz),(lf,ig),gR,iU)=>
 aA (cH te iT)
 ((dg te (aa iU)).ae (fun k45=>
 (bL iU (au 0 k45)).ae (fun oO=>
 (G4 (gz,oO)).ae (fun UR=>
 aA (de UR)
 (ah gR (
 (cr ((oO::[])) 0 1).ae (fun jC=>
 (jT (au (aa gR) (aa jC)) 8).ae (fun _=>
 (aU 0 (au (aa gR) (aa jC)) (aa (ci gR jC))).ae (fun _=>
 ah iU (
 some (AN ((iT,bt .i64 te 1),(np,qD,rk),(gz,jB,iG),(nO,jJ),(ou,nw,kz),(lf,ig),ci gR jC,iU))))))))
 ((G4 (ou,oO)).ae (fun b49=>
 aA (de b49)
 (ah gR (
 (cr ((oO::[])) 0 1).ae (fun jK=>
 (jT (au (aa gR) (aa jK)) 8).ae (fun _=>
 (aU 0 (au (aa gR) (aa jK)) (aa (ci gR jK))).ae (fun _=>
 ah iU (
 some (AN ((iT,bt .i64 te 1),(np,qD,rk),(gz,jB,iG),(nO,jJ),(ou,nw,kz),(lf,ig),ci gR jK,iU))))))))
 (ah gR (
 ah iU (
 some (AN ((iT,bt .i64 te 1),(np,qD,rk),(gz,jB,iG),(nO,jJ),(ou,nw,kz),(lf,ig),gR,iU)))))))))))
 ((ah gR (
 some (AN ((np,qD,rk),(gz,jB,iG),(nO,jJ),(ou,nw,kz),(lf,ig),gR)))).ae (fun kA=>
 some (Pd kA))))
 ((aK (aa gw),(0:Int)),(i1,i2,i3),(l4,l5,l6),(i7,l8),(l9,cP,ed),(eA,eY),([]:U),gw))))
 (fun((FC,qE,oP),(kB,iV,iz),(FD,iW),(lU,iY,gH),(Qu,uL),ny)=>
 (GP ((FC,qE,oP),(kB,iV,iz),(FD,iW),(lU,iY,gH),Qu,uL)).ae (fun((sd,qG,yQ),uC,b70)=>
 (cr ny 0 (aa ny)).ae (fun ki=>
 (Er ((FC,qE,oP),(kB,iV,iz),(lU,iY,gH),ki)).ae (fun((oT,qH,wm),b75)=>
 bN (ah oT (
 ah sd (
 ah qG (
 ah yQ (
 ah oT (
 ah qH (
 ah wm (
 (aU 0 0 (aa (([]:List U)))).ae (fun _=>
 bS NN (fun((yE,b77,b78,FE,Dy),(i81,i82,z6),(oV,ry,qd),(FF,B6),(yS,lW,nR),(IU,kQ),Qz,qf,oz,oA,j5,oW,rq,oh)=>
 aA (cH Dy FE)
 (bN ((dg Dy (aa j5)).ae (fun aph=>
 (bL j5 (au 0 aph)).ae (fun aou=>
 bN (ah j5 (
 ah qf (
 ah oz (
 ah oA (
 ah j5 (
 ah oW (
 ah rq (
 ah oh (
 bS NN (fun((M3,UJ,UK,Qs,M4,yA,wh,Fy,BO),(Fz,FA,FB),(uH,yL,yM),(XD,xo),(Af,tn,r9),(XE,B1),M9,mw,pF,mz,mS,oj,ot,nv)=>
 aA (cH BO Fy)
 ((cg wh BO).ae (fun aoy=>
 aA (bH Qs aoy)
 ((cg xo BO).ae (fun wi=>
 ah nv (
 (aU 0 1 (aa ((wi::[])))).ae (fun _=>
 (jT (au (aa nv) (aa ((wi::[])))) 24).ae (fun _=>
 ah mS (
 ah mw (
 ah pF (
 ah mz (
 ah mS (
 ah oj (
 ah ot (
 (aU 0 (au (aa nv) (aa ((wi::[])))) (aa (ci nv ((wi::[]))))).ae (fun _=>
 some (AN ((M3,UJ,UK,Qs,M4,yA,wh,Fy,bt .i64 BO 1),(Fz,FA,FB),(uH,yL,yM),(XD,xo),(Af,tn,r9),(XE,B1),M9,mw,pF,mz,mS,oj,ot,ci nv ((wi::[])))))))))))))))))
 (ah mS (
 ah mw (
 ah pF (
 ah mz (
 ah mS (
 ah oj (
 ah ot (
 ah nv (
 some (AN ((M3,UJ,UK,Qs,M4,yA,wh,Fy,bt .i64 BO 1),(Fz,FA,FB),(uH,yL,yM),(XD,xo),(Af,tn,r9),(XE,B1),M9,mw,pF,mz,mS,oj,ot,nv)))))))))))))
 ((ah mS (
 ah mw (
 ah pF (
 ah mz (
 ah mS (
 ah oj (
 ah ot (
 ah nv (
 some (AN ((M4,UK,UJ,M3,yA,Qs),(Fz,FA,FB),(uH,yL,yM),(XD,xo),(Af,tn,r9),(XE,B1),M9,mw,pF,mz,mS,oj,ot,nv))))))))))).ae (fun yO=>
 some (Pd yO))))
 ((yE,b77,b78,aou,FE,Dy,oV,aK (aa oV),(0:Int)),(i81,i82,z6),(oV,ry,qd),(FF,B6),(yS,lW,nR),(IU,kQ),Qz,qf,oz,oA,j5,oW,rq,oh))))))))))
 (fun((aoz,akk,akl,aeX,aeY,aeZ),(BR,Na,Nb),(uI,uJ,pG),(Qt,pH),(sa,ru,rv),(IK,DG),aoA,B2,Yj,B3,uK,tq,tr,tt)=>
 ah uK (
 ah B2 (
 ah Yj (
 ah B3 (
 ah uK (
 ah tq (
 ah tr (
 ah tt (
 bS NN (fun((XG,EF,UN,Nd,XH,XI,Ja,XJ,Nf),(XK,XL,XM),(DK,F4,F5),(XN,NA),(NB,NC,Yo),(XO,QO),XP,Jb,Jc,Jd,B4,Je,Jf,B5)=>
 aA (cH Nf XJ)
 ((cg Ja Nf).ae (fun aoD=>
 aA (bH Nd aoD)
 ((cg QO Nf).ae (fun ND=>
 ah B5 (
 (aU 0 1 (aa ((ND::[])))).ae (fun _=>
 (jT (au (aa B5) (aa ((ND::[])))) 24).ae (fun _=>
 ah B4 (
 ah Jb (
 ah Jc (
 ah Jd (
 ah B4 (
 ah Je (
 ah Jf (
 (aU 0 (au (aa B5) (aa ((ND::[])))) (aa (ci B5 ((ND::[]))))).ae (fun _=>
 some (AN ((XG,EF,UN,Nd,XH,XI,Ja,XJ,bt .i64 Nf 1),(XK,XL,XM),(DK,F4,F5),(XN,NA),(NB,NC,Yo),(XO,QO),XP,Jb,Jc,Jd,B4,Je,Jf,ci B5 ((ND::[])))))))))))))))))
 (ah B4 (
 ah Jb (
 ah Jc (
 ah Jd (
 ah B4 (
 ah Je (
 ah Jf (
 ah B5 (
 some (AN ((XG,EF,UN,Nd,XH,XI,Ja,XJ,bt .i64 Nf 1),(XK,XL,XM),(DK,F4,F5),(XN,NA),(NB,NC,Yo),(XO,QO),XP,Jb,Jc,Jd,B4,Je,Jf,B5)))))))))))))
 ((ah B4 (
 ah Jb (
 ah Jc (
 ah Jd (
 ah B4 (
 ah Je (
 ah Jf (
 ah B5 (
 some (AN ((XI,XG,EF,UN,XH),(XK,XL,XM),(DK,F4,F5),(XN,NA),(NB,NC,Yo),(XO,QO),XP,Jb,Jc,Jd,B4,Je,Jf,B5))))))))))).ae (fun apv=>
 some (Pd apv))))
 ((aeX,akl,akk,aeZ,aoz,aeY,sa,aK (aa sa),(0:Int)),(BR,Na,Nb),(uI,uJ,pG),(Qt,pH),(sa,ru,rv),(IK,DG),aoA,B2,Yj,B3,uK,tq,tr,tt)))))))))))))
 (fun((aoE,aoF,ako,akp,aoG),(aoH,aoI,aoJ),(apw,apx,apy),(aoK,apz),(apA,apB,apC),(aoL,apD),aoM,afw,afx,afy,Yp,afz,afA,afB)=>
 ah Yp (
 ah afw (
 ah afx (
 ah afy (
 ah Yp (
 ah afz (
 ah afA (
 ah afB (
 some (AN ((aoF,ako,akp,aoG,bt .i64 aoE 1),(aoH,aoI,aoJ),(apw,apx,apy),(aoK,apz),(apA,apB,apC),(aoL,apD),aoM,afw,afx,afy,Yp,afz,afA,afB))))))))))))
 ((ah qf (
 ah oz (
 ah oA (
 ah j5 (
 ah oW (
 ah rq (
 ah oh (
 some (AN ((b77,b78,yE),(i81,i82,z6),(oV,ry,qd),(yS,lW,nR),Qz,qf,oz,oA,j5,oW,rq,oh)))))))))).ae (fun apE=>
 some (Pd apE))))
 ((uC,b70,b75,aK (aa oT),(0:Int)),(FC,qE,oP),(kB,iV,iz),(FD,iW),(lU,iY,gH),(Qu,uL),FD,sd,qG,yQ,oT,qH,wm,([]:List U)))))))))))
 (fun((akq,akr,aoN),(aoO,aoP,aoQ),(apF,apG,apH),(apI,apJ,apK),aoR,afC,afD,afE,Jg,Jh,Ji,afF)=>
 (cr Jg 0 (aa Jg)).ae (fun apL=>
 (cr Jh 0 (aa Jh)).ae (fun apM=>
 (cr Ji 0 (aa Ji)).ae (fun apN=>
 (cr afF 0 (aa afF)).ae (fun apO=>
 (GR ((aoO,aoP,aoQ),(apL,apM,apN),aoR,apO)).ae (fun((afG,afH,afI),aks)=>
 aA (akq)
 (aA (akr)
 (aA (aks)
 ((cr afC 0 (aa afC)).ae (fun apP=>
 (cr afD 0 (aa afD)).ae (fun apQ=>
 (cr afE 0 (aa afE)).ae (fun apR=>
 (cr Jg 0 (aa Jg)).ae (fun apS=>
 (cr Jh 0 (aa Jh)).ae (fun apT=>
 (cr Ji 0 (aa Ji)).ae (fun apU=>
 (Ey ((apP,apQ,apR),apS,apT,apU)).ae (fun akt=>
 aA (akt)
 ((GU ((apF,apG,apH),apI,apJ,apK)).ae (fun aoS=>
 aA (gZ aoN aoS)
 ((cr afG 0 (aa afG)).ae (fun apV=>
 (cr afH 0 (aa afH)).ae (fun apW=>
 (cr afI 0 (aa afI)).ae (fun apX=>
 (cr Jg 0 (aa Jg)).ae (fun apY=>
 (cr Jh 0 (aa Jh)).ae (fun apZ=>
 (cr Ji 0 (aa Ji)).ae (fun ap0=>
 (Ey ((apV,apW,apX),apY,apZ,ap0)).ae (fun aku=>
 some aku))))))))
 (some false)))
 (some false)))))))))
 (some false))
 (some false))
 (some false)))))))))))))))))))))))))))))
theorem am2 (x:U) (z:Bool) (h:Td x=some z):TT bW x=some z:=by
 injection h with h;subst h;have Qb:fe=140737488355328:=rfl;simp only[TT,ah];by_cases hl:x.length<=1048576
 ·rw[aW (eB (by rw[nl];omega))];obtain⟨⟨a,c,b⟩,La,A,Ra,Lb,B,Rb,m,e1,⟨na,la,xa⟩,⟨nb,lb,xb⟩,ta,tb,ka,kb,ho⟩:=akW x hl;have y:=mE (j7 ta).1;have cons:∀(L T:U) (R:List U),f7 (a,c,b) (L,L.map dL,T)=true->jQ ((L,L.map dL,T),(m,R))=true->qq (a,c,b) (L,L.map dL,gp (a,c,b) (L.map dL) (m,R) T (aB (L.map dL))) (m,R)=true:=fun L T R G l=>alg G l;have ca:=cons La A Ra ta ka;have cb:=cons Lb B Rb tb kb;have H:BP (a,c,b) La (La.map dL) (gp (a,c,b) (La.map dL) (m,Ra) A (aB (La.map dL))) Ra Lb (Lb.map dL) (gp (a,c,b) (Lb.map dL) (m,Rb) B (aB (Lb.map dL))) Rb m:=⟨ca,cb,ho⟩;rw[e1];simp only[bY];clear e1;generalize gp (a,c,b) (La.map dL) (m,Ra) A (aB (La.map dL))=A' at*
  generalize gp (a,c,b) (Lb.map dL) (m,Rb) B (aB (Lb.map dL))=B' at*
  have k:=H.ta;have Y:=H.tb;have cd:=H.cd;have la':La.length=(La.map dL).length:=by simp
  have lA:A'.length<=1048576:=by
   rw[(j7 k).2.2.2.2.1];exact AT (zar (j7 k).2.2.2.1.2 y.2.2) (by omega)
  rw[show GQ ((a,c,b),(La,La.map dL,A'),m,Ra)=some (qU (a,c,b) (La,La.map dL,A') (m,Ra),true) from(ai cd.1).trans (congrArg some (ai ca))]
  simp only[bY,gj];rw[show GS ((a,c,b),(La,La.map dL,A'),(m,Ra),qU (a,c,b) (La,La.map dL,A') (m,Ra))=some ((La,La.map dL,A'),true) from(ai (akK H)).trans (congrArg some (apf ca))]
  simp only[bY,gj];rw[show de true=false from rfl,jR,jR,ahB La (La.map dL) A' (by omega) (by omega) lA]
  simp only[bY];rw[show de true=false from rfl,jR,show wK ((a,c,b),(La,La.map dL,A'),m,Ra)=some true from(ai cd.1).trans (congrArg some ca)]
  simp only[bY];rw[show de true=false from rfl,jR,show wJ ((Lb,Lb.map dL,B'),m,Rb)=some true from(ai cd.2.2).trans (congrArg some H.kb)]
  simp only[bY];rw[show de true=false from rfl,jR,apg La Lb (by omega) (by omega)]
  simp only[bY,uq,bE];generalize hL:bS bW _ _=o;obtain⟨z,rfl,d9,rfl,Fh,MF⟩:∃z,o=some z/\∃d9:U,z=AN ((a,c,b),(La,La.map dL,A'),(m,Ra),(Lb,Lb.map dL,B'),(m,Rb),d9)/\d9.length<=6/\∀v,v∈d9↔v∈La++Lb/\¬(v∈La/\v∈Lb):=by
   rw[<-hL];refine uO (La++Lb).length (fun t s=>∃d9:U,s=((aK (aa (La++Lb)),(t:Int)),(a,c,b),(La,La.map dL,A'),(m,Ra),(Lb,Lb.map dL,B'),(m,Rb),d9,La++Lb)/\d9.length<=t/\∀v,v∈d9↔v∈(La++Lb).take t/\¬(v∈La/\v∈Lb)) _ ?s1 ?s2 ⟨[],rfl,by simp,by simp⟩ (dY (by rw[AI];omega))
   case s1=>
    rintro t s g ⟨d9,rfl,G,l⟩;have ht6:t<6:=by rw[AI] at g;omega
    have J:∀v,v∈(La++Lb).take (t+1)↔v∈(La++Lb).take t\/v=(La++Lb).getD t 0:=fun v=>by
     rw[aaE 0 g,By,zaf]
    dsimp only
    rw[be (dt (by rw[nl];omega)),kU (by unfold aa;exact g)];simp only[bY];rw[gW,vL 0 g];simp only[bY];rw[ae5 (by omega)];simp only[bY];by_cases ha:(La++Lb).getD t 0∈La
    ·rw[decide_eq_true ha,show de true=false from rfl,jR,ae5 (by omega)]
     simp only[bY];by_cases hb:(La++Lb).getD t 0∈Lb
     ·rw[decide_eq_true hb,show de true=false from rfl,jR]
      try simp only[bY,bE]
      rw[dZ];refine⟨_,rfl,d9,rfl,by omega,fun v=>?_⟩;rw[l,J];constructor
      ·grind
      ·rintro⟨f|f,i⟩
       ·grind
       grind
     ·rw[decide_eq_false hb,show de false=true from rfl,mJ]
      simp only[bY,bE,Em];rw[mr (by simp only[au,aa,Pe,IS];omega)];simp only[bY,sM];rw[dZ];refine⟨_,rfl,ci d9 [(La++Lb).getD t 0],rfl,by simp[ci];omega,fun v=>?_⟩;unfold ci;rw[By,zaf,l,J];constructor
      ·rintro(⟨f,i⟩|f)
       ·grind
       grind
      grind
    ·rw[decide_eq_false ha,show de false=true from rfl,mJ]
     simp only[bY,bE,Em];rw[mr (by simp only[au,aa,Pe,IS];omega)];simp only[bY,sM];rw[dZ];refine⟨_,rfl,ci d9 [(La++Lb).getD t 0],rfl,by simp[ci];omega,fun v=>?_⟩;unfold ci;rw[By,zaf,l,J];constructor
     ·rintro(⟨f,i⟩|f)
      ·grind
      grind
     grind
   case s2=>
    rintro s ⟨d9,rfl,G,l⟩;refine⟨_,?_,d9,rfl,by grind,fun v=>by rw[l,If]⟩;dsimp only
    rw[aW (eB (by rw[nl];omega))]
    try simp only[bY,bE]
  simp only[ic];have r:=H.p;have T2:=H.two;have lJ:(jL La Lb).length<=6:=by have:=QF La Lb;omega
  have E:∀v,v∈jL La Lb->jd La (La.map dL) Lb (Lb.map dL) v=dL v:=fun v e=>by
   by_cases h:v∈La
   ·rw[r.yG h,h9 (eZ h),jp h]
   ·have h':=(th e).resolve_left h;rw[r.BV h',h9 (eZ h'),jp h']
  have Z:∀v∈(jL La Lb).map dL,1<=v/\v<=3:=fun v e=>by
   obtain⟨u,_,rfl⟩:=zax.1 e;unfold dL;omega
  have M:cC La (La.map dL) Lb (Lb.map dL)=(jL La Lb).map dL:=zad E;have hp6:aB (cC La (La.map dL) Lb (Lb.map dL))<=729:=by
   rw[M];refine AT (Rm _ Z) (AT (zaq (by omega) (show((jL La Lb).map dL).length<=6 by grind)) (by decide))
  have nS:(fu La Lb).Nodup:=r.nJ.filter _;have lS:(fu La Lb).length<=6:=AT (zam _ _) lJ;have xS:∀v∈fu La Lb,0<=v/\v<6:=fun v e=>(th (B0.1 e).1).elim (xa v) (xb v);have C:(fu La Lb).map (jd La (La.map dL) Lb (Lb.map dL))=(fu La Lb).map dL:=zad fun v e=>E v (B0.1 e).1;have w:∀v∈(fu La Lb).map dL,1<=v/\v<=3:=fun v e=>by
   obtain⟨u,_,rfl⟩:=zax.1 e;unfold dL;omega
  have hpS:aB ((fu La Lb).map dL)<=729:=AT (Rm _ w) (AT (zaq (by omega) (show((fu La Lb).map dL).length<=6 by grind)) (by decide));have P:=tE (D:=(fu La Lb).map dL) fun v e=>(w v e).1;have s9:0<=fF (fu La Lb) ((fu La Lb).map (jd La (La.map dL) Lb (Lb.map dL))):=by
   rw[C];unfold fF;rw[ai ⟨UG nS (by omega) xS,by omega⟩,P];omega
  have Q:EQ (a,c,b) La (La.map dL) A' Lb (Lb.map dL) B' (fu La Lb)=(zz (a,c,b) La (La.map dL) A' Lb (Lb.map dL) B' (fu La Lb),true):=ai ⟨by omega,s9⟩;have K:GP ((a,c,b),(La,La.map dL,A'),(m,Ra),(Lb,Lb.map dL,B'),m,Rb)=some (zz (a,c,b) La (La.map dL) A' Lb (Lb.map dL) B' (fu La Lb),((mG La (La.map dL) Ra Lb (Lb.map dL) Rb m (bD m Ra) (bD m Rb)).length:Int),true):=by
   rw[aoT H];unfold U1
   grind
  have P5:Nv La Lb d9=fu La Lb:=aft fun v e=>by
   rw[MF];exact⟨fun q=>q.2,fun q=>⟨By.2 (th e),q⟩⟩
  have Bw:Er ((a,c,b),(La,La.map dL,A'),(Lb,Lb.map dL,B'),d9)=some (zz (a,c,b) La (La.map dL) A' Lb (Lb.map dL) B' (fu La Lb),true):=by
   rw[ab6 k Y T2 (by omega) P5,Q]
  have rV:=H.at1 s9;have V:=r.abb;obtain⟨d,N⟩:∃d,zz (a,c,b) La (La.map dL) A' Lb (Lb.map dL) B' (fu La Lb)=(fu La Lb,(fu La Lb).map dL,d):=⟨_,by rw[<-C];rfl⟩;rw[N] at K Bw rV;generalize hW:(mG La (La.map dL) Ra Lb (Lb.map dL) Rb m (bD m Ra) (bD m Rb)).length=n at K V;rw[K];simp only[bY,gj];rw[Bw];simp only[bY,gj,bE,uq];have lc:∀v,v∈fu La Lb->(v∈La/\v∉Lb)\/(v∉La/\v∈Lb):=fun v e=>by
   obtain⟨f,i⟩:=B0.1 e;by_cases h:v∈La
   ·exact .inl ⟨h,fun q=>i ⟨h,q⟩⟩
   ·exact .inr ⟨h,(th f).resolve_left h⟩
  have lRa:Ra.length=La.length:=by rw[r.HA.rl];simp
  have lRb:Rb.length=Lb.length:=by rw[r.HB.rl];simp
  generalize hSe:fu La Lb=S at*
  generalize hL:bS bW _ _=o;obtain⟨z,rfl,rfl⟩:∃z,o=some z/\z=AN ((true,true,(n:Int)),(a,c,b),(La,La.map dL,A'),(Lb,Lb.map dL,B'),m,S,S.map dL,d,S,S.map dL,d,qi La Ra Lb Rb S):=by
   rw[<-hL];refine uO S.length (fun t s=>s=(((n:Int),true,true,aK (aa S),(t:Int)),(a,c,b),(La,La.map dL,A'),(m,Ra),(Lb,Lb.map dL,B'),(m,Rb),m,S,S.map dL,d,S,S.map dL,d,qi La Ra Lb Rb (S.take t))) _ ?s1 ?s2 rfl dY
   case s1=>
    rintro t s g rfl;have lX:(qi La Ra Lb Rb (S.take t)).length=t:=by unfold qi;rw[co,List.length_take];omega
    dsimp only
    rw[be (dt (by rw[nl];omega)),kU (by unfold aa;exact g)];simp only[bY];rw[gW,vL 0 g];simp only[bY,bE];have hx:=lc _ (eX g);generalize hxe:S.getD t 0=x at hx;generalize hX:qi La Ra Lb Rb (S.take t)=X at lX;generalize E5:bS bW _ _=o2;obtain⟨z2,rfl,rfl⟩:∃z,o2=some z/\z=AN ((aK (aa S),true,true,(n:Int),(t:Int),x),(a,c,b),(La,La.map dL,A'),(m,Ra),(Lb,Lb.map dL,B'),(m,Rb),m,S,S.map dL,d,S,S.map dL,d,ci X (sx La Ra x La.length)):=by
     rw[<-E5];refine uO La.length (fun j s=>s=(((n:Int),true,true,x,aK (aa S),(t:Int),La,aK (aa La),(j:Int)),(a,c,b),(La,La.map dL,A'),(m,Ra),(Lb,Lb.map dL,B'),(m,Rb),m,S,S.map dL,d,S,S.map dL,d,ci X (sx La Ra x j))) _ ?t1 ?t2 (by simp[sx,ci]) dY
     case t1=>
      rintro j s W rfl;have l2:=ahQ La Ra x j;have l3:(ci X (sx La Ra x j)).length<=20:=by unfold ci;rw[AI];omega
      dsimp only
      rw[be (dt (by rw[nl];omega)),show cg La (j:Int)=some (La.getD j 0) from(dw _ j).trans (vL 0 W)]
      simp only[bY];rw[dZ,ZP];by_cases h:La.getD j 0=x
      ·rw[be (rN h.symm),ai h,show cg Ra (j:Int)=some (Ra.getD j []) from(dw _ j).trans (vL [] (by omega))]
       simp only[bY,bE];rw[show aU 0 1 (aa [Ra.getD j []])=some () from rfl]
       simp only[bY];rw[mr (by simp only[au,aa,Pe,IS];omega)];simp only[bY,sM];exact⟨_,rfl,by simp[ci]⟩
      ·rw[aW (qw fun q=>h q.symm),aq h]
       try simp only[bY,bE]
       exact⟨_,rfl,by simp⟩
     case t2=>
      rintro s rfl;refine⟨_,?_,rfl⟩;dsimp only
      rw[aW (eB (by rw[nl];omega))]
      try simp only[bE,bY]
    simp only[ic,bE,bY];rw[ahP na];generalize PR:ci X (if x∈La then[Ra.getD (aX La x) []] else[])=X2
    have lX2:X2.length<=10:=by rw[<-PR];unfold ci;rw[AI];split<;>simp<;>omega
    generalize hL3:bS bW _ _=o3;obtain⟨z3,rfl,rfl⟩:∃z,o3=some z/\z=AN (((t:Int),(n:Int),true,true,aK (aa S)),(a,c,b),(La,La.map dL,A'),(m,Ra),(Lb,Lb.map dL,B'),(m,Rb),m,S,S.map dL,d,S,S.map dL,d,ci X2 (sx Lb Rb x Lb.length)):=by
     rw[<-hL3];refine uO Lb.length (fun j s=>s=(((n:Int),true,true,x,aK (aa S),(t:Int),Lb,aK (aa Lb),(j:Int)),(a,c,b),(La,La.map dL,A'),(m,Ra),(Lb,Lb.map dL,B'),(m,Rb),m,S,S.map dL,d,S,S.map dL,d,ci X2 (sx Lb Rb x j))) _ ?t1 ?t2 (by simp[sx,ci]) dY
     case t1=>
      rintro j s W rfl;have l2:=ahQ Lb Rb x j;have l3:(ci X2 (sx Lb Rb x j)).length<=20:=by unfold ci;rw[AI];omega
      dsimp only
      rw[be (dt (by rw[nl];omega)),show cg Lb (j:Int)=some (Lb.getD j 0) from(dw _ j).trans (vL 0 W)]
      simp only[bY];rw[dZ,ZP];by_cases h:Lb.getD j 0=x
      ·rw[be (rN h.symm),ai h,show cg Rb (j:Int)=some (Rb.getD j []) from(dw _ j).trans (vL [] (by omega))]
       simp only[bY,bE];rw[show aU 0 1 (aa [Rb.getD j []])=some () from rfl]
       simp only[bY];rw[mr (by simp only[au,aa,Pe,IS];omega)];simp only[bY,sM];exact⟨_,rfl,by simp[ci]⟩
      ·rw[aW (qw fun q=>h q.symm),aq h]
       try simp only[bY,bE]
       exact⟨_,rfl,by simp⟩
     case t2=>
      rintro s rfl;refine⟨_,?_,rfl⟩;dsimp only
      rw[aW (eB (by rw[nl];omega))]
      try simp only[bE,bY]
    simp only[ic,bE,bY];rw[dZ,ahP nb];refine⟨_,rfl,?_⟩;have Qj:ci X2 (if x∈Lb then[Rb.getD (aX Lb x) []] else[])=qi La Ra Lb Rb (S.take (t+1)):=by
     rw[aaE 0 g,hxe];unfold qi;rw[zaa,GB,zae];rw[<-PR,<-hX];unfold qi ci;rcases hx with⟨f,i⟩|⟨f,i⟩
     ·rw[ai f,aq i,ai f,IT]
     ·rw[aq f,ai i,aq f,IT]
    rw[Qj];rfl
   case s2=>
    rintro s rfl;refine⟨_,?_,rfl⟩;dsimp only
    rw[aW (eB (by rw[nl];omega)),If]
    try simp only[bE,bY]
  obtain⟨F,MP,O⟩:=of_decide_eq_true rV;have td:=j7 F;have lD:d.length<=1048576:=by
   rw[td.2.2.2.2.1];exact AT (zar td.2.2.2.1.2 y.2.2) (by omega)
  have I:GR ((a,c,b),(S,S.map dL,d),m,qi La Ra Lb Rb S)=some ((S,S.map dL,d),true):=by
   refine(ai ⟨⟨by show S.length<=_;omega,by show(S.map dL).length<=_;omega,lD⟩,O2 (A8 MP) (by simp)⟩).trans (congrArg some ((ai ⟨F,MP⟩).trans ?_));exact congrArg (fun q=>((S,S.map dL,q),true)) O
  simp only[ic,gj,bY];rw[I];simp only[bY,gj];rw[mJ,mJ,mJ,ahB S (S.map dL) d (by omega) (by omega) lD];simp only[bY];rw[mJ,T2.afj];simp only[bY];rw[be qI]
 ·rw[be (dt (by rw[nl];omega))]
section
def OD (P:Program) (r:TypeId->Option (List Ty)):Nat->List Field->Option (List Ty)
 |_,[]=>some []
 |off,f::fs=>match r f.type with
  |some ts=>if f.offset=off/\P.cellsOf f.type=ts.length then(OD P r (off+ts.length) fs).map (ts++·) else none
  |none=>none
def Ky (P:Program):Nat->TypeId->Option (List Ty)
 |0,_=>none
 |n+1,t=>match P.underlying t with
  |some .bool=>some [.bool]
  |some (.int k)=>some [.int k]
  |some (.slice e)=>match Ky P n e with
   |some ts=>if 0<ts.length/\P.cellsOf e=ts.length then some [.list ts] else none
   |none=>none
  |some (.struct fs)=>match OD P (Ky P n) 0 fs.toList with
   |some ts=>if P.cellsOf t=ts.length then some ts else none
   |none=>none
  |_=>none
mutual
def Ty.Wf:(t:Ty)->t.D->Prop
 |.int k,n=>LE.le (α:=Int) k.min n/\LE.le (α:=Int) n k.max
 |.bool,_=>True
 |.list ts,xs=>zaE (α:=Ty.DL ts) xs<=maxLen/\∀e:Ty.DL ts,List.Mem (α:=Ty.DL ts) e xs->Ty.ua ts e
def Ty.ua:(ts:List Ty)->Ty.DL ts->Prop
 |[],_=>True
 |[t],x=>Ty.Wf t x
 |t::u::ts,x=>Ty.Wf t x.1/\Ty.ua (u::ts) x.2
end
theorem ab7 (t:Ty) (ts:List Ty) (x:t.D) (y:Ty.DL ts):Ty.ua (t::ts) (ES t ts x y)↔t.Wf x/\Ty.ua ts y:=by cases ts with|nil=>exact⟨fun h=>⟨h,trivial⟩,fun h=>h.1⟩|cons u us=>exact Iff.rfl
theorem ali (t:Ty):∀(ts:List Ty) (x:Ty.DL (t::ts)),∃a b,x=ES t ts a b
 |[],x=>⟨x,(),rfl⟩
 |_::_,x=>⟨x.1,x.2,rfl⟩
theorem abu:∀(ts us:List Ty) (x:Ty.DL ts) (y:Ty.DL us),Ty.ua ts x->Ty.ua us y->∃z:Ty.DL (ts++us),Ty.aQ (ts++us) z=Ty.aQ ts x++Ty.aQ us y/\Ty.ua (ts++us) z
 |[],us,x,y,_,h=>⟨y,rfl,h⟩
 |t::ts,us,x,y,c,d=>by obtain⟨a,b,rfl⟩:=ali t ts x;rw[ab7] at c;obtain⟨z,e1,e⟩:=abu ts us b y c.2 d;exact⟨ES t (ts++us) a z,by have c:Ty.aQ (t::(ts++us)) (ES t (ts++us) a z)=t.er a::Ty.aQ (ts++us) z:=Vi _ _ _ _;have d:Ty.aQ (t::ts) (ES t ts a b)=t.er a::Ty.aQ ts b:=Vi _ _ _ _;simp_all,(ab7 _ _ _ _).2 ⟨c.1,e⟩⟩
theorem afV {α β:Type} {f:α->Option β}:∀{l:List α} {r:List β},l.mapM f=some r->r.length=l.length/\∀(i:Nat) (x:α),l[i]? =some x->∃y,r[i]? =some y/\f x=some y:=by intro l;induction l with|nil=>simp_all|cons a l c=>intro r h;rw[zaA] at h;cases hx:f a with|none=>simp[hx] at h|some y=>cases M1:l.mapM f with|none=>simp_all|some ys=>simp[hx,M1] at h;subst h;obtain⟨b,i2⟩:=c M1;refine⟨by simp[b],fun i x hi=>?_⟩;cases i with|zero=>simp_all|succ i=>simp_all
theorem akU {w:World} {a:Addr} {n:Nat} {cs:List Value} (h:w.cells? 0 a n=some cs):cs.length=n/\∀(j:Nat) (c:Value),cs[j]? =some c->w.cell? (a.add j)=some c:=by unfold World.cells? at h;rw[ai (zaF _)] at h;obtain⟨b,d⟩:=afV h;simp only[zai] at b;refine⟨b,fun j c e=>?_⟩;have f:j<n:=(by rw[<-b];exact(zag.1 e).1);obtain⟨y,e1,e2⟩:=d j j (zas f);simp_all
theorem akT {w:World} {a:Addr} {v:Value} (h:w.cell? a=some v):a=ad a.block a.off:=by unfold World.cell? at h;split at h;split at h;cases h;rename_i c;obtain⟨b,o,s⟩:=a;(cases s with|none=>rfl|some q=>simp at c);cases h
theorem abn (a:Addr):a.add 0=a:=by unfold Addr.add;simp
section
variable {H:Type} {enc:TypeId×Value->H} {P:Program} {w:World} {sp:Nat->Bool} {held:Bool}
def xV (P:Program) (w:World) (ts:List Ty) (cs:List Value):Prop:=
 ∃(x:Ty.DL ts) (cK:List PC),cK.map PC.er=Ty.aQ ts x/\cK.map PC.val=cs/\(∀pc∈cK,Good w pc)/\Ty.ua ts x
theorem xV.one {t:Ty} {x:t.D} {pc:PC} {c:Value} (d:pc.er=t.er x) (a:pc.val=c) (e:Good w pc) (b:t.Wf x):xV P w [t] [c]:= ⟨x,[pc],by simp only[GB,zae,d];rfl,by simp[a],by simpa using e,b⟩
theorem ahe {r:TypeId->Option (List Ty)} {q:TypeId->List Value->Option (DataW H×List MemPlace)} (hr:∀t ts cs y,r t=some ts->q t cs=some y->xV P w ts cs) (cs:List Value): ∀(d:List Field) (off:Nat) (ts:List Ty) (ys:List (DataW H×List MemPlace)),OD P r off d=some ts->d.mapM (fun f=>q f.type ((cs.drop f.offset).take (P.cellsOf f.type)))=some ys->xV P w ts ((cs.drop off).take ts.length)
 |[],off,ts,ys,a,h2=>by simp only[OD] at a;injection a with a;subst a;exact⟨(),[],rfl,by simp,by simp,trivial⟩
 |f::d,off,ts,ys,a,h2=>by simp only[OD] at a;split at a;rename_i b i;split at a;rename_i n;obtain⟨h,o⟩:=n;rw[zal] at a;obtain⟨c,l,rfl⟩:=a;rw[zaA] at h2;(cases hq:q f.type ((cs.drop f.offset).take (P.cellsOf f.type)) with|none=>simp[hq] at h2|some y=>cases hqs:d.mapM (fun f=>q f.type ((cs.drop f.offset).take (P.cellsOf f.type))) with|none=>simp_all|some e=>obtain⟨m,p1,a1,j,x,s⟩:=hr _ _ _ _ i hq;obtain⟨k,g,b1,u,A,p⟩:=ahe hr cs d (off+b.length) c e l hqs;obtain⟨z,z1,B⟩:=abu b c m k s p;refine⟨z,p1++g,by simp_all,?_,fun pc v=>(By.1 v).elim (x pc) (A pc),B⟩;rw[zaa,j,u,h,o,AI,zaC,List.drop_drop]);cases a;cases a
theorem awj {r:Nat} {t e:TypeId} {us:List Ty} {cs:List Value} {y:DataW H×List MemPlace} (N:∀cs y,DataW.trod enc P w 0 sp held r e cs=some y->xV P w us cs) (m:0<us.length) (E:P.cellsOf e=us.length) (U:P.underlying t=some (.slice e)) (h:DataW.trod enc P w 0 sp held (r+1) t cs=some y):xV P w [.list us] cs:=by rw[DataW.trod_step] at h;unfold DataW.trodStep at h;simp only[U] at h;(split at h<;>first|(cases h;done)|(rename_i f;cases f;done)|skip);exact xV.one (t:=.list us) (x:=([]:List (Ty.DL us))) (pc:=.list us.length none 0 []) (by rw[PC.fk];rfl) rfl (.nil _ _ _ m) ⟨zaF _,fun e d=>by cases d⟩;rename_i e' a len cap f;injection f with f;injection f with f;subst f;split at h;rename_i J;obtain⟨_,hlc,sO⟩:=J;rw[zaj] at h;obtain⟨elems,d,_⟩:=h;obtain⟨G,K⟩:=afV d;simp only[zai] at G;have each:∀i:Fin len,∃(x:Ty.DL us) (l:List PC),l.map PC.er=Ty.aQ us x/\(∀pc∈l,Good w pc)/\Ty.ua us x/\∀j pc,l[j]? =some pc->w.cell? ((a.add (i.1*us.length)).add j)=some pc.val:=(by intro i;obtain⟨O,_,s⟩:=K i.1 i.1 (zas i.2);rw[zaj] at s;obtain⟨n,z,A⟩:=s;rw[E] at z;obtain⟨c1,L⟩:=akU z;obtain⟨x,l,S,D,T,M⟩:=N n O A;refine⟨x,l,S,T,M,fun j pc g=>L j pc.val ?_⟩;rw[<-D,zah,g];rfl);let xs:List (Ty.DL us):=List.ofFn fun i:Fin len=>zak (each i);let px:List (List PC):=List.ofFn fun i:Fin len=>zak (BY (each i));have q:∀k e,px[k]? =some e->∃i:Fin len,i.1=k/\e=zak (BY (each i)):=(by intro k e b;rw[zau] at b;split at b;rename_i B;injection b with b;exact⟨⟨k,B⟩,rfl,b.symm⟩;cases b);have spec:=fun i:Fin len=>BY (BY (each i));have W:px.length=len:=(by simp[px]);have axE:xs.length=len:=(by simp[xs]);have F:px.map (fun e=>e.map PC.er)=List.map (Ty.aQ us) xs:=(by apply List.ext_getElem?;intro k;simp only[zah,px,xs,zau];by_cases b:k<len;simp only[b,dif_pos,Option.map_some];rw[(spec ⟨k,b⟩).1];simp only[b,dif_neg,not_false_eq_true,Option.map_none]);have C:∀x∈xs,Ty.ua us x:=(by intro x hx;obtain⟨i,Q⟩:=List.mem_ofFn.1 hx;subst Q;exact(spec i).2.2.1);have u:∀e∈px,e.length=us.length:=(by intro e d;obtain⟨k,b⟩:=zap d;obtain⟨i,_,rfl⟩:=q k e b;have:=congrArg zaE (spec i).1;rwa[co,Ty.Bp] at this);have I:∀k j c,At px k j c->Good w c:=(by rintro k j c ⟨e,d,g⟩;obtain⟨i,_,rfl⟩:=q k e d;exact(spec i).2.1 c (List.mem_of_getElem? g));have o:∀k j c,At px k j c->w.cell? ((a.add (k*us.length)).add j)=some c.val:=(by rintro k j c ⟨e,d,g⟩;obtain⟨i,rfl,rfl⟩:=q k e d;exact(spec i).2.2.2 j c g);refine xV.one (t:=.list us) (x:=xs) (pc:=.list us.length (some a) cap px) (by rw[PC.fk,F];rfl) (by simp[PC.val,W]) ?_ ⟨by omega,fun x hx=>C x hx⟩;by_cases p:px=[];rw[p];exact .nil _ _ _ m;obtain⟨V,X⟩:=abC p m u;have v:=o 0 0 V X;rw[Nat.zero_mul,abn,abn] at v;have R:=akT v;rw[R] at o⊢;refine .cons _ _ _ _ _ p (by omega) m u (fun k j c b=>?_) I;have:=o k j c b;rwa[vn,vn] at this;cases h
theorem aaH:∀(f:Nat) (t:TypeId) (cs:List Value) (y:DataW H×List MemPlace) (n:Nat) (ts:List Ty),DataW.trod enc P w 0 sp held f t cs=some y->Ky P n t=some ts->xV P w ts cs
 |0,t,cs,y,n,ts,h,a=>by simp[DataW.trod] at h
 |f+1,t,cs,y,0,ts,h,a=>by simp[Ky] at a
 |f+1,t,cs,y,n+1,ts,h,a=>by simp only[Ky] at a;cases hu:P.underlying t with|none=>simp_all|some d=>rw[hu] at a;(cases d<;>simp only at a<;>first|(cases a;done)|skip);(case bool=>injection a with a;subst a;rw[DataW.trod_step] at h;unfold DataW.trodStep at h;simp only[hu] at h;(split at h<;>first|(cases h;done)|(rename_i c;cases c;done)|skip);rename_i b c;exact xV.one (t:=.bool) (x:=b) (pc:=.bool b) rfl rfl (.bool b) trivial);(case int k=>injection a with a;subst a;rw[DataW.trod_step] at h;unfold DataW.trodStep at h;simp only[hu] at h;(split at h<;>first|(cases h;done)|(rename_i c;cases c;done)|skip);rename_i k1 j i c;injection c with c;injection c with c;subst c;split at h;rename_i g;obtain⟨rfl,g⟩:=g;simp only[Lit.wf,OF,decide_eq_true_eq] at g;exact xV.one (t:=.int j) (x:=i) (pc:=.int j i) rfl rfl (.int j i) g;cases h);(case slice e=>split at a;rename_i us m;split at a;rename_i l;obtain⟨l,o⟩:=l;injection a with a;subst a;exact awj (fun cs y hy=>aaH f e cs y n us hy m) l o hu h;cases a;cases a);case struct fs=>rw[DataW.trod_step] at h;unfold DataW.trodStep at h;simp only[hu] at h;(split at h<;>first|(cases h;done)|(rename_i c;cases c;done)|skip);rename_i hlen;split at a;rename_i us m;split at a;rename_i o;injection a with a;subst a;rw[zal] at h;obtain⟨ys,r,h2⟩:=h;have:=ahe (P:=P) (w:=w) (fun t ts cs y q p=>aaH f t cs y n ts p q) cs fs.toList 0 us ys m r;(first|grind|omega);cases a;cases a
end
end
section
open Go.ChangeShapes Go.WideShapes Go.ChangeAt Go.RowKit
def Hl:(as:bu)->cv as.cu->Prop
 |[],_=>True
 |[a],x=>Ty.ua a.2 x
 |a::b::as,x=>Ty.ua a.2 x.1/\Hl (b::as) x.2
theorem alh (a:K×List Ty) (as:bu) (x:Ty.DL a.2) (y:cv (bu.cu as)):Ty.ua a.2 x->Hl as y->Hl (a::as) (LB a.2 (bu.cu as) x y):=by intro c d;cases as with|nil=>exact c|cons b as=>exact⟨c,d⟩
def Vd (P:Program) (t:TypeId) (a:K×List Ty):Bool:=
 match Ky P 30 t with
 |some ts=>Ty.x6 ts a.2&&(match P.underlying t,a.1 with
  |some (.struct _),.agg=>true
  |some (.int _),.one=>true
  |some .bool,.one=>true
  |some (.slice _),.one=>true
  |_,_=>false)
 |none=>false
def Hz (P:Program):List TypeId->bu->Bool
 |[],[]=>true
 |t::ts,a::as=>Vd P t a&&Hz P ts as
 |_,_=>false
section
variable {H:Type} {enc:TypeId×Value->H} {P:Program} {w w':World} {sp:Nat->Bool} {held:Bool}
theorem akd {t:TypeId} {a:K×List Ty} {v:Value} {d:DataW H} {ps:List MemPlace} (g:Vd P t a=true) (c:Value.okWide P w .any 0 t v) (hd:DataW.Trod enc P w 0 sp held t v d ps): ∃x:Ty.DL a.2,GO w (a.1,Ty.aQ a.2 x) v/\Ty.ua a.2 x:=by obtain⟨o,hd⟩:=hd;unfold Vd at g;split at g;rename_i ts q;simp only[OF] at g;obtain⟨h,n⟩:=g;have h:=Ty.CT h;subst h;obtain⟨x,m,i,j,l,p⟩:=aaH o t v.cells.toList _ 30 a.2 hd q;refine⟨x,?_,p⟩;unfold Value.okWide at c;have one:(∀cs,v≠ .agg cs)->a.1=.one->GO w (a.1,Ty.aQ a.2 x) v:=(by intro hn f;have r:v.cells.toList=[v]:=(by cases v<;>first|rfl|(rename_i cs;exact absurd rfl (hn cs)));rw[f];exact⟨m,i,l,by rw[j,r]⟩);split at n;rename_i fs b f;rw[b] at c;obtain⟨cs,rfl,_,_⟩:=c;rw[f];exact⟨m,i,l,by rw[j];rfl⟩;rename_i k b f;refine one (fun cs e=>?_) f;subst e;rw[b] at c;simp[Cell.okWide,b,Cell.ok] at c;rename_i b f;refine one (fun cs e=>?_) f;subst e;rw[b] at c;simp[Cell.okWide,b,Cell.ok] at c;rename_i e b f;refine one (fun cs e=>?_) f;subst e;rw[b] at c;simp[Cell.okWide,b,Cell.ok] at c;cases n;cases g
theorem abz:∀{ts:List TypeId} {as:bu} {vs:List Value} {ds:List (DataW H)} {ps:List MemPlace},Hz P ts as=true->(∀(j:Nat) (t:TypeId) (v:Value),ts[j]? =some t->vs[j]? =some v->Value.okWide P w .any 0 t v)-> DataW.TrodAll enc P w 0 sp held ts vs ds ps->∃x:cv (bu.cu as),KG w (eG as x) vs/\Hl as x
 |[],[],vs,ds,ps,hc,hv,h=>by obtain⟨rfl,rfl,rfl⟩:=trodAll_nil h;exact⟨(),⟨rfl,by intro j d v b;simp[eG] at b⟩,trivial⟩
 |t::ts,a::as,vs,ds,ps,hc,hv,h=>by simp only[Hz,OF] at hc;obtain⟨v,vs1,d,ds1,p,q,rfl,rfl,rfl,k,n⟩:=trodAll_cons h;obtain⟨x,m,g⟩:=akd hc.1 (hv 0 t v rfl rfl) k;obtain⟨y,e,l⟩:=abz hc.2 (fun j t v i f=>hv (j+1) t v (by simpa using i) (by simpa using f)) n;refine⟨LB a.2 (bu.cu as) x y,?_,alh a as x y g l⟩;rw[VE];refine⟨by simp[e.1],fun j d v b c=>?_⟩;cases j with|zero=>simp at b c;subst b;subst c;exact m|succ j=>exact e.2 j d v (by simpa using b) (by simpa using c)
 |[],_::_,vs,ds,ps,hc,hv,h=>by simp[Hz] at hc
 |_::_,[],vs,ds,ps,hc,hv,h=>by simp[Hz] at hc
theorem ajq (a:∀b,b<w.heap.size->w'.heap[b]? =w.heap[b]?):∀{ts:List TypeId} {vs:List Value} {ds:List (DataW H)} {ps:List MemPlace},DataW.TrodAll enc P w 0 sp held ts vs ds ps->DataW.TrodAll enc P w' 0 sp held ts vs ds ps
 |[],[],[],_,h=>h
 |t::ts,v::vs,d::ds,_,⟨p,q,⟨n,h1⟩,h2,e⟩=>by refine⟨p,q,⟨n,DataW.trod_carry n t _ _ h1 fun f i=>?_⟩,ajq a h2,e⟩;have c:=DataW.trod_lt n t _ _ h1 f i;cases f with|cell b o=>have g:=a b c;simp only[World.sameAt,World.cell?,g]|map b=>exact a b c
 |[],[],_::_,_,h=>h.elim
 |[],_::_,_,_,h=>h.elim
 |_::_,[],_,_,h=>h.elim
 |_::_,_::_,[],_,h=>h.elim
theorem apq (e:w'.os=w.os) (d:w'.output=w.output) (f:∀b,b<w.heap.size->w'.heap[b]? =w.heap[b]?) (a:MemPlace->Prop):w.keptBut w' a:=by have base:=World.keptBut_refl w a;refine⟨e,d,fun i c=>?_⟩;rw[f i c];exact base.2.2 i c
theorem atl {f:Func} {s:ChangeSpec} {c A z C:Bool} {W h:World} {args:Array Value} {v:Value} {ds k:List (DataW H)} {g pa pv:List MemPlace} (l:DataW.Whole enc P f.params.toList s.vars c W args.toList ds k g) (q:∀(b:Nat) (sp:Nat->Bool) (hd:Bool),DataW.TrodAll enc P h b sp hd f.resultTypes.toList (v.resultList f.resultTypes.size) (s.fn H (ds++k)).results []) (n:∀sp:Nat->Bool,(∀p∈g,sp p.block=true)->DataW.TrodAll enc P h 0 sp true f.params.toList args.toList (s.fn H (ds++k)).args pa) (i:∀sp:Nat->Bool,(∀p∈g,sp p.block=true)->DataW.TrodVars enc P h sp s.vars (s.fn H (ds++k)).vars pv) (m:g=pa++pv) (B:W.keptBut h (·∈g)) (x:∀a:Addr,a.block<W.heap.size->h.frozen? a=W.frozen? a) (u:∀(j:Nat) (t:TypeId) (r:Value),f.resultTypes[j]? =some t->(v.resultList f.resultTypes.size)[j]? =some r->Value.okWide P h .any 0 t r): s.post enc P f c A z C W args v h:=by have e:∀p∈g,(fun b=>decide (b<W.heap.size)) p.block=true:=fun p d=>(by simpa using l.lt p d);have w:=l.lt;refine⟨ds,k,g,[],pa,pv,l,q _ _ _,n _ e,i _ e,World.keptBut_mono (fun p d=>⟨d,?_⟩) B,fun _=>?_⟩;rw[m,By] at d;exact Or.inr d;obtain⟨_,_,_,_,_,y,hn⟩:=l;refine⟨u,_,_,([]++pa)++pv,⟨[]++pa,pv,trodAll_append (n _ (fun _ _=>rfl)) (q _ _ _),i _ (fun _ _=>rfl),rfl,?_,?_⟩,?_⟩;intro b off d;have o:MemPlace.cell b off∈g:=(by rw[m];simpa using d);rw[x ⟨b,off,none⟩ (w _ o)];exact y b off o;intro D;have:=hn D;rw[m] at this;simpa using this;intro p d _;rw[m];simpa using d
theorem at5 {c:List (K×List PC)} {b:Bool} (h:c.map (fun p=>(p.1,p.2.map PC.er))=[(K.one,[C.bool b])]):yW c=.bool b:=by
 match c,h with
 |[],h=>simp at h
 |_::_::_,h=>simp at h
 |[(k,cK)],h=>
  simp only[GB,zae,zaz,Prod.mk.injEq,and_true] at h;obtain⟨rfl,h⟩:=h;match cK,h with
  |[],h=>simp at h
  |_::_::_,h=>simp at h
  |[pc],h=>
   simp only[GB,zae,zaz,and_true] at h;cases pc with
   |bool b=>simp[PC.er] at h;subst h;rfl
   |int k n=>simp[PC.er] at h
   |list sz a cap xs=>rw[PC.fk] at h;cases h
theorem ajr:∀{ts:List TypeId} {vs:List Value} {ds:List (DataW H)} {ps:List MemPlace},DataW.TrodAll enc P w 0 sp held ts vs ds ps->ds.length=ts.length
 |[],vs,ds,ps,h=>by obtain⟨rfl,rfl,rfl⟩:=trodAll_nil h;rfl
 |t::ts,vs,ds,ps,h=>by obtain⟨v,vs1,d,ds1,p,q,rfl,rfl,rfl,h1,a⟩:=trodAll_cons h;simp[ajr a]
def aei (P:Program):Bool:=(zaB P.types.size).all fun t=>match P.underlying t with|some (.slice e)=>decide (0<P.cellsOf e)|_=>true
theorem ap4 {f:FuncId} {fn:Func} {s:ChangeSpec} {sg:bu} {M:List Dv->Option (List Dv)} {tb:TypeId} (hl:laidOutB P=true) (n:mapsRowed P=true) (D:aei P=true) (F:∀t∈fn.params.toList,t<P.types.size) (C:Hz P fn.params.toList sg=true) (hr:fn.resultTypes=#[tb]) (h:P.underlying tb=some .bool) (w:s.vars=[]) (o:∀ds:List (DataW H),ds.length=fn.params.toList.length->(s.fn H ds).results=[.lit (.bool true)]/\(s.fn H ds).args=ds/\(s.fn H ds).vars=[]) (m:eI P f M) (Z:∀x:cv (bu.cu sg),Hl sg x->M (eG sg x)=some [(.one,[.bool true])]) {c N G O:Bool} {W:World} {base:Nat} {args:Array Value} {ds Y:List (DataW H)} {Q:List MemPlace} (E:∀(j:Nat) t v,fn.params[j]? =some t->args[j]? =some v->Value.okWide P W .any base t v) (y:DataW.Whole enc P fn.params.toList s.vars c W args.toList ds Y Q): Calls P f args W fun e r=>∃v,e=.returned v/\s.post enc P fn c N G O W args v r:=by have k:=y;obtain⟨p,q,i,z,rfl,PZ,jv⟩:=y;rw[w] at z;obtain⟨rfl,rfl⟩:=trodVars_none z;obtain⟨x,hx,B⟩:=abz C (fun j t v R U=>Value.okWide_any_base<|E j t v (by rw[<-zan];exact R) (by rw[<-zan];exact U)) i;have d:=m _ _ (Z x B) W args.toList hx;have S:args.toList.toArray=args:=(by cases args;rfl);rw[S] at d;refine d.mono fun e r ⟨bJ,p1,A,p3,p4,u⟩=>?_;have K:=at5 p1;have l:∀b,b<W.heap.size->r.heap[b]? =W.heap[b]? :=fun b h=>u.block b h id;have g:=ajr i;obtain⟨J,I,T⟩:=o ds g;refine⟨_,A,?_⟩;rw[K];refine atl (pa:=p) (pv:=[]) k (fun _ _ _=>?_) (fun sp o=>?_) (fun _ _=>?_) (by simp) (apq u.os u.output l _) (fun a V=>?_) ?_;rw[IT,J,hr];exact trodAll_cons_mk (shut_bool h _) trodAll_mk0;rw[IT,I];exact DataW.TrodAll.respare (kids_rows hl n) (slices_full_of P D) F (ajq l i) (fun X L=>o X (by simpa using L));rw[IT,w,T];rfl;simp only[World.frozen?,l a.block V];rw[hr];rw[<-hr];exact ok_one hr rfl (okWide_bool_mk h _)
end
theorem axf {P:Program} {bg:bu} {b:K×List Ty} {args:bu} (hb:bg=b::args) {T:List aF} (c:aE P T) (hm:P.follows .mixedOrders=true) {f:FuncId} {sc:bR} {ms:List bO} {mu:df} {aC:bu} (a:oK P f sc.er ms (b::args).length=true) (F:cv (bu.cu (iA::iA::b::args))->Option (cv aC.cu)) (d:∀x y,F x=some y->N5 bW T sc ms mu.oD (b::args) aC x.1 x.2.1 x.2.2=some y):ED P f mu.oD (aF.MX ⟨f,iA::iA::b::args,mu,aC,F⟩)/\cB P f=true:= axe c hm a F d
end
section
variable {P:Program} {T:List aF} {f:FuncId} {sc:bR} {ms:List bO} {args aC:bu}
theorem fj (b:aE P T) (hm:P.follows .mixedOrders=true) (a:oK P f sc.er ms args.length=true) (G:Nat->cv args.cu->Option (cv aC.cu)) (hn:∀N x,Zw N T sc ms args aC x=G N x) (F:cv args.cu->Option (cv aC.cu)) (c:∀x y,F x=some y->G bW x=some y):eI P f (aF.M ⟨f,args,[],aC,F⟩)/\cB P f=true:=aty b hm a F fun x y h=>(hn bW x).trans (c x y h)
theorem QW {mu:df} (b:aE P T) (hm:P.follows .mixedOrders=true) (a:oK P f sc.er ms args.length=true) (G:Nat->cv args.cu->Option (cv aC.cu)) (hn:∀N x,Zu N T sc ms args mu aC x=G N x) (F:cv args.cu->Option (cv aC.cu)) (c:∀x y,F x=some y->G bW x=some y):zi P f mu (aF.MM ⟨f,args,mu,aC,F⟩)/\cB P f=true:=arP b hm a F fun x y h=>(hn bW x).trans (c x y h)
theorem v2 {ow:Bool} {i:FuncId} (b:aE P T) (hm:P.follows .mixedOrders=true) (a:oK P f sc.er ms args.length=true) (G:Nat->cv args.cu->Option (cv aC.cu)) (hn:∀N x,Zx N ow T sc ms args aC x=G N x) (F:cv args.cu->Option (cv aC.cu)) (c:∀x y,F x=some y->G bW x=some y):oH P f ow (aF.MV ⟨i,args,DO ow,aC,F⟩)/\cB P f=true:=aw1 b hm a F fun x y h=>(hn bW x).trans (c x y h)
end

end Go.Am
