/- AmT: many elements of a row of ints are written at once. No condition. -/
import Derived.Test.YtfkfmbhknekkdaaAmS
set_option linter.unusedVariables false
namespace Go.Am
section
variable {B:Nat} {E:Ex} {w0 w w':World} {G G':Gh} {N:Nat} {h h':Nat->Option ak} {used:Nat->Bool}
variable {P:Program} {o:Oper} {a:Act} {σ σ':St} {Q:Exit->Act->World->Prop}
theorem R.S3 (r:R B E w0 N σ a w G) {n:Nat} {gr:Bool} {m:Mode} {xs:List (List C)} (hn:σ.h n=some (.row gr m 1 xs)) (hm:m≠ .aF) (hs:fB xs=true) (aE:(G.g n).nl=false) {lo:Nat} {pe:List PC}
  (m9:∀c∈pe,c.er.dX=true) (fJ:lo+pe.length<=xs.length) {cur:Array Value} {et:TypeId} (hg:w.heap[(G.g n).b]? =some (.cells cur et (0,0))) (pD:(G.g n).o+lo+pe.length<=cur.size):
  ∃G',R B E w0 N (σ.df n (.row gr m 1 (bY xs lo (pe.map fun c=>[c.er])))) a (dY w (G.g n).b ((G.g n).o+lo) (pe.map PC.val) cur) G':=by
 have H:=r.hr
 have hr:=H.row n gr m 1 xs hn
 have bJ:σ.h n≠none:=by rw[hn];simp
 obtain⟨pH,n9,pI⟩:=H.own n bJ aE
 obtain⟨l1,l2,l3⟩:=hr.dv aE
 have oe:xs.length=(G.g n).px.length:=by rw[hr.er,List.length_map]
 have iN:=hs
 rw[hr.er] at iN
 have sx:=hr.er
 generalize eN:(G.g n).px=px at*
 have KF:lo+(pe.map fun c=>[c]).length<=px.length:=by rw[List.length_map];omega
 have j0:(pe.map PC.val).length=pe.length:=List.length_map _
 have TW:(G.g n).o+lo+(pe.map PC.val).length<=cur.size:=by rw[j0];exact pD
 have bU:∀k j c,At (bY px lo (pe.map fun c=>[c])) k j c->j=0/\((lo<=k/\k<lo+pe.length/\pe[k - lo]? =some c)\/(¬(lo<=k/\k<lo+pe.length)/\At px k j c)):=by
  rintro k j c ⟨e,he,hj⟩
  rw[u6 KF,List.length_map] at he
  by_cases fu:lo<=k/\k<lo+pe.length
  ·rw[if_pos fu,List.getElem?_map] at he
   cases hp:pe[k - lo]? with
   |none=>rw[hp] at he;cases he
   |some c0=>
    rw[hp] at he
    injection he with he
    subst he
    cases j with
    |zero=>simp at hj;subst hj;exact⟨rfl,.inl ⟨fu.1,fu.2,rfl⟩⟩
    |succ j=>simp at hj
  ·rw[if_neg fu] at he
   have ly:=l2.1 e (List.mem_of_getElem? he)
   have:=(List.getElem?_eq_some_iff.1 hj).1
   exact⟨by omega,.inr ⟨fu,e,he,hj⟩⟩
 have ib:∀k j c,At (bY px lo (pe.map fun c=>[c])) k j c->c.er.dX=true:=by
  intro k j c hk
  rcases(bU k j c hk).2 with⟨_,_,h1⟩|⟨_,e,he,hj⟩
  ·exact m9 c (List.mem_of_getElem? h1)
  ·have h6:=List.all_eq_true.1 iN (e.map PC.er) (by simp only[List.mem_map];exact⟨e,List.mem_of_getElem? he,rfl⟩)
   exact List.all_eq_true.1 h6 c.er (by simp only[List.mem_map];exact⟨c,List.mem_of_getElem? hj,rfl⟩)
 generalize kN:dY w (G.g n).b ((G.g n).o+lo) (pe.map PC.val) cur=w'
 have dk:∀b',b'≠(G.g n).b->w'.heap[b']? =w.heap[b']? :=fun b' aL=>by rw[<-kN];exact xw b' aL
 have jY:∀b',Cz w w' b':=fun b'=>by
  by_cases hb:b'=(G.g n).b
  ·subst hb;rw[<-kN];exact Aq hg TW
  ·exact Cz.of_eq (dk b' hb)
 have sF:w.heap.size<=w'.heap.size:=by rw[<-kN,oU];exact Nat.le_refl _
 have KA:Dl w' (G.g n) {G.g n with px:=bY px lo (pe.map fun c=>[c])} gr m 1 (bY xs lo (pe.map fun c=>[c.er])):=by
  refine⟨hm,.inl (by rw[eN];exact Ti iN),rfl,rfl,rfl,rfl,rfl,?_,(fun h=>by rw[aE] at h;cases h),fun _=>⟨⟨fun e he=>?_,fun k j c hk=>?_,fun k j c hk=>Good.jI (ib k j c hk)⟩,by show(bY px lo _).length<=_;rw[Hk KF];exact l3⟩,
   ⟨fun k j c hk=>(Sep.jI (ib k j c hk)).1,fun k j c k' j' c' b hk _ _ hb=>absurd hb ((Sep.jI (ib k j c hk)).2 b)⟩,fun b ⟨k,j,c,hk,hb⟩=>absurd hb ((Sep.jI (ib k j c hk)).2 b),fun _ k j pc hk hL=>?_⟩
  ·show bY xs lo _=(bY px lo _).map _
   rw[z6,<-sx,List.map_map]
   rfl
  ·obtain⟨k,hk⟩:=List.getElem?_of_mem he
   have cC:(bY px lo (pe.map fun c=>[c]))[k]? =some e:=hk
   rw[u6 KF] at cC
   split at cC
   ·rw[List.getElem?_map] at cC
    cases hp:pe[k - lo]? with
    |none=>rw[hp] at cC;cases cC
    |some c0=>rw[hp] at cC;injection cC with cC;rw[<-cC];rfl
   ·exact l2.1 e (List.mem_of_getElem? cC)
  ·obtain⟨rfl,h1⟩:=bU k j c hk
   rw[<-kN,Ap hg TW]
   rcases h1 with⟨h1,h2,h3⟩|⟨h1,h2⟩
   ·rw[if_pos (by rw[j0];omega),show(G.g n).o+k*1+0 - ((G.g n).o+lo)=k - lo by omega,List.getElem?_map,h3]
    rfl
   ·rw[if_neg (by rw[j0];omega)]
    exact l2.2.1 _ _ _ h2
  ·rw[eN] at hk
   have:=Tj iN hk
   rw[hL] at this;cases this
 obtain⟨rM,K,_⟩:=H.Gm (G':=⟨G.Im,aq G.g n {G.g n with px:=bY px lo (pe.map fun c=>[c])}⟩) (h':=aq σ.h n (some (.row gr m 1 (bY xs lo (pe.map fun c=>[c.er]))))) (w':=w') (S:=fun q=>q=n) sF
  (fun b' aL cq=>dk b' (by rintro rfl;exact cq n rfl (.inl ⟨aE,rfl⟩))) (fun b' _=>jY b') rfl
  (fun q hq=>by subst hq;exact⟨gr,m,1,xs,_,hn,bu _ _ _,by simp only[bu];exact KA⟩)
  (fun q hq=>⟨cd _ _ _ _ hq,cd _ _ _ _ hq⟩)
 exact⟨_,r.step (σ':=σ.df n (.row gr m 1 (bY xs lo (pe.map fun c=>[c.er])))) rfl (fun _ h=>h) K rM (r.fr.one n9 (fun b' _ av=>dk b' av) sF (jY _) (by rw[<-kN];rfl) (by rw[<-kN];rfl) (by rw[<-kN];rfl))⟩
end
end Go.Am
