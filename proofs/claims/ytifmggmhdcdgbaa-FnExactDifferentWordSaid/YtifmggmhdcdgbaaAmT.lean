/- AmT: many elements of a row of ints are written at once. No condition. -/
import Derived.Test.YtifmggmhdcdgbaaAmS
set_option linter.unusedVariables false
namespace Go.Am
section
variable {B:Nat} {E:Ex} {w0 w w':World} {G G':Gh} {N:Nat} {h h':Nat->Option ar} {used:Nat->Bool}
variable {P:Program} {o:Oper} {a:Act} {σ σ':St} {Q:Exit->Act->World->Prop}
theorem R.Wv (r:R B E w0 N σ a w G) {n:Nat} {gr:Bool} {m:Mode} {xs:List (List C)} (hn:σ.h n=some (.row gr m 1 xs)) (hm:m≠ .aE) (hs:ft xs=true) (aL:(G.g n).nl=false) {lo:Nat} {pe:List PC}
  (ou:∀c∈pe,c.er.dR=true) (gz:lo+pe.length<=xs.length) {cur:Array Value} {et:TypeId} (hg:w.heap[(G.g n).b]? =some (.cells cur et (0,0))) (kT:(G.g n).o+lo+pe.length<=cur.size):
  ∃G',R B E w0 N (σ.cX n (.row gr m 1 (bP xs lo (pe.map fun c=>[c.er])))) a (dS w (G.g n).b ((G.g n).o+lo) (pe.map PC.val) cur) G':=by
 have H:=r.hr
 have hr:=H.row n gr m 1 xs hn
 have bF:σ.h n≠none:=by rw[hn];simp
 obtain⟨qN,pC,qO⟩:=H.own n bF aL
 obtain⟨l1,l2,l3⟩:=hr.dq aL
 have pE:xs.length=(G.g n).px.length:=by rw[hr.er,List.length_map]
 have ji:=hs
 rw[hr.er] at ji
 have tL:=hr.er
 generalize e8:(G.g n).px=px at*
 have NH:lo+(pe.map fun c=>[c]).length<=px.length:=by rw[List.length_map];omega
 have kY:(pe.map PC.val).length=pe.length:=List.length_map _
 have Xb:(G.g n).o+lo+(pe.map PC.val).length<=cur.size:=by rw[kY];exact kT
 have cq:∀k j c,At (bP px lo (pe.map fun c=>[c])) k j c->j=0/\((lo<=k/\k<lo+pe.length/\pe[k - lo]? =some c)\/(¬(lo<=k/\k<lo+pe.length)/\At px k j c)):=by
  rintro k j c ⟨e,he,hj⟩
  rw[wP NH,List.length_map] at he
  by_cases fH:lo<=k/\k<lo+pe.length
  ·rw[if_pos fH,List.getElem?_map] at he
   cases hp:pe[k - lo]? with
   |none=>rw[hp] at he;cases he
   |some c0=>
    rw[hp] at he
    injection he with he
    subst he
    cases j with
    |zero=>simp at hj;subst hj;exact⟨rfl,.inl ⟨fH.1,fH.2,rfl⟩⟩
    |succ j=>simp at hj
  ·rw[if_neg fH] at he
   have mF:=l2.1 e (List.mem_of_getElem? he)
   have:=(List.getElem?_eq_some_iff.1 hj).1
   exact⟨by omega,.inr ⟨fH,e,he,hj⟩⟩
 have iv:∀k j c,At (bP px lo (pe.map fun c=>[c])) k j c->c.er.dR=true:=by
  intro k j c hk
  rcases(cq k j c hk).2 with⟨_,_,h1⟩|⟨_,e,he,hj⟩
  ·exact ou c (List.mem_of_getElem? h1)
  ·have h6:=List.all_eq_true.1 ji (e.map PC.er) (by simp only[List.mem_map];exact⟨e,List.mem_of_getElem? he,rfl⟩)
   exact List.all_eq_true.1 h6 c.er (by simp only[List.mem_map];exact⟨c,List.mem_of_getElem? hj,rfl⟩)
 generalize lJ:dS w (G.g n).b ((G.g n).o+lo) (pe.map PC.val) cur=w'
 have ed:∀b',b'≠(G.g n).b->w'.heap[b']? =w.heap[b']? :=fun b' aU=>by rw[<-lJ];exact zb b' aU
 have kU:∀b',Cz w w' b':=fun b'=>by
  by_cases hb:b'=(G.g n).b
  ·subst hb;rw[<-lJ];exact B8 hg Xb
  ·exact Cz.of_eq (ed b' hb)
 have tS:w.heap.size<=w'.heap.size:=by rw[<-lJ,qk];exact Nat.le_refl _
 have NA:Fj w' (G.g n) {G.g n with px:=bP px lo (pe.map fun c=>[c])} gr m 1 (bP xs lo (pe.map fun c=>[c.er])):=by
  refine⟨hm,.inl (by rw[e8];exact WH ji),rfl,rfl,rfl,rfl,rfl,?_,(fun h=>by rw[aL] at h;cases h),fun _=>⟨⟨fun e he=>?_,fun k j c hk=>?_,fun k j c hk=>Good.kx (iv k j c hk)⟩,by show(bP px lo _).length<=_;rw[Kl NH];exact l3⟩,
   ⟨fun k j c hk=>(Sep.kx (iv k j c hk)).1,fun k j c k' j' c' b hk _ _ hb=>absurd hb ((Sep.kx (iv k j c hk)).2 b)⟩,fun b ⟨k,j,c,hk,hb⟩=>absurd hb ((Sep.kx (iv k j c hk)).2 b),fun _ k j pc hk hL=>?_⟩
  ·show bP xs lo _=(bP px lo _).map _
   rw[BT,<-tL,List.map_map]
   rfl
  ·obtain⟨k,hk⟩:=List.getElem?_of_mem he
   have cM:(bP px lo (pe.map fun c=>[c]))[k]? =some e:=hk
   rw[wP NH] at cM
   split at cM
   ·rw[List.getElem?_map] at cM
    cases hp:pe[k - lo]? with
    |none=>rw[hp] at cM;cases cM
    |some c0=>rw[hp] at cM;injection cM with cM;rw[<-cM];rfl
   ·exact l2.1 e (List.mem_of_getElem? cM)
  ·obtain⟨rfl,h1⟩:=cq k j c hk
   rw[<-lJ,B7 hg Xb]
   rcases h1 with⟨h1,h2,h3⟩|⟨h1,h2⟩
   ·rw[if_pos (by rw[kY];omega),show(G.g n).o+k*1+0 - ((G.g n).o+lo)=k - lo by omega,List.getElem?_map,h3]
    rfl
   ·rw[if_neg (by rw[kY];omega)]
    exact l2.2.1 _ _ _ h2
  ·rw[e8] at hk
   have:=WI ji hk
   rw[hL] at this;cases this
 obtain⟨xk,K,_⟩:=H.QS (G':=⟨G.Im,av G.g n {G.g n with px:=bP px lo (pe.map fun c=>[c])}⟩) (h':=av σ.h n (some (.row gr m 1 (bP xs lo (pe.map fun c=>[c.er]))))) (w':=w') (S:=fun q=>q=n) tS
  (fun b' aU ca=>ed b' (by rintro rfl;exact ca n rfl (.inl ⟨aL,rfl⟩))) (fun b' _=>kU b') rfl
  (fun q hq=>by subst hq;exact⟨gr,m,1,xs,_,hn,bw _ _ _,by simp only[bw];exact NA⟩)
  (fun q hq=>⟨bS _ _ _ _ hq,bS _ _ _ _ hq⟩)
 exact⟨_,r.step (σ':=σ.cX n (.row gr m 1 (bP xs lo (pe.map fun c=>[c.er])))) rfl (fun _ h=>h) K xk (r.fr.one pC (fun b' _ aA=>ed b' aA) tS (kU _) (by rw[<-lJ];rfl) (by rw[<-lJ];rfl) (by rw[<-lJ];rfl))⟩
end
end Go.Am
