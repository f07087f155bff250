/- AmT: many elements of a row of ints are written at once. No condition. -/
import Derived.Test.YtbgmbplglejidaaAmS
set_option linter.unusedVariables false
namespace Go.Am
section
variable {B:Nat} {E:Ex} {w0 w w':World} {G G':Gh} {N:Nat} {h h':Nat->Option ao} {used:Nat->Bool}
variable {P:Program} {o:Oper} {a:Act} {σ σ':St} {Q:Exit->Act->World->Prop}
theorem R.YA (r:R B E w0 N σ a w G) {n:Nat} {gr:Bool} {m:Mode} {xs:List (List C)} (hn:σ.h n=some (.row gr m 1 xs)) (hm:m≠ .aF) (hs:ga xs=true) (aL:(G.g n).nl=false) {lo:Nat} {pe:List PC}
  (pG:∀c∈pe,c.er.eR=true) (fJ:lo+pe.length<=xs.length) {cur:Array Value} {et:TypeId} (hg:w.heap[(G.g n).b]? =some (.cells cur et (0,0))) (mn:(G.g n).o+lo+pe.length<=cur.size):
  ∃G',R B E w0 N (σ.dB n (.row gr m 1 (cu xs lo (pe.map fun c=>[c.er])))) a (eS w (G.g n).b ((G.g n).o+lo) (pe.map PC.val) cur) G':=by
 have H:=r.hr
 have hr:=H.row n gr m 1 xs hn
 have bP:σ.h n≠none:=by rw[hn];simp
 obtain⟨sa,qP,sb⟩:=H.own n bP aL
 obtain⟨l1,l2,l3⟩:=hr.dV aL
 have qR:xs.length=(G.g n).px.length:=by rw[hr.er,List.length_map]
 have j3:=hs
 rw[hr.er] at j3
 have uC:=hr.er
 generalize fL:(G.g n).px=px at*
 have O7:lo+(pe.map fun c=>[c]).length<=px.length:=by rw[List.length_map];omega
 have mz:(pe.map PC.val).length=pe.length:=List.length_map _
 have Zo:(G.g n).o+lo+(pe.map PC.val).length<=cur.size:=by rw[mz];exact mn
 have ca:∀k j c,At (cu px lo (pe.map fun c=>[c])) k j c->j=0/\((lo<=k/\k<lo+pe.length/\pe[k - lo]? =some c)\/(¬(lo<=k/\k<lo+pe.length)/\At px k j c)):=by
  rintro k j c ⟨e,he,hj⟩
  rw[xn O7,List.length_map] at he
  by_cases fT:lo<=k/\k<lo+pe.length
  ·rw[if_pos fT,List.getElem?_map] at he
   cases hp:pe[k - lo]? with
   |none=>rw[hp] at he;cases he
   |some c0=>
    rw[hp] at he
    injection he with he
    subst he
    cases j with
    |zero=>simp at hj;subst hj;exact⟨rfl,.inl ⟨fT.1,fT.2,rfl⟩⟩
    |succ j=>simp at hj
  ·rw[if_neg fT] at he
   have mr:=l2.1 e (List.mem_of_getElem? he)
   have:=(List.getElem?_eq_some_iff.1 hj).1
   exact⟨by omega,.inr ⟨fT,e,he,hj⟩⟩
 have jh:∀k j c,At (cu px lo (pe.map fun c=>[c])) k j c->c.er.eR=true:=by
  intro k j c hk
  rcases(ca k j c hk).2 with⟨_,_,h1⟩|⟨_,e,he,hj⟩
  ·exact pG c (List.mem_of_getElem? h1)
  ·have h6:=List.all_eq_true.1 j3 (e.map PC.er) (by simp only[List.mem_map];exact⟨e,List.mem_of_getElem? he,rfl⟩)
   exact List.all_eq_true.1 h6 c.er (by simp only[List.mem_map];exact⟨c,List.mem_of_getElem? hj,rfl⟩)
 generalize m7:eS w (G.g n).b ((G.g n).o+lo) (pe.map PC.val) cur=w'
 have dQ:∀b',b'≠(G.g n).b->w'.heap[b']? =w.heap[b']? :=fun b' aY=>by rw[<-m7];exact zY b' aY
 have mq:∀b',Cz w w' b':=fun b'=>by
  by_cases hb:b'=(G.g n).b
  ·subst hb;rw[<-m7];exact C5 hg Zo
  ·exact Cz.of_eq (dQ b' hb)
 have uL:w.heap.size<=w'.heap.size:=by rw[<-m7,rF];exact Nat.le_refl _
 have OZ:Gm w' (G.g n) {G.g n with px:=cu px lo (pe.map fun c=>[c])} gr m 1 (cu xs lo (pe.map fun c=>[c.er])):=by
  refine⟨hm,.inl (by rw[fL];exact YM j3),rfl,rfl,rfl,rfl,rfl,?_,(fun h=>by rw[aL] at h;cases h),fun _=>⟨⟨fun e he=>?_,fun k j c hk=>?_,fun k j c hk=>Good.lF (jh k j c hk)⟩,by show(cu px lo _).length<=_;rw[K7 O7];exact l3⟩,
   ⟨fun k j c hk=>(Sep.lF (jh k j c hk)).1,fun k j c k' j' c' b hk _ _ hb=>absurd hb ((Sep.lF (jh k j c hk)).2 b)⟩,fun b ⟨k,j,c,hk,hb⟩=>absurd hb ((Sep.lF (jh k j c hk)).2 b),fun _ k j pc hk hL=>?_⟩
  ·show cu xs lo _=(cu px lo _).map _
   rw[CR,<-uC,List.map_map]
   rfl
  ·obtain⟨k,hk⟩:=List.getElem?_of_mem he
   have cO:(cu px lo (pe.map fun c=>[c]))[k]? =some e:=hk
   rw[xn O7] at cO
   split at cO
   ·rw[List.getElem?_map] at cO
    cases hp:pe[k - lo]? with
    |none=>rw[hp] at cO;cases cO
    |some c0=>rw[hp] at cO;injection cO with cO;rw[<-cO];rfl
   ·exact l2.1 e (List.mem_of_getElem? cO)
  ·obtain⟨rfl,h1⟩:=ca k j c hk
   rw[<-m7,C4 hg Zo]
   rcases h1 with⟨h1,h2,h3⟩|⟨h1,h2⟩
   ·rw[if_pos (by rw[mz];omega),show(G.g n).o+k*1+0 - ((G.g n).o+lo)=k - lo by omega,List.getElem?_map,h3]
    rfl
   ·rw[if_neg (by rw[mz];omega)]
    exact l2.2.1 _ _ _ h2
  ·rw[fL] at hk
   have:=YN j3 hk
   rw[hL] at this;cases this
 obtain⟨tQ,K,_⟩:=H.Km (G':=⟨G.Im,av G.g n {G.g n with px:=cu px lo (pe.map fun c=>[c])}⟩) (h':=av σ.h n (some (.row gr m 1 (cu xs lo (pe.map fun c=>[c.er]))))) (w':=w') (S:=fun q=>q=n) uL
  (fun b' aY cf=>dQ b' (by rintro rfl;exact cf n rfl (.inl ⟨aL,rfl⟩))) (fun b' _=>mq b') rfl
  (fun q hq=>by subst hq;exact⟨gr,m,1,xs,_,hn,bG _ _ _,by simp only[bG];exact OZ⟩)
  (fun q hq=>⟨cz _ _ _ _ hq,cz _ _ _ _ hq⟩)
 exact⟨_,r.step (σ':=σ.dB n (.row gr m 1 (cu xs lo (pe.map fun c=>[c.er])))) rfl (fun _ h=>h) K tQ (r.fr.one qP (fun b' _ aC=>dQ b' aC) uL (mq _) (by rw[<-m7];rfl) (by rw[<-m7];rfl) (by rw[<-m7];rfl))⟩
end
end Go.Am
