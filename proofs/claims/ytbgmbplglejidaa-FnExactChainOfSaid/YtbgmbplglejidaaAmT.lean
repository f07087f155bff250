/- AmT: many elements of a row of ints are written at once. No condition. -/
import Derived.Test.YtbgmbplglejidaaAmS
set_option linter.unusedVariables false
namespace Go.Am
section
variable {B:Nat} {E:Ex} {w0 w w':World} {G G':Gh} {N:Nat} {h h':Nat->Option aq} {used:Nat->Bool}
variable {P:Program} {o:Oper} {a:Act} {σ σ':St} {Q:Exit->Act->World->Prop}
theorem R.YP (r:R B E w0 N σ a w G) {n:Nat} {gr:Bool} {m:Mode} {xs:List (List C)} (hn:σ.h n=some (.row gr m 1 xs)) (hm:m≠ .aO) (hs:fQ xs=true) (aR:(G.g n).nl=false) {lo:Nat} {pe:List PC}
  (oT:∀c∈pe,c.er.eF=true) (g0:lo+pe.length<=xs.length) {cur:Array Value} {et:TypeId} (hg:w.heap[(G.g n).b]? =some (.cells cur et (0,0))) (lH:(G.g n).o+lo+pe.length<=cur.size):
  ∃G',R B E w0 N (σ.du n (.row gr m 1 (bX xs lo (pe.map fun c=>[c.er])))) a (eG w (G.g n).b ((G.g n).o+lo) (pe.map PC.val) cur) G':=by
 have H:=r.hr
 have hr:=H.row n gr m 1 xs hn
 have bJ:σ.h n≠none:=by rw[hn];simp
 obtain⟨rz,qe,rA⟩:=H.own n bJ aR
 obtain⟨l1,l2,l3⟩:=hr.dT aR
 have qg:xs.length=(G.g n).px.length:=by rw[hr.er,List.length_map]
 have jQ:=hs
 rw[hr.er] at jQ
 have ur:=hr.er
 generalize fB:(G.g n).px=px at*
 have OY:lo+(pe.map fun c=>[c]).length<=px.length:=by rw[List.length_map];omega
 have lK:(pe.map PC.val).length=pe.length:=List.length_map _
 have Zw:(G.g n).o+lo+(pe.map PC.val).length<=cur.size:=by rw[lK];exact lH
 have cV:∀k j c,At (bX px lo (pe.map fun c=>[c])) k j c->j=0/\((lo<=k/\k<lo+pe.length/\pe[k - lo]? =some c)\/(¬(lo<=k/\k<lo+pe.length)/\At px k j c)):=by
  rintro k j c ⟨e,he,hj⟩
  rw[xm OY,List.length_map] at he
  by_cases ga:lo<=k/\k<lo+pe.length
  ·rw[if_pos ga,List.getElem?_map] at he
   cases hp:pe[k - lo]? with
   |none=>rw[hp] at he;cases he
   |some c0=>
    rw[hp] at he
    injection he with he
    subst he
    cases j with
    |zero=>simp at hj;subst hj;exact⟨rfl,.inl ⟨ga.1,ga.2,rfl⟩⟩
    |succ j=>simp at hj
  ·rw[if_neg ga] at he
   have lJ:=l2.1 e (List.mem_of_getElem? he)
   have:=(List.getElem?_eq_some_iff.1 hj).1
   exact⟨by omega,.inr ⟨ga,e,he,hj⟩⟩
 have iW:∀k j c,At (bX px lo (pe.map fun c=>[c])) k j c->c.er.eF=true:=by
  intro k j c hk
  rcases(cV k j c hk).2 with⟨_,_,h1⟩|⟨_,e,he,hj⟩
  ·exact oT c (List.mem_of_getElem? h1)
  ·have h6:=List.all_eq_true.1 jQ (e.map PC.er) (by simp only[List.mem_map];exact⟨e,List.mem_of_getElem? he,rfl⟩)
   exact List.all_eq_true.1 h6 c.er (by simp only[List.mem_map];exact⟨c,List.mem_of_getElem? hj,rfl⟩)
 generalize mF:eG w (G.g n).b ((G.g n).o+lo) (pe.map PC.val) cur=w'
 have dJ:∀b',b'≠(G.g n).b->w'.heap[b']? =w.heap[b']? :=fun b' aW=>by rw[<-mF];exact zz b' aW
 have lI:∀b',Cz w w' b':=fun b'=>by
  by_cases hb:b'=(G.g n).b
  ·subst hb;rw[<-mF];exact CB hg Zw
  ·exact Cz.of_eq (dJ b' hb)
 have uC:w.heap.size<=w'.heap.size:=by rw[<-mF,qU];exact Nat.le_refl _
 have OR:FO w' (G.g n) {G.g n with px:=bX px lo (pe.map fun c=>[c])} gr m 1 (bX xs lo (pe.map fun c=>[c.er])):=by
  refine⟨hm,.inl (by rw[fB];exact Y2 jQ),rfl,rfl,rfl,rfl,rfl,?_,(fun h=>by rw[aR] at h;cases h),fun _=>⟨⟨fun e he=>?_,fun k j c hk=>?_,fun k j c hk=>Good.kP (iW k j c hk)⟩,by show(bX px lo _).length<=_;rw[Kq OY];exact l3⟩,
   ⟨fun k j c hk=>(Sep.kP (iW k j c hk)).1,fun k j c k' j' c' b hk _ _ hb=>absurd hb ((Sep.kP (iW k j c hk)).2 b)⟩,fun b ⟨k,j,c,hk,hb⟩=>absurd hb ((Sep.kP (iW k j c hk)).2 b),fun _ k j pc hk hL=>?_⟩
  ·show bX xs lo _=(bX px lo _).map _
   rw[Cm,<-ur,List.map_map]
   rfl
  ·obtain⟨k,hk⟩:=List.getElem?_of_mem he
   have cY:(bX px lo (pe.map fun c=>[c]))[k]? =some e:=hk
   rw[xm OY] at cY
   split at cY
   ·rw[List.getElem?_map] at cY
    cases hp:pe[k - lo]? with
    |none=>rw[hp] at cY;cases cY
    |some c0=>rw[hp] at cY;injection cY with cY;rw[<-cY];rfl
   ·exact l2.1 e (List.mem_of_getElem? cY)
  ·obtain⟨rfl,h1⟩:=cV k j c hk
   rw[<-mF,CA hg Zw]
   rcases h1 with⟨h1,h2,h3⟩|⟨h1,h2⟩
   ·rw[if_pos (by rw[lK];omega),show(G.g n).o+k*1+0 - ((G.g n).o+lo)=k - lo by omega,List.getElem?_map,h3]
    rfl
   ·rw[if_neg (by rw[lK];omega)]
    exact l2.2.1 _ _ _ h2
  ·rw[fB] at hk
   have:=Y3 jQ hk
   rw[hL] at this;cases this
 obtain⟨tE,K,_⟩:=H.JK (G':=⟨G.Im,ax G.g n {G.g n with px:=bX px lo (pe.map fun c=>[c])}⟩) (h':=ax σ.h n (some (.row gr m 1 (bX xs lo (pe.map fun c=>[c.er]))))) (w':=w') (S:=fun q=>q=n) uC
  (fun b' aW bS=>dJ b' (by rintro rfl;exact bS n rfl (.inl ⟨aR,rfl⟩))) (fun b' _=>lI b') rfl
  (fun q hq=>by subst hq;exact⟨gr,m,1,xs,_,hn,bE _ _ _,by simp only[bE];exact OR⟩)
  (fun q hq=>⟨cb _ _ _ _ hq,cb _ _ _ _ hq⟩)
 exact⟨_,r.step (σ':=σ.du n (.row gr m 1 (bX xs lo (pe.map fun c=>[c.er])))) rfl (fun _ h=>h) K tE (r.fr.one qe (fun b' _ aE=>dJ b' aE) uC (lI _) (by rw[<-mF];rfl) (by rw[<-mF];rfl) (by rw[<-mF];rfl))⟩
end
end Go.Am
