/- AmT: many elements of a row of ints are written at once. No condition. -/
import Derived.Test.YtbgmbplglejidaaAmS
set_option linter.unusedVariables false
namespace Go.Am
section
variable {B:Nat} {E:Ex} {w0 w w':World} {G G':Gh} {N:Nat} {h h':Nat->Option ar} {used:Nat->Bool}
variable {P:Program} {o:Oper} {a:Act} {σ σ':St} {Q:Exit->Act->World->Prop}
theorem R.ZG (r:R B E w0 N σ a w G) {n:Nat} {gr:Bool} {m:Mode} {xs:List (List C)} (hn:σ.h n=some (.row gr m 1 xs)) (hm:m≠ .aG) (hs:gv xs=true) (aN:(G.g n).nl=false) {lo:Nat} {pe:List PC}
  (pQ:∀c∈pe,c.er.eV=true) (fW:lo+pe.length<=xs.length) {cur:Array Value} {et:TypeId} (hg:w.heap[(G.g n).b]? =some (.cells cur et (0,0))) (mG:(G.g n).o+lo+pe.length<=cur.size):
  ∃G',R B E w0 N (σ.dB n (.row gr m 1 (cv xs lo (pe.map fun c=>[c.er])))) a (eX w (G.g n).b ((G.g n).o+lo) (pe.map PC.val) cur) G':=by
 have H:=r.hr
 have hr:=H.row n gr m 1 xs hn
 have bS:σ.h n≠none:=by rw[hn];simp
 obtain⟨se,qV,sf⟩:=H.own n bS aN
 obtain⟨l1,l2,l3⟩:=hr.dW aN
 have oS:xs.length=(G.g n).px.length:=by rw[hr.er,List.length_map]
 have kx:=hs
 rw[hr.er] at kx
 have uZ:=hr.er
 generalize fZ:(G.g n).px=px at*
 have PG:lo+(pe.map fun c=>[c]).length<=px.length:=by rw[List.length_map];omega
 have mI:(pe.map PC.val).length=pe.length:=List.length_map _
 have aan:(G.g n).o+lo+(pe.map PC.val).length<=cur.size:=by rw[mI];exact mG
 have bZ:∀k j c,At (cv px lo (pe.map fun c=>[c])) k j c->j=0/\((lo<=k/\k<lo+pe.length/\pe[k - lo]? =some c)\/(¬(lo<=k/\k<lo+pe.length)/\At px k j c)):=by
  rintro k j c ⟨e,he,hj⟩
  rw[xS PG,List.length_map] at he
  by_cases gf:lo<=k/\k<lo+pe.length
  ·rw[if_pos gf,List.getElem?_map] at he
   cases hp:pe[k - lo]? with
   |none=>rw[hp] at he;cases he
   |some c0=>
    rw[hp] at he
    injection he with he
    subst he
    cases j with
    |zero=>simp at hj;subst hj;exact⟨rfl,.inl ⟨gf.1,gf.2,rfl⟩⟩
    |succ j=>simp at hj
  ·rw[if_neg gf] at he
   have nU:=l2.1 e (List.mem_of_getElem? he)
   have:=(List.getElem?_eq_some_iff.1 hj).1
   exact⟨by omega,.inr ⟨gf,e,he,hj⟩⟩
 have jA:∀k j c,At (cv px lo (pe.map fun c=>[c])) k j c->c.er.eV=true:=by
  intro k j c hk
  rcases(bZ k j c hk).2 with⟨_,_,h1⟩|⟨_,e,he,hj⟩
  ·exact pQ c (List.mem_of_getElem? h1)
  ·have h6:=List.all_eq_true.1 kx (e.map PC.er) (by simp only[List.mem_map];exact⟨e,List.mem_of_getElem? he,rfl⟩)
   exact List.all_eq_true.1 h6 c.er (by simp only[List.mem_map];exact⟨c,List.mem_of_getElem? hj,rfl⟩)
 generalize nd:eX w (G.g n).b ((G.g n).o+lo) (pe.map PC.val) cur=w'
 have dS:∀b',b'≠(G.g n).b->w'.heap[b']? =w.heap[b']? :=fun b' be=>by rw[<-nd];exact AJ b' be
 have mH:∀b',Cz w w' b':=fun b'=>by
  by_cases hb:b'=(G.g n).b
  ·subst hb;rw[<-nd];exact DQ hg aan
  ·exact Cz.of_eq (dS b' hb)
 have vd:w.heap.size<=w'.heap.size:=by rw[<-nd,rJ];exact Nat.le_refl _
 have Px:GZ w' (G.g n) {G.g n with px:=cv px lo (pe.map fun c=>[c])} gr m 1 (cv xs lo (pe.map fun c=>[c.er])):=by
  refine⟨hm,.inl (by rw[fZ];exact ZS kx),rfl,rfl,rfl,rfl,rfl,?_,(fun h=>by rw[aN] at h;cases h),fun _=>⟨⟨fun e he=>?_,fun k j c hk=>?_,fun k j c hk=>Good.lS (jA k j c hk)⟩,by show(cv px lo _).length<=_;rw[LF PG];exact l3⟩,
   ⟨fun k j c hk=>(Sep.lS (jA k j c hk)).1,fun k j c k' j' c' b hk _ _ hb=>absurd hb ((Sep.lS (jA k j c hk)).2 b)⟩,fun b ⟨k,j,c,hk,hb⟩=>absurd hb ((Sep.lS (jA k j c hk)).2 b),fun _ k j pc hk hL=>?_⟩
  ·show cv xs lo _=(cv px lo _).map _
   rw[DA,<-uZ,List.map_map]
   rfl
  ·obtain⟨k,hk⟩:=List.getElem?_of_mem he
   have cI:(cv px lo (pe.map fun c=>[c]))[k]? =some e:=hk
   rw[xS PG] at cI
   split at cI
   ·rw[List.getElem?_map] at cI
    cases hp:pe[k - lo]? with
    |none=>rw[hp] at cI;cases cI
    |some c0=>rw[hp] at cI;injection cI with cI;rw[<-cI];rfl
   ·exact l2.1 e (List.mem_of_getElem? cI)
  ·obtain⟨rfl,h1⟩:=bZ k j c hk
   rw[<-nd,DP hg aan]
   rcases h1 with⟨h1,h2,h3⟩|⟨h1,h2⟩
   ·rw[if_pos (by rw[mI];omega),show(G.g n).o+k*1+0 - ((G.g n).o+lo)=k - lo by omega,List.getElem?_map,h3]
    rfl
   ·rw[if_neg (by rw[mI];omega)]
    exact l2.2.1 _ _ _ h2
  ·rw[fZ] at hk
   have:=ZT kx hk
   rw[hL] at this;cases this
 obtain⟨uo,K,_⟩:=H.KQ (G':=⟨G.Im,aA G.g n {G.g n with px:=cv px lo (pe.map fun c=>[c])}⟩) (h':=aA σ.h n (some (.row gr m 1 (cv xs lo (pe.map fun c=>[c.er]))))) (w':=w') (S:=fun q=>q=n) vd
  (fun b' be cm=>dS b' (by rintro rfl;exact cm n rfl (.inl ⟨aN,rfl⟩))) (fun b' _=>mH b') rfl
  (fun q hq=>by subst hq;exact⟨gr,m,1,xs,_,hn,bN _ _ _,by simp only[bN];exact Px⟩)
  (fun q hq=>⟨cE _ _ _ _ hq,cE _ _ _ _ hq⟩)
 exact⟨_,r.step (σ':=σ.dB n (.row gr m 1 (cv xs lo (pe.map fun c=>[c.er])))) rfl (fun _ h=>h) K uo (r.fr.one qV (fun b' _ aD=>dS b' aD) vd (mH _) (by rw[<-nd];rfl) (by rw[<-nd];rfl) (by rw[<-nd];rfl))⟩
end
end Go.Am
