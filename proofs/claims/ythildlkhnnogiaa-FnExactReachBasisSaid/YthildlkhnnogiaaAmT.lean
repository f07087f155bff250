/- AmT: many elements of a row of ints are written at once. No condition. -/
import Derived.Test.YthildlkhnnogiaaAmS
set_option linter.unusedVariables false
namespace Go.Am
section
variable {B:Nat} {E:Ex} {w0 w w':World} {G G':Gh} {N:Nat} {h h':Nat->Option aj} {used:Nat->Bool}
variable {P:Program} {o:Oper} {a:Act} {σ σ':St} {Q:Exit->Act->World->Prop}
theorem R.WK (r:R B E w0 N σ a w G) {n:Nat} {gr:Bool} {m:Mode} {xs:List (List C)} (hn:σ.h n=some (.row gr m 1 xs)) (hm:m≠ .aG) (hs:dd xs=true) (aD:(G.g n).nl=false) {lo:Nat} {pe:List PC}
  (lx:∀c∈pe,c.er.dL=true) (eP:lo+pe.length<=xs.length) {cur:Array Value} {et:TypeId} (hg:w.heap[(G.g n).b]? =some (.cells cur et (0,0))) (lv:(G.g n).o+lo+pe.length<=cur.size):
  ∃G',R B E w0 N (σ.cW n (.row gr m 1 (ci xs lo (pe.map fun c=>[c.er])))) a (dY w (G.g n).b ((G.g n).o+lo) (pe.map PC.val) cur) G':=by
 have H:=r.hr
 have hr:=H.row n gr m 1 xs hn
 have bi:σ.h n≠none:=by rw[hn];simp
 obtain⟨oe,nj,pu⟩:=H.own n bi aD
 obtain⟨l1,l2,l3⟩:=hr.cZ aD
 have nq:xs.length=(G.g n).px.length:=by rw[hr.er,List.length_map]
 have gX:=hs
 rw[hr.er] at gX
 have fz:=hr.er
 generalize dC:(G.g n).px=px at*
 have Oi:lo+(pe.map fun c=>[c]).length<=px.length:=by rw[List.length_map];omega
 have jq:(pe.map PC.val).length=pe.length:=List.length_map _
 have Xy:(G.g n).o+lo+(pe.map PC.val).length<=cur.size:=by rw[jq];exact lv
 have bW:∀k j c,At (ci px lo (pe.map fun c=>[c])) k j c->j=0/\((lo<=k/\k<lo+pe.length/\pe[k - lo]? =some c)\/(¬(lo<=k/\k<lo+pe.length)/\At px k j c)):=by
  rintro k j c ⟨e,he,hj⟩
  rw[yg Oi,List.length_map] at he
  by_cases dw:lo<=k/\k<lo+pe.length
  ·rw[if_pos dw,List.getElem?_map] at he
   cases hp:pe[k - lo]? with
   |none=>rw[hp] at he;cases he
   |some c0=>
    rw[hp] at he
    injection he with he
    subst he
    cases j with
    |zero=>simp at hj;subst hj;exact⟨rfl,.inl ⟨dw.1,dw.2,rfl⟩⟩
    |succ j=>simp at hj
  ·rw[if_neg dw] at he
   have jI:=l2.1 e (List.mem_of_getElem? he)
   have:=(List.getElem?_eq_some_iff.1 hj).1
   exact⟨by omega,.inr ⟨dw,e,he,hj⟩⟩
 have gy:∀k j c,At (ci px lo (pe.map fun c=>[c])) k j c->c.er.dL=true:=by
  intro k j c hk
  rcases(bW k j c hk).2 with⟨_,_,h1⟩|⟨_,e,he,hj⟩
  ·exact lx c (List.mem_of_getElem? h1)
  ·have h6:=List.all_eq_true.1 gX (e.map PC.er) (by simp only[List.mem_map];exact⟨e,List.mem_of_getElem? he,rfl⟩)
   exact List.all_eq_true.1 h6 c.er (by simp only[List.mem_map];exact⟨c,List.mem_of_getElem? hj,rfl⟩)
 generalize mB:dY w (G.g n).b ((G.g n).o+lo) (pe.map PC.val) cur=w'
 have cB:∀b',b'≠(G.g n).b->w'.heap[b']? =w.heap[b']? :=fun b' aE=>by rw[<-mB];exact ww b' aE
 have ik:∀b',Cz w w' b':=fun b'=>by
  by_cases hb:b'=(G.g n).b
  ·subst hb;rw[<-mB];exact yq hg Xy
  ·exact Cz.of_eq (cB b' hb)
 have ky:w.heap.size<=w'.heap.size:=by rw[<-mB,oO];exact Nat.le_refl _
 have Em:Ds w' (G.g n) {G.g n with px:=ci px lo (pe.map fun c=>[c])} gr m 1 (ci xs lo (pe.map fun c=>[c.er])):=by
  refine⟨hm,.inl (by rw[dC];exact WY gX),rfl,rfl,rfl,rfl,rfl,?_,(fun h=>by rw[aD] at h;cases h),fun _=>⟨⟨fun e he=>?_,fun k j c hk=>?_,fun k j c hk=>Good.fT (gy k j c hk)⟩,by show(ci px lo _).length<=_;rw[KC Oi];exact l3⟩,
   ⟨fun k j c hk=>(Sep.fT (gy k j c hk)).1,fun k j c k' j' c' b hk _ _ hb=>absurd hb ((Sep.fT (gy k j c hk)).2 b)⟩,fun b ⟨k,j,c,hk,hb⟩=>absurd hb ((Sep.fT (gy k j c hk)).2 b),fun _ k j pc hk hL=>?_,fun _ _ k c hk=>nR.fT (gy k _ c hk)⟩
  ·show ci xs lo _=(ci px lo _).map _
   rw[C5,<-fz,List.map_map]
   rfl
  ·obtain⟨k,hk⟩:=List.getElem?_of_mem he
   have bx:(ci px lo (pe.map fun c=>[c]))[k]? =some e:=hk
   rw[yg Oi] at bx
   split at bx
   ·rw[List.getElem?_map] at bx
    cases hp:pe[k - lo]? with
    |none=>rw[hp] at bx;cases bx
    |some c0=>rw[hp] at bx;injection bx with bx;rw[<-bx];rfl
   ·exact l2.1 e (List.mem_of_getElem? bx)
  ·obtain⟨rfl,h1⟩:=bW k j c hk
   rw[<-mB,wv hg Xy]
   rcases h1 with⟨h1,h2,h3⟩|⟨h1,h2⟩
   ·rw[if_pos (by rw[jq];omega),show(G.g n).o+k*1+0 - ((G.g n).o+lo)=k - lo by omega,List.getElem?_map,h3]
    rfl
   ·rw[if_neg (by rw[jq];omega)]
    exact l2.2.1 _ _ _ h2
  ·rw[dC] at hk
   have:=WZ gX hk
   rw[hL] at this;cases this
 obtain⟨rB,K,_⟩:=H.Fq (G':=⟨G.Im,ao G.g n {G.g n with px:=ci px lo (pe.map fun c=>[c])}⟩) (h':=ao σ.h n (some (.row gr m 1 (ci xs lo (pe.map fun c=>[c.er]))))) (w':=w') (S:=fun q=>q=n) ky
  (fun b' aE bG=>cB b' (by rintro rfl;exact bG n rfl (.inl ⟨aD,rfl⟩))) (fun b' _=>ik b') rfl
  (fun q hq=>by subst hq;exact⟨gr,m,1,xs,_,hn,bo _ _ _,by simp only[bo];exact Em⟩)
  (fun q hq=>⟨bP _ _ _ _ hq,bP _ _ _ _ hq⟩)
 exact⟨_,r.step (σ':=σ.cW n (.row gr m 1 (ci xs lo (pe.map fun c=>[c.er])))) rfl (fun _ h=>h) K rB (r.fr.one nj (fun b' _ av=>cB b' av) ky (ik _) (by rw[<-mB];rfl) (by rw[<-mB];rfl) (by rw[<-mB];rfl))⟩
end
end Go.Am
