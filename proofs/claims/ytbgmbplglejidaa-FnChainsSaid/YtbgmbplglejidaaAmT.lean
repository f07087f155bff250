/- AmT: many elements of a row of ints are written at once. No condition. -/
import Derived.Test.YtbgmbplglejidaaAmS
set_option linter.unusedVariables false
namespace Go.Am
section
variable {B:Nat} {E:Ex} {w0 w w':World} {G G':Gh} {N:Nat} {h h':Nat->Option ao} {used:Nat->Bool}
variable {P:Program} {o:Oper} {a:Act} {σ σ':St} {Q:Exit->Act->World->Prop}
theorem R.XN (r:R B E w0 N σ a w G) {n:Nat} {gr:Bool} {m:Mode} {xs:List (List C)} (hn:σ.h n=some (.row gr m 1 xs)) (hm:m≠ .aD) (hs:fZ xs=true) (aL:(G.g n).nl=false) {lo:Nat} {pe:List PC}
  (oS:∀c∈pe,c.er.eN=true) (gh:lo+pe.length<=xs.length) {cur:Array Value} {et:TypeId} (hg:w.heap[(G.g n).b]? =some (.cells cur et (0,0))) (lD:(G.g n).o+lo+pe.length<=cur.size):
  ∃G',R B E w0 N (σ.dn n (.row gr m 1 (cj xs lo (pe.map fun c=>[c.er])))) a (eO w (G.g n).b ((G.g n).o+lo) (pe.map PC.val) cur) G':=by
 have H:=r.hr
 have hr:=H.row n gr m 1 xs hn
 have bM:σ.h n≠none:=by rw[hn];simp
 obtain⟨ry,qf,rz⟩:=H.own n bM aL
 obtain⟨l1,l2,l3⟩:=hr.dR aL
 have qh:xs.length=(G.g n).px.length:=by rw[hr.er,List.length_map]
 have jT:=hs
 rw[hr.er] at jT
 have ud:=hr.er
 generalize fL:(G.g n).px=px at*
 have Od:lo+(pe.map fun c=>[c]).length<=px.length:=by rw[List.length_map];omega
 have lG:(pe.map PC.val).length=pe.length:=List.length_map _
 have YE:(G.g n).o+lo+(pe.map PC.val).length<=cur.size:=by rw[lG];exact lD
 have cf:∀k j c,At (cj px lo (pe.map fun c=>[c])) k j c->j=0/\((lo<=k/\k<lo+pe.length/\pe[k - lo]? =some c)\/(¬(lo<=k/\k<lo+pe.length)/\At px k j c)):=by
  rintro k j c ⟨e,he,hj⟩
  rw[w7 Od,List.length_map] at he
  by_cases fx:lo<=k/\k<lo+pe.length
  ·rw[if_pos fx,List.getElem?_map] at he
   cases hp:pe[k - lo]? with
   |none=>rw[hp] at he;cases he
   |some c0=>
    rw[hp] at he
    injection he with he
    subst he
    cases j with
    |zero=>simp at hj;subst hj;exact⟨rfl,.inl ⟨fx.1,fx.2,rfl⟩⟩
    |succ j=>simp at hj
  ·rw[if_neg fx] at he
   have lF:=l2.1 e (List.mem_of_getElem? he)
   have:=(List.getElem?_eq_some_iff.1 hj).1
   exact⟨by omega,.inr ⟨fx,e,he,hj⟩⟩
 have ja:∀k j c,At (cj px lo (pe.map fun c=>[c])) k j c->c.er.eN=true:=by
  intro k j c hk
  rcases(cf k j c hk).2 with⟨_,_,h1⟩|⟨_,e,he,hj⟩
  ·exact oS c (List.mem_of_getElem? h1)
  ·have h6:=List.all_eq_true.1 jT (e.map PC.er) (by simp only[List.mem_map];exact⟨e,List.mem_of_getElem? he,rfl⟩)
   exact List.all_eq_true.1 h6 c.er (by simp only[List.mem_map];exact⟨c,List.mem_of_getElem? hj,rfl⟩)
 generalize mH:eO w (G.g n).b ((G.g n).o+lo) (pe.map PC.val) cur=w'
 have dN:∀b',b'≠(G.g n).b->w'.heap[b']? =w.heap[b']? :=fun b' aY=>by rw[<-mH];exact zx b' aY
 have lE:∀b',Cz w w' b':=fun b'=>by
  by_cases hb:b'=(G.g n).b
  ·subst hb;rw[<-mH];exact Cy hg YE
  ·exact Cz.of_eq (dN b' hb)
 have uo:w.heap.size<=w'.heap.size:=by rw[<-mH,qS];exact Nat.le_refl _
 have N6:FC w' (G.g n) {G.g n with px:=cj px lo (pe.map fun c=>[c])} gr m 1 (cj xs lo (pe.map fun c=>[c.er])):=by
  refine⟨hm,.inl (by rw[fL];exact XZ jT),rfl,rfl,rfl,rfl,rfl,?_,(fun h=>by rw[aL] at h;cases h),fun _=>⟨⟨fun e he=>?_,fun k j c hk=>?_,fun k j c hk=>Good.kP (ja k j c hk)⟩,by show(cj px lo _).length<=_;rw[Kf Od];exact l3⟩,
   ⟨fun k j c hk=>(Sep.kP (ja k j c hk)).1,fun k j c k' j' c' b hk _ _ hb=>absurd hb ((Sep.kP (ja k j c hk)).2 b)⟩,fun b ⟨k,j,c,hk,hb⟩=>absurd hb ((Sep.kP (ja k j c hk)).2 b),fun _ k j pc hk hL=>?_⟩
  ·show cj xs lo _=(cj px lo _).map _
   rw[Ck,<-ud,List.map_map]
   rfl
  ·obtain⟨k,hk⟩:=List.getElem?_of_mem he
   have cW:(cj px lo (pe.map fun c=>[c]))[k]? =some e:=hk
   rw[w7 Od] at cW
   split at cW
   ·rw[List.getElem?_map] at cW
    cases hp:pe[k - lo]? with
    |none=>rw[hp] at cW;cases cW
    |some c0=>rw[hp] at cW;injection cW with cW;rw[<-cW];rfl
   ·exact l2.1 e (List.mem_of_getElem? cW)
  ·obtain⟨rfl,h1⟩:=cf k j c hk
   rw[<-mH,Cx hg YE]
   rcases h1 with⟨h1,h2,h3⟩|⟨h1,h2⟩
   ·rw[if_pos (by rw[lG];omega),show(G.g n).o+k*1+0 - ((G.g n).o+lo)=k - lo by omega,List.getElem?_map,h3]
    rfl
   ·rw[if_neg (by rw[lG];omega)]
    exact l2.2.1 _ _ _ h2
  ·rw[fL] at hk
   have:=X0 jT hk
   rw[hL] at this;cases this
 obtain⟨tx,K,_⟩:=H.Jw (G':=⟨G.Im,au G.g n {G.g n with px:=cj px lo (pe.map fun c=>[c])}⟩) (h':=au σ.h n (some (.row gr m 1 (cj xs lo (pe.map fun c=>[c.er]))))) (w':=w') (S:=fun q=>q=n) uo
  (fun b' aY ca=>dN b' (by rintro rfl;exact ca n rfl (.inl ⟨aL,rfl⟩))) (fun b' _=>lE b') rfl
  (fun q hq=>by subst hq;exact⟨gr,m,1,xs,_,hn,bF _ _ _,by simp only[bF];exact N6⟩)
  (fun q hq=>⟨cq _ _ _ _ hq,cq _ _ _ _ hq⟩)
 exact⟨_,r.step (σ':=σ.dn n (.row gr m 1 (cj xs lo (pe.map fun c=>[c.er])))) rfl (fun _ h=>h) K tx (r.fr.one qf (fun b' _ aB=>dN b' aB) uo (lE _) (by rw[<-mH];rfl) (by rw[<-mH];rfl) (by rw[<-mH];rfl))⟩
end
end Go.Am
