/- AmT: many elements of a row of ints are written at once. No condition. -/
import Derived.Test.YtifmggmhdcdgbaaAmS
set_option linter.unusedVariables false
namespace Go.Am
section
variable {B:Nat} {E:Ex} {w0 w w':World} {G G':Gh} {N:Nat} {h h':Nat->Option aq} {used:Nat->Bool}
variable {P:Program} {o:Oper} {a:Act} {σ σ':St} {Q:Exit->Act->World->Prop}
theorem R.UA (r:R B E w0 N σ a w G) {n:Nat} {gr:Bool} {m:Mode} {xs:List (List C)} (hn:σ.h n=some (.row gr m 1 xs)) (hm:m≠ .aA) (hs:fB xs=true) (aK:(G.g n).nl=false) {lo:Nat} {pe:List PC}
  (n7:∀c∈pe,c.er.dT=true) (gD:lo+pe.length<=xs.length) {cur:Array Value} {et:TypeId} (hg:w.heap[(G.g n).b]? =some (.cells cur et (0,0))) (kY:(G.g n).o+lo+pe.length<=cur.size):
  ∃G',R B E w0 N (σ.dd n (.row gr m 1 (bW xs lo (pe.map fun c=>[c.er])))) a (dU w (G.g n).b ((G.g n).o+lo) (pe.map PC.val) cur) G':=by
 have H:=r.hr
 have hr:=H.row n gr m 1 xs hn
 have bM:σ.h n≠none:=by rw[hn];simp
 obtain⟨qE,po,qF⟩:=H.own n bM aK
 obtain⟨l1,l2,l3⟩:=hr.dB aK
 have pt:xs.length=(G.g n).px.length:=by rw[hr.er,List.length_map]
 have jp:=hs
 rw[hr.er] at jp
 have tq:=hr.er
 generalize fj:(G.g n).px=px at*
 have LM:lo+(pe.map fun c=>[c]).length<=px.length:=by rw[List.length_map];omega
 have k8:(pe.map PC.val).length=pe.length:=List.length_map _
 have Vo:(G.g n).o+lo+(pe.map PC.val).length<=cur.size:=by rw[k8];exact kY
 have cu:∀k j c,At (bW px lo (pe.map fun c=>[c])) k j c->j=0/\((lo<=k/\k<lo+pe.length/\pe[k - lo]? =some c)\/(¬(lo<=k/\k<lo+pe.length)/\At px k j c)):=by
  rintro k j c ⟨e,he,hj⟩
  rw[wb LM,List.length_map] at he
  by_cases eo:lo<=k/\k<lo+pe.length
  ·rw[if_pos eo,List.getElem?_map] at he
   cases hp:pe[k - lo]? with
   |none=>rw[hp] at he;cases he
   |some c0=>
    rw[hp] at he
    injection he with he
    subst he
    cases j with
    |zero=>simp at hj;subst hj;exact⟨rfl,.inl ⟨eo.1,eo.2,rfl⟩⟩
    |succ j=>simp at hj
  ·rw[if_neg eo] at he
   have mG:=l2.1 e (List.mem_of_getElem? he)
   have:=(List.getElem?_eq_some_iff.1 hj).1
   exact⟨by omega,.inr ⟨eo,e,he,hj⟩⟩
 have iD:∀k j c,At (bW px lo (pe.map fun c=>[c])) k j c->c.er.dT=true:=by
  intro k j c hk
  rcases(cu k j c hk).2 with⟨_,_,h1⟩|⟨_,e,he,hj⟩
  ·exact n7 c (List.mem_of_getElem? h1)
  ·have h6:=List.all_eq_true.1 jp (e.map PC.er) (by simp only[List.mem_map];exact⟨e,List.mem_of_getElem? he,rfl⟩)
   exact List.all_eq_true.1 h6 c.er (by simp only[List.mem_map];exact⟨c,List.mem_of_getElem? hj,rfl⟩)
 generalize lP:dU w (G.g n).b ((G.g n).o+lo) (pe.map PC.val) cur=w'
 have ez:∀b',b'≠(G.g n).b->w'.heap[b']? =w.heap[b']? :=fun b' aR=>by rw[<-lP];exact yP b' aR
 have kZ:∀b',Cz w w' b':=fun b'=>by
  by_cases hb:b'=(G.g n).b
  ·subst hb;rw[<-lP];exact BE hg Vo
  ·exact Cz.of_eq (ez b' hb)
 have tE:w.heap.size<=w'.heap.size:=by rw[<-lP,qe];exact Nat.le_refl _
 have LD:Ev w' (G.g n) {G.g n with px:=bW px lo (pe.map fun c=>[c])} gr m 1 (bW xs lo (pe.map fun c=>[c.er])):=by
  refine⟨hm,.inl (by rw[fj];exact UL jp),rfl,rfl,rfl,rfl,rfl,?_,(fun h=>by rw[aK] at h;cases h),fun _=>⟨⟨fun e he=>?_,fun k j c hk=>?_,fun k j c hk=>Good.kA (iD k j c hk)⟩,by show(bW px lo _).length<=_;rw[IK LM];exact l3⟩,
   ⟨fun k j c hk=>(Sep.kA (iD k j c hk)).1,fun k j c k' j' c' b hk _ _ hb=>absurd hb ((Sep.kA (iD k j c hk)).2 b)⟩,fun b ⟨k,j,c,hk,hb⟩=>absurd hb ((Sep.kA (iD k j c hk)).2 b),fun _ k j pc hk hL=>?_⟩
  ·show bW xs lo _=(bW px lo _).map _
   rw[Bo,<-tq,List.map_map]
   rfl
  ·obtain⟨k,hk⟩:=List.getElem?_of_mem he
   have cW:(bW px lo (pe.map fun c=>[c]))[k]? =some e:=hk
   rw[wb LM] at cW
   split at cW
   ·rw[List.getElem?_map] at cW
    cases hp:pe[k - lo]? with
    |none=>rw[hp] at cW;cases cW
    |some c0=>rw[hp] at cW;injection cW with cW;rw[<-cW];rfl
   ·exact l2.1 e (List.mem_of_getElem? cW)
  ·obtain⟨rfl,h1⟩:=cu k j c hk
   rw[<-lP,BD hg Vo]
   rcases h1 with⟨h1,h2,h3⟩|⟨h1,h2⟩
   ·rw[if_pos (by rw[k8];omega),show(G.g n).o+k*1+0 - ((G.g n).o+lo)=k - lo by omega,List.getElem?_map,h3]
    rfl
   ·rw[if_neg (by rw[k8];omega)]
    exact l2.2.1 _ _ _ h2
  ·rw[fj] at hk
   have:=UM jp hk
   rw[hL] at this;cases this
 obtain⟨wJ,K,_⟩:=H.Pj (G':=⟨G.Im,au G.g n {G.g n with px:=bW px lo (pe.map fun c=>[c])}⟩) (h':=au σ.h n (some (.row gr m 1 (bW xs lo (pe.map fun c=>[c.er]))))) (w':=w') (S:=fun q=>q=n) tE
  (fun b' aR cf=>ez b' (by rintro rfl;exact cf n rfl (.inl ⟨aK,rfl⟩))) (fun b' _=>kZ b') rfl
  (fun q hq=>by subst hq;exact⟨gr,m,1,xs,_,hn,bC _ _ _,by simp only[bC];exact LD⟩)
  (fun q hq=>⟨cb _ _ _ _ hq,cb _ _ _ _ hq⟩)
 exact⟨_,r.step (σ':=σ.dd n (.row gr m 1 (bW xs lo (pe.map fun c=>[c.er])))) rfl (fun _ h=>h) K wJ (r.fr.one po (fun b' _ aw=>ez b' aw) tE (kZ _) (by rw[<-lP];rfl) (by rw[<-lP];rfl) (by rw[<-lP];rfl))⟩
end
end Go.Am
