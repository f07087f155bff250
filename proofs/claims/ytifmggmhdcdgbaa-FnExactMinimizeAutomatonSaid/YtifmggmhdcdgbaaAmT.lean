/- AmT: many elements of a row of ints are written at once. No condition. -/
import Derived.Test.YtifmggmhdcdgbaaAmS
set_option linter.unusedVariables false
namespace Go.Am
section
variable {B:Nat} {E:Ex} {w0 w w':World} {G G':Gh} {N:Nat} {h h':Nat->Option aq} {used:Nat->Bool}
variable {P:Program} {o:Oper} {a:Act} {σ σ':St} {Q:Exit->Act->World->Prop}
theorem R.Vf (r:R B E w0 N σ a w G) {n:Nat} {gr:Bool} {m:Mode} {xs:List (List C)} (hn:σ.h n=some (.row gr m 1 xs)) (hm:m≠ .aF) (hs:fQ xs=true) (aO:(G.g n).nl=false) {lo:Nat} {pe:List PC}
  (oY:∀c∈pe,c.er.eD=true) (g8:lo+pe.length<=xs.length) {cur:Array Value} {et:TypeId} (hg:w.heap[(G.g n).b]? =some (.cells cur et (0,0))) (lL:(G.g n).o+lo+pe.length<=cur.size):
  ∃G',R B E w0 N (σ.dv n (.row gr m 1 (bV xs lo (pe.map fun c=>[c.er])))) a (eE w (G.g n).b ((G.g n).o+lo) (pe.map PC.val) cur) G':=by
 have H:=r.hr
 have hr:=H.row n gr m 1 xs hn
 have bN:σ.h n≠none:=by rw[hn];simp
 obtain⟨q9,p9,ra⟩:=H.own n bN aO
 obtain⟨l1,l2,l3⟩:=hr.dE aO
 have qb:xs.length=(G.g n).px.length:=by rw[hr.er,List.length_map]
 have j0:=hs
 rw[hr.er] at j0
 have tP:=hr.er
 generalize fz:(G.g n).px=px at*
 have MA:lo+(pe.map fun c=>[c]).length<=px.length:=by rw[List.length_map];omega
 have lO:(pe.map PC.val).length=pe.length:=List.length_map _
 have VW:(G.g n).o+lo+(pe.map PC.val).length<=cur.size:=by rw[lO];exact lL
 have cP:∀k j c,At (bV px lo (pe.map fun c=>[c])) k j c->j=0/\((lo<=k/\k<lo+pe.length/\pe[k - lo]? =some c)\/(¬(lo<=k/\k<lo+pe.length)/\At px k j c)):=by
  rintro k j c ⟨e,he,hj⟩
  rw[wE MA,List.length_map] at he
  by_cases fG:lo<=k/\k<lo+pe.length
  ·rw[if_pos fG,List.getElem?_map] at he
   cases hp:pe[k - lo]? with
   |none=>rw[hp] at he;cases he
   |some c0=>
    rw[hp] at he
    injection he with he
    subst he
    cases j with
    |zero=>simp at hj;subst hj;exact⟨rfl,.inl ⟨fG.1,fG.2,rfl⟩⟩
    |succ j=>simp at hj
  ·rw[if_neg fG] at he
   have nk:=l2.1 e (List.mem_of_getElem? he)
   have:=(List.getElem?_eq_some_iff.1 hj).1
   exact⟨by omega,.inr ⟨fG,e,he,hj⟩⟩
 have je:∀k j c,At (bV px lo (pe.map fun c=>[c])) k j c->c.er.eD=true:=by
  intro k j c hk
  rcases(cP k j c hk).2 with⟨_,_,h1⟩|⟨_,e,he,hj⟩
  ·exact oY c (List.mem_of_getElem? h1)
  ·have h6:=List.all_eq_true.1 j0 (e.map PC.er) (by simp only[List.mem_map];exact⟨e,List.mem_of_getElem? he,rfl⟩)
   exact List.all_eq_true.1 h6 c.er (by simp only[List.mem_map];exact⟨c,List.mem_of_getElem? hj,rfl⟩)
 generalize mF:eE w (G.g n).b ((G.g n).o+lo) (pe.map PC.val) cur=w'
 have eP:∀b',b'≠(G.g n).b->w'.heap[b']? =w.heap[b']? :=fun b' aX=>by rw[<-mF];exact yN b' aX
 have lM:∀b',Cz w w' b':=fun b'=>by
  by_cases hb:b'=(G.g n).b
  ·subst hb;rw[<-mF];exact BK hg VW
  ·exact Cz.of_eq (eP b' hb)
 have tZ:w.heap.size<=w'.heap.size:=by rw[<-mF,qJ];exact Nat.le_refl _
 have Mt:Ez w' (G.g n) {G.g n with px:=bV px lo (pe.map fun c=>[c])} gr m 1 (bV xs lo (pe.map fun c=>[c.er])):=by
  refine⟨hm,.inl (by rw[fz];exact Vq j0),rfl,rfl,rfl,rfl,rfl,?_,(fun h=>by rw[aO] at h;cases h),fun _=>⟨⟨fun e he=>?_,fun k j c hk=>?_,fun k j c hk=>Good.lc (je k j c hk)⟩,by show(bV px lo _).length<=_;rw[I6 MA];exact l3⟩,
   ⟨fun k j c hk=>(Sep.lc (je k j c hk)).1,fun k j c k' j' c' b hk _ _ hb=>absurd hb ((Sep.lc (je k j c hk)).2 b)⟩,fun b ⟨k,j,c,hk,hb⟩=>absurd hb ((Sep.lc (je k j c hk)).2 b),fun _ k j pc hk hL=>?_⟩
  ·show bV xs lo _=(bV px lo _).map _
   rw[Bu,<-tP,List.map_map]
   rfl
  ·obtain⟨k,hk⟩:=List.getElem?_of_mem he
   have da:(bV px lo (pe.map fun c=>[c]))[k]? =some e:=hk
   rw[wE MA] at da
   split at da
   ·rw[List.getElem?_map] at da
    cases hp:pe[k - lo]? with
    |none=>rw[hp] at da;cases da
    |some c0=>rw[hp] at da;injection da with da;rw[<-da];rfl
   ·exact l2.1 e (List.mem_of_getElem? da)
  ·obtain⟨rfl,h1⟩:=cP k j c hk
   rw[<-mF,BJ hg VW]
   rcases h1 with⟨h1,h2,h3⟩|⟨h1,h2⟩
   ·rw[if_pos (by rw[lO];omega),show(G.g n).o+k*1+0 - ((G.g n).o+lo)=k - lo by omega,List.getElem?_map,h3]
    rfl
   ·rw[if_neg (by rw[lO];omega)]
    exact l2.2.1 _ _ _ h2
  ·rw[fz] at hk
   have:=Vr j0 hk
   rw[hL] at this;cases this
 obtain⟨w5,K,_⟩:=H.Py (G':=⟨G.Im,av G.g n {G.g n with px:=bV px lo (pe.map fun c=>[c])}⟩) (h':=av σ.h n (some (.row gr m 1 (bV xs lo (pe.map fun c=>[c.er]))))) (w':=w') (S:=fun q=>q=n) tZ
  (fun b' aX ct=>eP b' (by rintro rfl;exact ct n rfl (.inl ⟨aO,rfl⟩))) (fun b' _=>lM b') rfl
  (fun q hq=>by subst hq;exact⟨gr,m,1,xs,_,hn,bD _ _ _,by simp only[bD];exact Mt⟩)
  (fun q hq=>⟨cd _ _ _ _ hq,cd _ _ _ _ hq⟩)
 exact⟨_,r.step (σ':=σ.dv n (.row gr m 1 (bV xs lo (pe.map fun c=>[c.er])))) rfl (fun _ h=>h) K w5 (r.fr.one p9 (fun b' _ aC=>eP b' aC) tZ (lM _) (by rw[<-mF];rfl) (by rw[<-mF];rfl) (by rw[<-mF];rfl))⟩
end
end Go.Am
