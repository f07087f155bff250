/- AmT: many elements of a row of ints are written at once. No condition. -/
import Derived.Test.YtifmggmhdcdgbaaAmS
set_option linter.unusedVariables false
namespace Go.Am
section
variable {B:Nat} {E:Ex} {w0 w w':World} {G G':Gh} {N:Nat} {h h':Nat->Option ar} {used:Nat->Bool}
variable {P:Program} {o:Oper} {a:Act} {σ σ':St} {Q:Exit->Act->World->Prop}
theorem R.W8 (r:R B E w0 N σ a w G) {n:Nat} {gr:Bool} {m:Mode} {xs:List (List C)} (hn:σ.h n=some (.row gr m 1 xs)) (hm:m≠ .aA) (hs:fN xs=true) (aM:(G.g n).nl=false) {lo:Nat} {pe:List PC}
  (oN:∀c∈pe,c.er.d7=true) (gO:lo+pe.length<=xs.length) {cur:Array Value} {et:TypeId} (hg:w.heap[(G.g n).b]? =some (.cells cur et (0,0))) (lr:(G.g n).o+lo+pe.length<=cur.size):
  ∃G',R B E w0 N (σ.dc n (.row gr m 1 (bS xs lo (pe.map fun c=>[c.er])))) a (d8 w (G.g n).b ((G.g n).o+lo) (pe.map PC.val) cur) G':=by
 have H:=r.hr
 have hr:=H.row n gr m 1 xs hn
 have bJ:σ.h n≠none:=by rw[hn];simp
 obtain⟨rl,pP,rm⟩:=H.own n bJ aM
 obtain⟨l1,l2,l3⟩:=hr.dD aM
 have pV:xs.length=(G.g n).px.length:=by rw[hr.er,List.length_map]
 have jL:=hs
 rw[hr.er] at jL
 have uw:=hr.er
 generalize fx:(G.g n).px=px at*
 have Oh:lo+(pe.map fun c=>[c]).length<=px.length:=by rw[List.length_map];omega
 have ly:(pe.map PC.val).length=pe.length:=List.length_map _
 have XQ:(G.g n).o+lo+(pe.map PC.val).length<=cur.size:=by rw[ly];exact lr
 have cr:∀k j c,At (bS px lo (pe.map fun c=>[c])) k j c->j=0/\((lo<=k/\k<lo+pe.length/\pe[k - lo]? =some c)\/(¬(lo<=k/\k<lo+pe.length)/\At px k j c)):=by
  rintro k j c ⟨e,he,hj⟩
  rw[xo Oh,List.length_map] at he
  by_cases fh:lo<=k/\k<lo+pe.length
  ·rw[if_pos fh,List.getElem?_map] at he
   cases hp:pe[k - lo]? with
   |none=>rw[hp] at he;cases he
   |some c0=>
    rw[hp] at he
    injection he with he
    subst he
    cases j with
    |zero=>simp at hj;subst hj;exact⟨rfl,.inl ⟨fh.1,fh.2,rfl⟩⟩
    |succ j=>simp at hj
  ·rw[if_neg fh] at he
   have mN:=l2.1 e (List.mem_of_getElem? he)
   have:=(List.getElem?_eq_some_iff.1 hj).1
   exact⟨by omega,.inr ⟨fh,e,he,hj⟩⟩
 have iY:∀k j c,At (bS px lo (pe.map fun c=>[c])) k j c->c.er.d7=true:=by
  intro k j c hk
  rcases(cr k j c hk).2 with⟨_,_,h1⟩|⟨_,e,he,hj⟩
  ·exact oN c (List.mem_of_getElem? h1)
  ·have h6:=List.all_eq_true.1 jL (e.map PC.er) (by simp only[List.mem_map];exact⟨e,List.mem_of_getElem? he,rfl⟩)
   exact List.all_eq_true.1 h6 c.er (by simp only[List.mem_map];exact⟨c,List.mem_of_getElem? hj,rfl⟩)
 generalize mb:d8 w (G.g n).b ((G.g n).o+lo) (pe.map PC.val) cur=w'
 have eF:∀b',b'≠(G.g n).b->w'.heap[b']? =w.heap[b']? :=fun b' aT=>by rw[<-mb];exact zC b' aT
 have lv:∀b',Cz w w' b':=fun b'=>by
  by_cases hb:b'=(G.g n).b
  ·subst hb;rw[<-mb];exact CJ hg XQ
  ·exact Cz.of_eq (eF b' hb)
 have uE:w.heap.size<=w'.heap.size:=by rw[<-mb,qK];exact Nat.le_refl _
 have N8:FO w' (G.g n) {G.g n with px:=bS px lo (pe.map fun c=>[c])} gr m 1 (bS xs lo (pe.map fun c=>[c.er])):=by
  refine⟨hm,.inl (by rw[fx];exact Xk jL),rfl,rfl,rfl,rfl,rfl,?_,(fun h=>by rw[aM] at h;cases h),fun _=>⟨⟨fun e he=>?_,fun k j c hk=>?_,fun k j c hk=>Good.kK (iY k j c hk)⟩,by show(bS px lo _).length<=_;rw[KW Oh];exact l3⟩,
   ⟨fun k j c hk=>(Sep.kK (iY k j c hk)).1,fun k j c k' j' c' b hk _ _ hb=>absurd hb ((Sep.kK (iY k j c hk)).2 b)⟩,fun b ⟨k,j,c,hk,hb⟩=>absurd hb ((Sep.kK (iY k j c hk)).2 b),fun _ k j pc hk hL=>?_⟩
  ·show bS xs lo _=(bS px lo _).map _
   rw[Ct,<-uw,List.map_map]
   rfl
  ·obtain⟨k,hk⟩:=List.getElem?_of_mem he
   have cX:(bS px lo (pe.map fun c=>[c]))[k]? =some e:=hk
   rw[xo Oh] at cX
   split at cX
   ·rw[List.getElem?_map] at cX
    cases hp:pe[k - lo]? with
    |none=>rw[hp] at cX;cases cX
    |some c0=>rw[hp] at cX;injection cX with cX;rw[<-cX];rfl
   ·exact l2.1 e (List.mem_of_getElem? cX)
  ·obtain⟨rfl,h1⟩:=cr k j c hk
   rw[<-mb,CI hg XQ]
   rcases h1 with⟨h1,h2,h3⟩|⟨h1,h2⟩
   ·rw[if_pos (by rw[ly];omega),show(G.g n).o+k*1+0 - ((G.g n).o+lo)=k - lo by omega,List.getElem?_map,h3]
    rfl
   ·rw[if_neg (by rw[ly];omega)]
    exact l2.2.1 _ _ _ h2
  ·rw[fx] at hk
   have:=Xl jL hk
   rw[hL] at this;cases this
 obtain⟨xP,K,_⟩:=H.Rr (G':=⟨G.Im,aw G.g n {G.g n with px:=bS px lo (pe.map fun c=>[c])}⟩) (h':=aw σ.h n (some (.row gr m 1 (bS xs lo (pe.map fun c=>[c.er]))))) (w':=w') (S:=fun q=>q=n) uE
  (fun b' aT cb=>eF b' (by rintro rfl;exact cb n rfl (.inl ⟨aM,rfl⟩))) (fun b' _=>lv b') rfl
  (fun q hq=>by subst hq;exact⟨gr,m,1,xs,_,hn,bA _ _ _,by simp only[bA];exact N8⟩)
  (fun q hq=>⟨bZ _ _ _ _ hq,bZ _ _ _ _ hq⟩)
 exact⟨_,r.step (σ':=σ.dc n (.row gr m 1 (bS xs lo (pe.map fun c=>[c.er])))) rfl (fun _ h=>h) K xP (r.fr.one pP (fun b' _ ax=>eF b' ax) uE (lv _) (by rw[<-mb];rfl) (by rw[<-mb];rfl) (by rw[<-mb];rfl))⟩
end
end Go.Am
