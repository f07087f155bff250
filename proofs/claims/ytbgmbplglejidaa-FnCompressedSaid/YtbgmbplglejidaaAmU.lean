/- AmU: the builtins copy and clear on lists of ints. No condition. -/
import Derived.Test.YtbgmbplglejidaaAmT
set_option linter.unusedVariables false
namespace Go.Am
section
variable {B:Nat} {E:Ex} {w0 w w':World} {G G':Gh} {N:Nat} {h h':Nat->Option ao} {used:Nat->Bool}
variable {P:Program} {o:Oper} {a:Act} {σ σ':St} {Q:Exit->Act->World->Prop}
theorem abq {α:Type}:∀{py:List (List α)},(∀e∈py,e.length=1)->py=py.flatten.map fun c=>[c]
 |[],_=>rfl
 |e::py,h=>by
  have h1:=h e (by simp)
  match e,h1 with
  |[c],_=>
   rw[List.flatten_cons,List.map_append,<-abq (py:=py) fun e he=>h e (by simp[he])]
   rfl
theorem acA {n:Nat} {b:ao} (hn:σ.h n=some b):σ.dB n b=σ:=by
 unfold St.dB
 rw[<-hn,Gc]
theorem ac4 {α:Type} (xs:List α) (lo:Nat) (h:lo<=xs.length):cu xs lo []=xs:=by simp[cu]
theorem aon {t t' ty e e':TypeId} {i:TypeInfo} (ht:P.underlying t=some (.slice e)) (hi:P.info? e=some i) (bI:i.size=1) (g og yc Nj:Nat) (cur:Array Value) (hg:w.heap[g]? =some (.cells cur e' (0,0)))
  (a:Addr) (m c:Nat) (fP:List Value) (hl:fP.length=Nat.min m yc) (ti:∀j u,fP[j]? =some u->w.cell? (a.add j)=some u) (h1:∀u∈fP,u.oneCell'=true) (fJ:og+fP.length<=cur.size):
  (Builtin.copy_ #[t,t'] ty #[.slice (some (ad g og)) yc Nj,.slice (some a) m c]).run P w=.ok (.int .i64 (Nat.min m yc:Nat)) (eS w g og fP cur):=by
 have hf:=run_firstCells_some (P:=P) w i.size (Nat.min m yc) a m c fP (by rw[hl,bI,Nat.mul_one]) ti
 have dA:=run_storeCells_at P g og e' fP 0 cur w hg (by simpa using fJ) h1
 simp only[Nat.add_zero] at dA
 simp[Builtin.copy_,run_underlying ht,sizeOf,typeInfo,hi,Builtin.lenOf,hf,ad,dA,eS,goInt]
theorem aoo {t t' ty e:TypeId} {i:TypeInfo} (ht:P.underlying t=some (.slice e)) (hi:P.info? e=some i) (ya a':Option Addr) (yc Nj m c:Nat) (h0:Nat.min m yc=0):
  (Builtin.copy_ #[t,t'] ty #[.slice ya yc Nj,.slice a' m c]).run P w=.ok (.int .i64 0) w:=by
 cases ya<;>cases a'<;>simp[Builtin.copy_,run_underlying ht,sizeOf,typeInfo,hi,Builtin.lenOf,h0,Builtin.firstCells,loadCells,loadCellsFrom,storeCells,goInt]
theorem afS (r:R B E w0 N σ a w G) {t t' e:TypeId} {i:TypeInfo} {x y:Operand} {mx my:MO} {n lo len:Nat} {c:ah} {ys xs:List (List C)} {gr:Bool} {m:Mode} (ho:o.op=.call {callee:=.builtin .copy,args:=#[x,y],argTypes:=#[t,t']}) (hN:∀n,o.dst=some n->n<N)
  (ij:bz x mx=true) (jY:bz y my=true) (ht:P.underlying t=some (.slice e)) (hi:P.info? e=some i) (bI:i.size=1) (hx:σ.ev mx=.one (.sl n 1 lo len)) (hy:σ.ev my=.one c) (hn:σ.h n=some (.row gr m 1 xs))
  (hv:cq σ.h c=some (.list 1 ys)) (hm:m≠ .aF) (hs:ga xs=true) (j3:ga ys=true) (fJ:lo+len<=xs.length):
  o.wp P a w (Nx B E w0 N ((σ.dB n (.row gr m 1 (cu xs lo (ys.take len)))).put o.dst (.one (.c (.int .i64 (Nat.min ys.length len:Nat)))))) Q:=by
 have H:=r.hr
 obtain⟨x1,_⟩:=r.ev ij
 obtain⟨y1,_⟩:=r.ev jY
 rw[hx] at x1
 rw[hy] at y1
 have gx:c≠ .bn:=by rintro rfl;simp[Am.cq] at hv
 have gA:jA (G.g n) 1 lo len (a.eval x):=(x1.fH (by simp)).1 (by rw[hn];simp)
 obtain⟨pc,p1,p2,p3⟩:=H.cq hv (y1.fH gx).1
 have hr:=H.row n gr m 1 xs hn
 cases pc with
 |int kk nn=>simp[PC.er] at p1
 |bool bb=>simp[PC.er] at p1
 |list s' ya cc py=>
 rw[PC.dO] at p1
 injection p1 with e1 e2
 subst e1
 have BO:ys.length=py.length:=by rw[<-e2];simp
 have p2':a.eval y=.slice ya py.length cc:=p2.symm
 by_cases h0:Nat.min py.length len=0
 ·have JE:σ.dB n (.row gr m 1 (cu xs lo (ys.take len)))=σ:=by
   have:ys.take len=[]:=by
    apply List.eq_nil_of_length_eq_zero
    rw[List.length_take,BO]
    have:min len py.length=Nat.min py.length len:=Nat.min_comm _ _
    omega
   rw[this,ac4 _ _ (by omega)]
   exact acA hn
  have yB:∃Gj,a.eval x=.slice Gj len (match(G.g n).nl with|true=>(G.g n).cap|false=>(G.g n).cap - lo):=by
   rcases gA with⟨aL,hv,_,rfl⟩|⟨aL,a',hv,_,_⟩
   ·exact⟨_,by rw[hv,aL]⟩
   ·exact⟨_,by rw[hv,aL]⟩
  obtain⟨Gj,yB⟩:=yB
  rw[JE,BO,h0]
  refine gI r (v:=.int .i64 0) ?_ (RA.of_int _ _) (fun q hq=>absurd hq rb) hN
  simp only[execOp,ho]
  simp[resolve,invoke,builtin,yB,p2',aoo ht hi _ _ _ _ _ _ h0]
 ·have hlen:0<len:=by
   rcases Nat.eq_zero_or_pos len with h|h
   ·subst h;exact absurd (Nat.min_zero _) h0
   ·exact h
  have fK:0<py.length:=by
   rcases Nat.eq_zero_or_pos py.length with h|h
   ·rw[h] at h0;exact absurd (Nat.zero_min _) h0
   ·exact h
  rcases gA with⟨_,_,_,rfl⟩|⟨aL,a',iO,jE,ha⟩
  ·omega
  have pC:=ha (.inl (by omega))
  subst pC
  obtain⟨⟨cur,et,hg⟩,l2,l3⟩:=hr.dV aL
  generalize oC:PC.list 1 ya cc py=p at p3
  cases p3 with
  |int k n=>cases oC
  |bool b=>cases oC
  |nil _ _ _ _=>injection oC with _ _ _ e4;subst e4;simp at fK
  |cons _ b oo _ _ q1 q2 q3 q4 q5 q6=>
  injection oC with f1 f2 f3 f4
  subst f1 f2 f3 f4
  have ZQ:=abq q4
  generalize jF:py.flatten=pl at ZQ
  subst ZQ
  have sj:ys=pl.map fun c=>[c.er]:=by rw[<-e2,List.map_map];rfl
  have tj:∀c∈pl.take len,c.er.eR=true:=by
   intro c hc
   have h6:=List.all_eq_true.1 j3 [c.er] (by rw[sj];exact List.mem_map_of_mem (f:=fun c:PC=>[c.er]) (List.mem_of_mem_take hc))
   exact List.all_eq_true.1 h6 c.er (by simp)
  have qR:xs.length=(G.g n).px.length:=by rw[hr.er,List.length_map]
  have PD:(pl.take len).length=Nat.min (pl.map fun c=>[c]).length len:=by rw[List.length_take,List.length_map];exact Nat.min_comm _ _
  have jH:(pl.take len).length<=len:=by rw[List.length_take];exact Nat.min_le_left _ _
  have mn:(G.g n).o+lo+(pl.take len).length<=cur.size:=by
   have h1:lo+len - 1<(G.g n).px.length:=by omega
   have h2:((G.g n).px[lo+len - 1]'h1).length=1:=l2.1 _ (List.getElem_mem h1)
   have hc:=l2.2.1 (lo+len - 1) 0 (((G.g n).px[lo+len - 1]'h1)[0]'(by omega)) ⟨_,List.getElem?_eq_getElem h1,List.getElem?_eq_getElem _⟩
   have:=Dy hg hc
   omega
  obtain⟨G',r'⟩:=r.YA hn hm hs aL (lo:=lo) (pe:=pl.take len) tj (by omega) hg mn
  have hws:ys.take len=(pl.take len).map fun c=>[c.er]:=by rw[sj,List.map_take]
  rw[hws,show Nat.min ys.length len=Nat.min (pl.map fun c=>[c]).length len by rw[BO]]
  have bX:=aon (P:=P) (w:=w) (t':=t') (ty:=o.type) ht hi bI (G.g n).b ((G.g n).o+lo) len ((G.g n).cap - lo) cur hg (ad b oo) (pl.map fun c=>[c]).length cc ((pl.take len).map PC.val) (by rw[List.length_map,PD]) (fun j u hj=>by
   rw[List.getElem?_map] at hj
   cases hp:(pl.take len)[j]? with
   |none=>rw[hp] at hj;cases hj
   |some c0=>
    rw[hp] at hj
    injection hj with hj
    subst hj
    have bj:pl[j]? =some c0:=by
     rw[List.getElem?_take] at hp
     split at hp
     ·exact hp
     ·cases hp
    have:=q5 j 0 c0 ⟨[c0],by rw[List.getElem?_map,bj];rfl,rfl⟩
    rw[ou]
    rw[show oo+j=oo+j*1+0 by omega]
    exact this) (fun u hu=>by obtain⟨c0,_,rfl⟩:=List.mem_map.1 hu;exact PC.kN c0) (by rw[List.length_map];exact mn)
  refine oe (w':=eS w (G.g n).b ((G.g n).o+lo) ((pl.take len).map PC.val) cur) (v:=.int .i64 (Nat.min (pl.map fun c=>[c]).length len:Nat)) ?_ ⟨G',r'.put (RA.of_int _ _) (fun q hq=>absurd hq rb) hN⟩
  rw[Nat.mul_one] at iO
  simp only[execOp,ho]
  simp only[List.length_map] at bX⊢
  simp[resolve,invoke,builtin,iO,p2',List.length_map,bX]
theorem ap9 (z0:Value) (n:Nat):(Builtin.zeroCells #[z0] n).toList=List.replicate n z0:=by
 unfold Builtin.zeroCells
 simp
 rw[List.eq_replicate_iff]
 refine⟨by simp,fun b hb=>?_⟩
 obtain⟨i,_,rfl⟩:=List.mem_map.1 hb
 simp[Nat.mod_one]
theorem aom {t ty e:TypeId} (ht:P.underlying t=some (.slice e)) (ya:Option Addr) (c:Nat):
  (Builtin.clear_ #[t] ty #[.slice ya 0 c]).run P w=.ok (.tuple #[]) w:=by
 cases ya<;>simp[Builtin.clear_,run_underlying ht]
theorem aol {t ty e e':TypeId} {i:TypeInfo} {z z0:Value} (ht:P.underlying t=some (.slice e)) (hi:P.info? e=some i) (hz:i.zero=some z) (uQ:z.cells=#[z0]) (h1:z0.oneCell'=true) (g og n c:Nat) (hn:0<n) (cur:Array Value) (hg:w.heap[g]? =some (.cells cur e' (0,0)))
  (fJ:og+n<=cur.size):(Builtin.clear_ #[t] ty #[.slice (some (ad g og)) n c]).run P w=.ok (.tuple #[]) (eS w g og (List.replicate n z0) cur):=by
 have dA:=run_storeCells_at P g og e' (List.replicate n z0) 0 cur w hg (by simpa using fJ) (fun v hv=>by rw[(List.mem_replicate.1 hv).2];exact h1)
 simp only[Nat.add_zero] at dA
 obtain⟨n,rfl⟩:∃k,n=k+1:=⟨n - 1,by omega⟩
 simp[Builtin.clear_,run_underlying ht,typeInfo,zeroValue,hi,hz,uQ,ap9,ad,dA,eS]
theorem afQ (r:R B E w0 N σ a w G) {t e:TypeId} {i:TypeInfo} {z:Value} {x:Operand} {mx:MO} {n lo len:Nat} {zc:C} {xs:List (List C)} {gr:Bool} {m:Mode} (ho:o.op=.call {callee:=.builtin .clear,args:=#[x],argTypes:=#[t]}) (hN:∀n,o.dst=some n->n<N)
  (ij:bz x mx=true) (ht:P.underlying t=some (.slice e)) (hi:P.info? e=some i) (hz:i.zero=some z) (hc:ua z.cells.toList [zc]=true) (sk:zc.eR=true) (hx:σ.ev mx=.one (.sl n 1 lo len)) (hn:σ.h n=some (.row gr m 1 xs))
  (hm:m≠ .aF) (hs:ga xs=true) (fJ:lo+len<=xs.length):
  o.wp P a w (Nx B E w0 N ((σ.dB n (.row gr m 1 (cu xs lo (List.replicate len [zc])))).put o.dst (.bq []))) Q:=by
 have H:=r.hr
 obtain⟨x1,_⟩:=r.ev ij
 rw[hx] at x1
 have gA:jA (G.g n) 1 lo len (a.eval x):=(x1.fH (by simp)).1 (by rw[hn];simp)
 have hr:=H.row n gr m 1 xs hn
 obtain⟨b1,b2,b3⟩:=Nd (w:=w) hc
 have Eh:∀w G' h',RA w G' h' (.bq []) (.tuple #[]):=fun w G' h'=>⟨[],rfl,rfl,by simp⟩
 have uQ:z.cells=#[(lQ zc).val]:=by
  apply Array.ext'
  rw[<-b2]
  rfl
 rcases Nat.eq_zero_or_pos len with rfl|hlen
 ·have yB:∃Gj c,a.eval x=.slice Gj 0 c:=by
   rcases gA with⟨aL,hv,_,_⟩|⟨aL,a',hv,_,_⟩
   ·exact⟨_,_,hv⟩
   ·exact⟨_,_,hv⟩
  obtain⟨Gj,c,yB⟩:=yB
  rw[show cu xs lo (List.replicate 0 [zc])=xs from ac4 _ _ (by omega),acA hn]
  refine gI r (v:=.tuple #[]) ?_ (Eh _ _ _) (fun q hq=>?_) hN
  ·simp only[execOp,ho]
   simp[resolve,invoke,builtin,yB,aom ht]
  ·obtain⟨x,hx,_⟩:=hq;simp at hx
 ·rcases gA with⟨_,_,_,rfl⟩|⟨aL,a',iO,jE,ha⟩
  ·omega
  have pC:=ha (.inl (by omega))
  subst pC
  obtain⟨⟨cur,et,hg⟩,l2,l3⟩:=hr.dV aL
  have qR:xs.length=(G.g n).px.length:=by rw[hr.er,List.length_map]
  have mn:(G.g n).o+lo+len<=cur.size:=by
   have h1:lo+len - 1<(G.g n).px.length:=by omega
   have h2:((G.g n).px[lo+len - 1]'h1).length=1:=l2.1 _ (List.getElem_mem h1)
   have hc:=l2.2.1 (lo+len - 1) 0 (((G.g n).px[lo+len - 1]'h1)[0]'(by omega)) ⟨_,List.getElem?_eq_getElem h1,List.getElem?_eq_getElem _⟩
   have:=Dy hg hc
   omega
  have uC:(lQ zc).er=zc:=by simpa using b1
  obtain⟨G',r'⟩:=r.YA hn hm hs aL (lo:=lo) (pe:=List.replicate len (lQ zc)) (fun c hc=>by rw[(List.mem_replicate.1 hc).2,uC];exact sk) (by rw[List.length_replicate];exact fJ) hg (by rw[List.length_replicate];exact mn)
  rw[List.map_replicate,List.map_replicate,uC] at r'
  have bX:=aol (P:=P) (w:=w) (ty:=o.type) ht hi hz uQ (PC.kN _) (G.g n).b ((G.g n).o+lo) len ((G.g n).cap - lo) hlen cur hg mn
  refine oe (w':=eS w (G.g n).b ((G.g n).o+lo) (List.replicate len (lQ zc).val) cur) (v:=.tuple #[]) ?_ ⟨G',r'.put (Eh _ _ _) (fun q hq=>by obtain⟨x,hx,_⟩:=hq;simp at hx) hN⟩
  rw[Nat.mul_one] at iO
  simp only[execOp,ho]
  simp[resolve,invoke,builtin,iO,bX]
end
end Go.Am
