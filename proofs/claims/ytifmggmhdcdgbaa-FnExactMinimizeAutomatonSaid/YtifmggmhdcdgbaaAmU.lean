/- AmU: the builtins copy and clear on lists of ints. No condition. -/
import Derived.Test.YtifmggmhdcdgbaaAmT
set_option linter.unusedVariables false
namespace Go.Am
section
variable {B:Nat} {E:Ex} {w0 w w':World} {G G':Gh} {N:Nat} {h h':Nat->Option aq} {used:Nat->Bool}
variable {P:Program} {o:Oper} {a:Act} {σ σ':St} {Q:Exit->Act->World->Prop}
theorem Yb {α:Type}:∀{py:List (List α)},(∀e∈py,e.length=1)->py=py.flatten.map fun c=>[c]
 |[],_=>rfl
 |e::py,h=>by
  have h1:=h e (by simp)
  match e,h1 with
  |[c],_=>
   rw[List.flatten_cons,List.map_append,<-Yb (py:=py) fun e he=>h e (by simp[he])]
   rfl
theorem Y8 {n:Nat} {b:aq} (hn:σ.h n=some b):σ.dv n b=σ:=by
 unfold St.dv
 rw[<-hn,Es]
theorem Zx {α:Type} (xs:List α) (lo:Nat) (h:lo<=xs.length):bV xs lo []=xs:=by simp[bV]
theorem aj5 {t t' ty e e':TypeId} {i:TypeInfo} (ht:P.underlying t=some (.slice e)) (hi:P.info? e=some i) (bG:i.size=1) (g og xn K3:Nat) (cur:Array Value) (hg:w.heap[g]? =some (.cells cur e' (0,0)))
  (a:Addr) (m c:Nat) (fB:List Value) (hl:fB.length=Nat.min m xn) (su:∀j u,fB[j]? =some u->w.cell? (a.add j)=some u) (h1:∀u∈fB,u.oneCell'=true) (g8:og+fB.length<=cur.size):
  (Builtin.copy_ #[t,t'] ty #[.slice (some (ad g og)) xn K3,.slice (some a) m c]).run P w=.ok (.int .i64 (Nat.min m xn:Nat)) (eE w g og fB cur):=by
 have hf:=run_firstCells_some (P:=P) w i.size (Nat.min m xn) a m c fB (by rw[hl,bG,Nat.mul_one]) su
 have nq:=run_storeCells_at P g og e' fB 0 cur w hg (by simpa using g8) h1
 simp only[Nat.add_zero] at nq
 simp[Builtin.copy_,run_underlying ht,sizeOf,typeInfo,hi,Builtin.lenOf,hf,ad,nq,eE,goInt]
theorem aj6 {t t' ty e:TypeId} {i:TypeInfo} (ht:P.underlying t=some (.slice e)) (hi:P.info? e=some i) (ya a':Option Addr) (xn K3 m c:Nat) (h0:Nat.min m xn=0):
  (Builtin.copy_ #[t,t'] ty #[.slice ya xn K3,.slice a' m c]).run P w=.ok (.int .i64 0) w:=by
 cases ya<;>cases a'<;>simp[Builtin.copy_,run_underlying ht,sizeOf,typeInfo,hi,Builtin.lenOf,h0,Builtin.firstCells,loadCells,loadCellsFrom,storeCells,goInt]
theorem abS (r:R B E w0 N σ a w G) {t t' e:TypeId} {i:TypeInfo} {x y:Operand} {mx my:MO} {n lo len:Nat} {c:ah} {ys xs:List (List C)} {gr:Bool} {m:Mode} (ho:o.op=.call {callee:=.builtin .copy,args:=#[x,y],argTypes:=#[t,t']}) (hN:∀n,o.dst=some n->n<N)
  (jc:bx x mx=true) (iF:bx y my=true) (ht:P.underlying t=some (.slice e)) (hi:P.info? e=some i) (bG:i.size=1) (hx:σ.ev mx=.one (.sl n 1 lo len)) (hy:σ.ev my=.one c) (hn:σ.h n=some (.row gr m 1 xs))
  (hv:bU σ.h c=some (.list 1 ys)) (hm:m≠ .aF) (hs:fQ xs=true) (j0:fQ ys=true) (g8:lo+len<=xs.length):
  o.wp P a w (Nx B E w0 N ((σ.dv n (.row gr m 1 (bV xs lo (ys.take len)))).put o.dst (.one (.c (.int .i64 (Nat.min ys.length len:Nat)))))) Q:=by
 have H:=r.hr
 obtain⟨x1,_⟩:=r.ev jc
 obtain⟨y1,_⟩:=r.ev iF
 rw[hx] at x1
 rw[hy] at y1
 have gh:c≠ .bj:=by rintro rfl;simp[Am.bU] at hv
 have gL:jR (G.g n) 1 lo len (a.eval x):=(x1.fv (by simp)).1 (by rw[hn];simp)
 obtain⟨pc,p1,p2,p3⟩:=H.bU hv (y1.fv gh).1
 have hr:=H.row n gr m 1 xs hn
 cases pc with
 |int kk nn=>simp[PC.er] at p1
 |bool bb=>simp[PC.er] at p1
 |list s' ya cc py=>
 rw[PC.dw] at p1
 injection p1 with e1 e2
 subst e1
 have Ab:ys.length=py.length:=by rw[<-e2];simp
 have Yc:a.eval y=.slice ya py.length cc:=p2.symm
 by_cases h0:Nat.min py.length len=0
 ·have Hy:σ.dv n (.row gr m 1 (bV xs lo (ys.take len)))=σ:=by
   have:ys.take len=[]:=by
    apply List.eq_nil_of_length_eq_zero
    rw[List.length_take,Ab]
    have:min len py.length=Nat.min py.length len:=Nat.min_comm _ _
    omega
   rw[this,Zx _ _ (by omega)]
   exact Y8 hn
  have xJ:∃Ew,a.eval x=.slice Ew len (match(G.g n).nl with|true=>(G.g n).cap|false=>(G.g n).cap - lo):=by
   rcases gL with⟨aO,hv,_,rfl⟩|⟨aO,a',hv,_,_⟩
   ·exact⟨_,by rw[hv,aO]⟩
   ·exact⟨_,by rw[hv,aO]⟩
  obtain⟨Ew,xJ⟩:=xJ
  rw[Hy,Ab,h0]
  refine gw r (v:=.int .i64 0) ?_ (RA.of_int _ _) (fun q hq=>absurd hq qq) hN
  simp only[execOp,ho]
  simp[resolve,invoke,builtin,xJ,Yc,aj6 ht hi _ _ _ _ _ _ h0]
 ·have hlen:0<len:=by
   rcases Nat.eq_zero_or_pos len with h|h
   ·subst h;exact absurd (Nat.min_zero _) h0
   ·exact h
  have gk:0<py.length:=by
   rcases Nat.eq_zero_or_pos py.length with h|h
   ·rw[h] at h0;exact absurd (Nat.zero_min _) h0
   ·exact h
  rcases gL with⟨_,_,_,rfl⟩|⟨aO,a',iI,kl,ha⟩
  ·omega
  have sj:=ha (.inl (by omega))
  subst sj
  obtain⟨⟨cur,et,hg⟩,l2,l3⟩:=hr.dE aO
  generalize n4:PC.list 1 ya cc py=p at p3
  cases p3 with
  |int k n=>cases n4
  |bool b=>cases n4
  |nil _ _ _ _=>injection n4 with _ _ _ e4;subst e4;simp at gk
  |cons _ b oo _ _ q1 q2 q3 q4 q5 q6=>
  injection n4 with f1 f2 f3 f4
  subst f1 f2 f3 f4
  have Wh:=Yb q4
  generalize jA:py.flatten=pl at Wh
  subst Wh
  have rh:ys=pl.map fun c=>[c.er]:=by rw[<-e2,List.map_map];rfl
  have tW:∀c∈pl.take len,c.er.eD=true:=by
   intro c hc
   have h6:=List.all_eq_true.1 j0 [c.er] (by rw[rh];exact List.mem_map_of_mem (f:=fun c:PC=>[c.er]) (List.mem_of_mem_take hc))
   exact List.all_eq_true.1 h6 c.er (by simp)
  have qb:xs.length=(G.g n).px.length:=by rw[hr.er,List.length_map]
  have MZ:(pl.take len).length=Nat.min (pl.map fun c=>[c]).length len:=by rw[List.length_take,List.length_map];exact Nat.min_comm _ _
  have gi:(pl.take len).length<=len:=by rw[List.length_take];exact Nat.min_le_left _ _
  have lL:(G.g n).o+lo+(pl.take len).length<=cur.size:=by
   have h1:lo+len - 1<(G.g n).px.length:=by omega
   have h2:((G.g n).px[lo+len - 1]'h1).length=1:=l2.1 _ (List.getElem_mem h1)
   have hc:=l2.2.1 (lo+len - 1) 0 (((G.g n).px[lo+len - 1]'h1)[0]'(by omega)) ⟨_,List.getElem?_eq_getElem h1,List.getElem?_eq_getElem _⟩
   have:=B0 hg hc
   omega
  obtain⟨G',r'⟩:=r.Vf hn hm hs aO (lo:=lo) (pe:=pl.take len) tW (by omega) hg lL
  have hws:ys.take len=(pl.take len).map fun c=>[c.er]:=by rw[rh,List.map_take]
  rw[hws,show Nat.min ys.length len=Nat.min (pl.map fun c=>[c]).length len by rw[Ab]]
  have bo:=aj5 (P:=P) (w:=w) (t':=t') (ty:=o.type) ht hi bG (G.g n).b ((G.g n).o+lo) len ((G.g n).cap - lo) cur hg (ad b oo) (pl.map fun c=>[c]).length cc ((pl.take len).map PC.val) (by rw[List.length_map,MZ]) (fun j u hj=>by
   rw[List.getElem?_map] at hj
   cases hp:(pl.take len)[j]? with
   |none=>rw[hp] at hj;cases hj
   |some c0=>
    rw[hp] at hj
    injection hj with hj
    subst hj
    have be:pl[j]? =some c0:=by
     rw[List.getElem?_take] at hp
     split at hp
     ·exact hp
     ·cases hp
    have:=q5 j 0 c0 ⟨[c0],by rw[List.getElem?_map,be];rfl,rfl⟩
    rw[nP]
    rw[show oo+j=oo+j*1+0 by omega]
    exact this) (fun u hu=>by obtain⟨c0,_,rfl⟩:=List.mem_map.1 hu;exact PC.kI c0) (by rw[List.length_map];exact lL)
  refine nK (w':=eE w (G.g n).b ((G.g n).o+lo) ((pl.take len).map PC.val) cur) (v:=.int .i64 (Nat.min (pl.map fun c=>[c]).length len:Nat)) ?_ ⟨G',r'.put (RA.of_int _ _) (fun q hq=>absurd hq qq) hN⟩
  rw[Nat.mul_one] at iI
  simp only[execOp,ho]
  simp only[List.length_map] at bo⊢
  simp[resolve,invoke,builtin,iI,Yc,List.length_map,bo]
theorem alt (z0:Value) (n:Nat):(Builtin.zeroCells #[z0] n).toList=List.replicate n z0:=by
 unfold Builtin.zeroCells
 simp
 rw[List.eq_replicate_iff]
 refine⟨by simp,fun b hb=>?_⟩
 obtain⟨i,_,rfl⟩:=List.mem_map.1 hb
 simp[Nat.mod_one]
theorem aj4 {t ty e:TypeId} (ht:P.underlying t=some (.slice e)) (ya:Option Addr) (c:Nat):
  (Builtin.clear_ #[t] ty #[.slice ya 0 c]).run P w=.ok (.tuple #[]) w:=by
 cases ya<;>simp[Builtin.clear_,run_underlying ht]
theorem aj3 {t ty e e':TypeId} {i:TypeInfo} {z z0:Value} (ht:P.underlying t=some (.slice e)) (hi:P.info? e=some i) (hz:i.zero=some z) (ub:z.cells=#[z0]) (h1:z0.oneCell'=true) (g og n c:Nat) (hn:0<n) (cur:Array Value) (hg:w.heap[g]? =some (.cells cur e' (0,0)))
  (g8:og+n<=cur.size):(Builtin.clear_ #[t] ty #[.slice (some (ad g og)) n c]).run P w=.ok (.tuple #[]) (eE w g og (List.replicate n z0) cur):=by
 have nq:=run_storeCells_at P g og e' (List.replicate n z0) 0 cur w hg (by simpa using g8) (fun v hv=>by rw[(List.mem_replicate.1 hv).2];exact h1)
 simp only[Nat.add_zero] at nq
 obtain⟨n,rfl⟩:∃k,n=k+1:=⟨n - 1,by omega⟩
 simp[Builtin.clear_,run_underlying ht,typeInfo,zeroValue,hi,hz,ub,alt,ad,nq,eE]
theorem abQ (r:R B E w0 N σ a w G) {t e:TypeId} {i:TypeInfo} {z:Value} {x:Operand} {mx:MO} {n lo len:Nat} {zc:C} {xs:List (List C)} {gr:Bool} {m:Mode} (ho:o.op=.call {callee:=.builtin .clear,args:=#[x],argTypes:=#[t]}) (hN:∀n,o.dst=some n->n<N)
  (jc:bx x mx=true) (ht:P.underlying t=some (.slice e)) (hi:P.info? e=some i) (hz:i.zero=some z) (hc:tx z.cells.toList [zc]=true) (rj:zc.eD=true) (hx:σ.ev mx=.one (.sl n 1 lo len)) (hn:σ.h n=some (.row gr m 1 xs))
  (hm:m≠ .aF) (hs:fQ xs=true) (g8:lo+len<=xs.length):
  o.wp P a w (Nx B E w0 N ((σ.dv n (.row gr m 1 (bV xs lo (List.replicate len [zc])))).put o.dst (.bk []))) Q:=by
 have H:=r.hr
 obtain⟨x1,_⟩:=r.ev jc
 rw[hx] at x1
 have gL:jR (G.g n) 1 lo len (a.eval x):=(x1.fv (by simp)).1 (by rw[hn];simp)
 have hr:=H.row n gr m 1 xs hn
 obtain⟨b1,b2,b3⟩:=KR (w:=w) hc
 have CA:∀w G' h',RA w G' h' (.bk []) (.tuple #[]):=fun w G' h'=>⟨[],rfl,rfl,by simp⟩
 have ub:z.cells=#[(lv zc).val]:=by
  apply Array.ext'
  rw[<-b2]
  rfl
 rcases Nat.eq_zero_or_pos len with rfl|hlen
 ·have xJ:∃Ew c,a.eval x=.slice Ew 0 c:=by
   rcases gL with⟨aO,hv,_,_⟩|⟨aO,a',hv,_,_⟩
   ·exact⟨_,_,hv⟩
   ·exact⟨_,_,hv⟩
  obtain⟨Ew,c,xJ⟩:=xJ
  rw[show bV xs lo (List.replicate 0 [zc])=xs from Zx _ _ (by omega),Y8 hn]
  refine gw r (v:=.tuple #[]) ?_ (CA _ _ _) (fun q hq=>?_) hN
  ·simp only[execOp,ho]
   simp[resolve,invoke,builtin,xJ,aj4 ht]
  ·obtain⟨x,hx,_⟩:=hq;simp at hx
 ·rcases gL with⟨_,_,_,rfl⟩|⟨aO,a',iI,kl,ha⟩
  ·omega
  have sj:=ha (.inl (by omega))
  subst sj
  obtain⟨⟨cur,et,hg⟩,l2,l3⟩:=hr.dE aO
  have qb:xs.length=(G.g n).px.length:=by rw[hr.er,List.length_map]
  have lL:(G.g n).o+lo+len<=cur.size:=by
   have h1:lo+len - 1<(G.g n).px.length:=by omega
   have h2:((G.g n).px[lo+len - 1]'h1).length=1:=l2.1 _ (List.getElem_mem h1)
   have hc:=l2.2.1 (lo+len - 1) 0 (((G.g n).px[lo+len - 1]'h1)[0]'(by omega)) ⟨_,List.getElem?_eq_getElem h1,List.getElem?_eq_getElem _⟩
   have:=B0 hg hc
   omega
  have tP:(lv zc).er=zc:=by simpa using b1
  obtain⟨G',r'⟩:=r.Vf hn hm hs aO (lo:=lo) (pe:=List.replicate len (lv zc)) (fun c hc=>by rw[(List.mem_replicate.1 hc).2,tP];exact rj) (by rw[List.length_replicate];exact g8) hg (by rw[List.length_replicate];exact lL)
  rw[List.map_replicate,List.map_replicate,tP] at r'
  have bo:=aj3 (P:=P) (w:=w) (ty:=o.type) ht hi hz ub (PC.kI _) (G.g n).b ((G.g n).o+lo) len ((G.g n).cap - lo) hlen cur hg lL
  refine nK (w':=eE w (G.g n).b ((G.g n).o+lo) (List.replicate len (lv zc).val) cur) (v:=.tuple #[]) ?_ ⟨G',r'.put (CA _ _ _) (fun q hq=>by obtain⟨x,hx,_⟩:=hq;simp at hx) hN⟩
  rw[Nat.mul_one] at iI
  simp only[execOp,ho]
  simp[resolve,invoke,builtin,iI,bo]
end
end Go.Am
