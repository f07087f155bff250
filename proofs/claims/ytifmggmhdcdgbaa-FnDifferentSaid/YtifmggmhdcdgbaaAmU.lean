/- AmU: the builtins copy and clear on lists of ints. No condition. -/
import Derived.Test.YtifmggmhdcdgbaaAmT
set_option linter.unusedVariables false
namespace Go.Am
section
variable {B:Nat} {E:Ex} {w0 w w':World} {G G':Gh} {N:Nat} {h h':Nat->Option ar} {used:Nat->Bool}
variable {P:Program} {o:Oper} {a:Act} {σ σ':St} {Q:Exit->Act->World->Prop}
theorem aaA {α:Type}:∀{py:List (List α)},(∀e∈py,e.length=1)->py=py.flatten.map fun c=>[c]
 |[],_=>rfl
 |e::py,h=>by
  have h1:=h e (by simp)
  match e,h1 with
  |[c],_=>
   rw[List.flatten_cons,List.map_append,<-aaA (py:=py) fun e he=>h e (by simp[he])]
   rfl
theorem abu {n:Nat} {b:ar} (hn:σ.h n=some b):σ.dc n b=σ:=by
 unfold St.dc
 rw[<-hn,FI]
theorem abS {α:Type} (xs:List α) (lo:Nat) (h:lo<=xs.length):bS xs lo []=xs:=by simp[bS]
theorem anw {t t' ty e e':TypeId} {i:TypeInfo} (ht:P.underlying t=some (.slice e)) (hi:P.info? e=some i) (bD:i.size=1) (g og yd MI:Nat) (cur:Array Value) (hg:w.heap[g]? =some (.cells cur e' (0,0)))
  (a:Addr) (m c:Nat) (fB:List Value) (hl:fB.length=Nat.min m yd) (sD:∀j u,fB[j]? =some u->w.cell? (a.add j)=some u) (h1:∀u∈fB,u.oneCell'=true) (gO:og+fB.length<=cur.size):
  (Builtin.copy_ #[t,t'] ty #[.slice (some (ad g og)) yd MI,.slice (some a) m c]).run P w=.ok (.int .i64 (Nat.min m yd:Nat)) (d8 w g og fB cur):=by
 have hf:=run_firstCells_some (P:=P) w i.size (Nat.min m yd) a m c fB (by rw[hl,bD,Nat.mul_one]) sD
 have mQ:=run_storeCells_at P g og e' fB 0 cur w hg (by simpa using gO) h1
 simp only[Nat.add_zero] at mQ
 simp[Builtin.copy_,run_underlying ht,sizeOf,typeInfo,hi,Builtin.lenOf,hf,ad,mQ,d8,goInt]
theorem anx {t t' ty e:TypeId} {i:TypeInfo} (ht:P.underlying t=some (.slice e)) (hi:P.info? e=some i) (ya a':Option Addr) (yd MI m c:Nat) (h0:Nat.min m yd=0):
  (Builtin.copy_ #[t,t'] ty #[.slice ya yd MI,.slice a' m c]).run P w=.ok (.int .i64 0) w:=by
 cases ya<;>cases a'<;>simp[Builtin.copy_,run_underlying ht,sizeOf,typeInfo,hi,Builtin.lenOf,h0,Builtin.firstCells,loadCells,loadCellsFrom,storeCells,goInt]
theorem aee (r:R B E w0 N σ a w G) {t t' e:TypeId} {i:TypeInfo} {x y:Operand} {mx my:MO} {n lo len:Nat} {c:ai} {ys xs:List (List C)} {gr:Bool} {m:Mode} (ho:o.op=.call {callee:=.builtin .copy,args:=#[x,y],argTypes:=#[t,t']}) (hN:∀n,o.dst=some n->n<N)
  (iV:bw x mx=true) (iv:bw y my=true) (ht:P.underlying t=some (.slice e)) (hi:P.info? e=some i) (bD:i.size=1) (hx:σ.ev mx=.one (.sl n 1 lo len)) (hy:σ.ev my=.one c) (hn:σ.h n=some (.row gr m 1 xs))
  (hv:bR σ.h c=some (.list 1 ys)) (hm:m≠ .aA) (hs:fN xs=true) (jL:fN ys=true) (gO:lo+len<=xs.length):
  o.wp P a w (Nx B E w0 N ((σ.dc n (.row gr m 1 (bS xs lo (ys.take len)))).put o.dst (.one (.c (.int .i64 (Nat.min ys.length len:Nat)))))) Q:=by
 have H:=r.hr
 obtain⟨x1,_⟩:=r.ev iV
 obtain⟨y1,_⟩:=r.ev iv
 rw[hx] at x1
 rw[hy] at y1
 have fU:c≠ .bh:=by rintro rfl;simp[Am.bR] at hv
 have gE:jF (G.g n) 1 lo len (a.eval x):=(x1.fq (by simp)).1 (by rw[hn];simp)
 obtain⟨pc,p1,p2,p3⟩:=H.bR hv (y1.fq fU).1
 have hr:=H.row n gr m 1 xs hn
 cases pc with
 |int kk nn=>simp[PC.er] at p1
 |bool bb=>simp[PC.er] at p1
 |list s' ya cc py=>
 rw[PC.dz] at p1
 injection p1 with e1 e2
 subst e1
 have AZ:ys.length=py.length:=by rw[<-e2];simp
 have p2':a.eval y=.slice ya py.length cc:=p2.symm
 by_cases h0:Nat.min py.length len=0
 ·have IQ:σ.dc n (.row gr m 1 (bS xs lo (ys.take len)))=σ:=by
   have:ys.take len=[]:=by
    apply List.eq_nil_of_length_eq_zero
    rw[List.length_take,AZ]
    have:min len py.length=Nat.min py.length len:=Nat.min_comm _ _
    omega
   rw[this,abS _ _ (by omega)]
   exact abu hn
  have rf:∃FM,a.eval x=.slice FM len (match(G.g n).nl with|true=>(G.g n).cap|false=>(G.g n).cap - lo):=by
   rcases gE with⟨aM,hv,_,rfl⟩|⟨aM,a',hv,_,_⟩
   ·exact⟨_,by rw[hv,aM]⟩
   ·exact⟨_,by rw[hv,aM]⟩
  obtain⟨FM,rf⟩:=rf
  rw[IQ,AZ,h0]
  refine gf r (v:=.int .i64 0) ?_ (RA.of_int _ _) (fun q hq=>absurd hq qu) hN
  simp only[execOp,ho]
  simp[resolve,invoke,builtin,rf,p2',anx ht hi _ _ _ _ _ _ h0]
 ·have hlen:0<len:=by
   rcases Nat.eq_zero_or_pos len with h|h
   ·subst h;exact absurd (Nat.min_zero _) h0
   ·exact h
  have fY:0<py.length:=by
   rcases Nat.eq_zero_or_pos py.length with h|h
   ·rw[h] at h0;exact absurd (Nat.zero_min _) h0
   ·exact h
  rcases gE with⟨_,_,_,rfl⟩|⟨aM,a',iy,jZ,ha⟩
  ·omega
  have sx:=ha (.inl (by omega))
  subst sx
  obtain⟨⟨cur,et,hg⟩,l2,l3⟩:=hr.dD aM
  generalize nL:PC.list 1 ya cc py=p at p3
  cases p3 with
  |int k n=>cases nL
  |bool b=>cases nL
  |nil _ _ _ _=>injection nL with _ _ _ e4;subst e4;simp at fY
  |cons _ b oo _ _ q1 q2 q3 q4 q5 q6=>
  injection nL with f1 f2 f3 f4
  subst f1 f2 f3 f4
  have Yf:=aaA q4
  generalize jn:py.flatten=pl at Yf
  subst Yf
  have rr:ys=pl.map fun c=>[c.er]:=by rw[<-e2,List.map_map];rfl
  have uD:∀c∈pl.take len,c.er.d7=true:=by
   intro c hc
   have h6:=List.all_eq_true.1 jL [c.er] (by rw[rr];exact List.mem_map_of_mem (f:=fun c:PC=>[c.er]) (List.mem_of_mem_take hc))
   exact List.all_eq_true.1 h6 c.er (by simp)
  have pV:xs.length=(G.g n).px.length:=by rw[hr.er,List.length_map]
  have OK:(pl.take len).length=Nat.min (pl.map fun c=>[c]).length len:=by rw[List.length_take,List.length_map];exact Nat.min_comm _ _
  have eS:(pl.take len).length<=len:=by rw[List.length_take];exact Nat.min_le_left _ _
  have lr:(G.g n).o+lo+(pl.take len).length<=cur.size:=by
   have h1:lo+len - 1<(G.g n).px.length:=by omega
   have h2:((G.g n).px[lo+len - 1]'h1).length=1:=l2.1 _ (List.getElem_mem h1)
   have hc:=l2.2.1 (lo+len - 1) 0 (((G.g n).px[lo+len - 1]'h1)[0]'(by omega)) ⟨_,List.getElem?_eq_getElem h1,List.getElem?_eq_getElem _⟩
   have:=C5 hg hc
   omega
  obtain⟨G',r'⟩:=r.W8 hn hm hs aM (lo:=lo) (pe:=pl.take len) uD (by omega) hg lr
  have hws:ys.take len=(pl.take len).map fun c=>[c.er]:=by rw[rr,List.map_take]
  rw[hws,show Nat.min ys.length len=Nat.min (pl.map fun c=>[c]).length len by rw[AZ]]
  have bq:=anw (P:=P) (w:=w) (t':=t') (ty:=o.type) ht hi bD (G.g n).b ((G.g n).o+lo) len ((G.g n).cap - lo) cur hg (ad b oo) (pl.map fun c=>[c]).length cc ((pl.take len).map PC.val) (by rw[List.length_map,OK]) (fun j u hj=>by
   rw[List.getElem?_map] at hj
   cases hp:(pl.take len)[j]? with
   |none=>rw[hp] at hj;cases hj
   |some c0=>
    rw[hp] at hj
    injection hj with hj
    subst hj
    have bd:pl[j]? =some c0:=by
     rw[List.getElem?_take] at hp
     split at hp
     ·exact hp
     ·cases hp
    have:=q5 j 0 c0 ⟨[c0],by rw[List.getElem?_map,bd];rfl,rfl⟩
    rw[nw]
    rw[show oo+j=oo+j*1+0 by omega]
    exact this) (fun u hu=>by obtain⟨c0,_,rfl⟩:=List.mem_map.1 hu;exact PC.ki c0) (by rw[List.length_map];exact lr)
  refine nq (w':=d8 w (G.g n).b ((G.g n).o+lo) ((pl.take len).map PC.val) cur) (v:=.int .i64 (Nat.min (pl.map fun c=>[c]).length len:Nat)) ?_ ⟨G',r'.put (RA.of_int _ _) (fun q hq=>absurd hq qu) hN⟩
  rw[Nat.mul_one] at iy
  simp only[execOp,ho]
  simp only[List.length_map] at bq⊢
  simp[resolve,invoke,builtin,iy,p2',List.length_map,bq]
theorem aoT (z0:Value) (n:Nat):(Builtin.zeroCells #[z0] n).toList=List.replicate n z0:=by
 unfold Builtin.zeroCells
 simp
 rw[List.eq_replicate_iff]
 refine⟨by simp,fun b hb=>?_⟩
 obtain⟨i,_,rfl⟩:=List.mem_map.1 hb
 simp[Nat.mod_one]
theorem anv {t ty e:TypeId} (ht:P.underlying t=some (.slice e)) (ya:Option Addr) (c:Nat):
  (Builtin.clear_ #[t] ty #[.slice ya 0 c]).run P w=.ok (.tuple #[]) w:=by
 cases ya<;>simp[Builtin.clear_,run_underlying ht]
theorem anu {t ty e e':TypeId} {i:TypeInfo} {z z0:Value} (ht:P.underlying t=some (.slice e)) (hi:P.info? e=some i) (hz:i.zero=some z) (uJ:z.cells=#[z0]) (h1:z0.oneCell'=true) (g og n c:Nat) (hn:0<n) (cur:Array Value) (hg:w.heap[g]? =some (.cells cur e' (0,0)))
  (gO:og+n<=cur.size):(Builtin.clear_ #[t] ty #[.slice (some (ad g og)) n c]).run P w=.ok (.tuple #[]) (d8 w g og (List.replicate n z0) cur):=by
 have mQ:=run_storeCells_at P g og e' (List.replicate n z0) 0 cur w hg (by simpa using gO) (fun v hv=>by rw[(List.mem_replicate.1 hv).2];exact h1)
 simp only[Nat.add_zero] at mQ
 obtain⟨n,rfl⟩:∃k,n=k+1:=⟨n - 1,by omega⟩
 simp[Builtin.clear_,run_underlying ht,typeInfo,zeroValue,hi,hz,uJ,aoT,ad,mQ,d8]
theorem aec (r:R B E w0 N σ a w G) {t e:TypeId} {i:TypeInfo} {z:Value} {x:Operand} {mx:MO} {n lo len:Nat} {zc:C} {xs:List (List C)} {gr:Bool} {m:Mode} (ho:o.op=.call {callee:=.builtin .clear,args:=#[x],argTypes:=#[t]}) (hN:∀n,o.dst=some n->n<N)
  (iV:bw x mx=true) (ht:P.underlying t=some (.slice e)) (hi:P.info? e=some i) (hz:i.zero=some z) (hc:ub z.cells.toList [zc]=true) (ru:zc.d7=true) (hx:σ.ev mx=.one (.sl n 1 lo len)) (hn:σ.h n=some (.row gr m 1 xs))
  (hm:m≠ .aA) (hs:fN xs=true) (gO:lo+len<=xs.length):
  o.wp P a w (Nx B E w0 N ((σ.dc n (.row gr m 1 (bS xs lo (List.replicate len [zc])))).put o.dst (.bn []))) Q:=by
 have H:=r.hr
 obtain⟨x1,_⟩:=r.ev iV
 rw[hx] at x1
 have gE:jF (G.g n) 1 lo len (a.eval x):=(x1.fq (by simp)).1 (by rw[hn];simp)
 have hr:=H.row n gr m 1 xs hn
 obtain⟨b1,b2,b3⟩:=Mx (w:=w) hc
 have DD:∀w G' h',RA w G' h' (.bn []) (.tuple #[]):=fun w G' h'=>⟨[],rfl,rfl,by simp⟩
 have uJ:z.cells=#[(kT zc).val]:=by
  apply Array.ext'
  rw[<-b2]
  rfl
 rcases Nat.eq_zero_or_pos len with rfl|hlen
 ·have rf:∃FM c,a.eval x=.slice FM 0 c:=by
   rcases gE with⟨aM,hv,_,_⟩|⟨aM,a',hv,_,_⟩
   ·exact⟨_,_,hv⟩
   ·exact⟨_,_,hv⟩
  obtain⟨FM,c,rf⟩:=rf
  rw[show bS xs lo (List.replicate 0 [zc])=xs from abS _ _ (by omega),abu hn]
  refine gf r (v:=.tuple #[]) ?_ (DD _ _ _) (fun q hq=>?_) hN
  ·simp only[execOp,ho]
   simp[resolve,invoke,builtin,rf,anv ht]
  ·obtain⟨x,hx,_⟩:=hq;simp at hx
 ·rcases gE with⟨_,_,_,rfl⟩|⟨aM,a',iy,jZ,ha⟩
  ·omega
  have sx:=ha (.inl (by omega))
  subst sx
  obtain⟨⟨cur,et,hg⟩,l2,l3⟩:=hr.dD aM
  have pV:xs.length=(G.g n).px.length:=by rw[hr.er,List.length_map]
  have lr:(G.g n).o+lo+len<=cur.size:=by
   have h1:lo+len - 1<(G.g n).px.length:=by omega
   have h2:((G.g n).px[lo+len - 1]'h1).length=1:=l2.1 _ (List.getElem_mem h1)
   have hc:=l2.2.1 (lo+len - 1) 0 (((G.g n).px[lo+len - 1]'h1)[0]'(by omega)) ⟨_,List.getElem?_eq_getElem h1,List.getElem?_eq_getElem _⟩
   have:=C5 hg hc
   omega
  have uw:(kT zc).er=zc:=by simpa using b1
  obtain⟨G',r'⟩:=r.W8 hn hm hs aM (lo:=lo) (pe:=List.replicate len (kT zc)) (fun c hc=>by rw[(List.mem_replicate.1 hc).2,uw];exact ru) (by rw[List.length_replicate];exact gO) hg (by rw[List.length_replicate];exact lr)
  rw[List.map_replicate,List.map_replicate,uw] at r'
  have bq:=anu (P:=P) (w:=w) (ty:=o.type) ht hi hz uJ (PC.ki _) (G.g n).b ((G.g n).o+lo) len ((G.g n).cap - lo) hlen cur hg lr
  refine nq (w':=d8 w (G.g n).b ((G.g n).o+lo) (List.replicate len (kT zc).val) cur) (v:=.tuple #[]) ?_ ⟨G',r'.put (DD _ _ _) (fun q hq=>by obtain⟨x,hx,_⟩:=hq;simp at hx) hN⟩
  rw[Nat.mul_one] at iy
  simp only[execOp,ho]
  simp[resolve,invoke,builtin,iy,bq]
end
end Go.Am
