/- AmU: the builtins copy and clear on lists of ints. No condition. -/
import Derived.Test.YtifmggmhdcdgbaaAmT
set_option linter.unusedVariables false
namespace Go.Am
section
variable {B:Nat} {E:Ex} {w0 w w':World} {G G':Gh} {N:Nat} {h h':Nat->Option ar} {used:Nat->Bool}
variable {P:Program} {o:Oper} {a:Act} {σ σ':St} {Q:Exit->Act->World->Prop}
theorem ZT {α:Type}:∀{py:List (List α)},(∀e∈py,e.length=1)->py=py.flatten.map fun c=>[c]
 |[],_=>rfl
 |e::py,h=>by
  have h1:=h e (by simp)
  match e,h1 with
  |[c],_=>
   rw[List.flatten_cons,List.map_append,<-ZT (py:=py) fun e he=>h e (by simp[he])]
   rfl
theorem aaL {n:Nat} {b:ar} (hn:σ.h n=some b):σ.cX n b=σ:=by
 unfold St.cX
 rw[<-hn,Fc]
theorem aa7 {α:Type} (xs:List α) (lo:Nat) (h:lo<=xs.length):bP xs lo []=xs:=by simp[bP]
theorem ane {t t' ty e e':TypeId} {i:TypeInfo} (ht:P.underlying t=some (.slice e)) (hi:P.info? e=some i) (bA:i.size=1) (g og xA Mb:Nat) (cur:Array Value) (hg:w.heap[g]? =some (.cells cur e' (0,0)))
  (a:Addr) (m c:Nat) (fc:List Value) (hl:fc.length=Nat.min m xA) (rZ:∀j u,fc[j]? =some u->w.cell? (a.add j)=some u) (h1:∀u∈fc,u.oneCell'=true) (gz:og+fc.length<=cur.size):
  (Builtin.copy_ #[t,t'] ty #[.slice (some (ad g og)) xA Mb,.slice (some a) m c]).run P w=.ok (.int .i64 (Nat.min m xA:Nat)) (dS w g og fc cur):=by
 have hf:=run_firstCells_some (P:=P) w i.size (Nat.min m xA) a m c fc (by rw[hl,bA,Nat.mul_one]) rZ
 have mI:=run_storeCells_at P g og e' fc 0 cur w hg (by simpa using gz) h1
 simp only[Nat.add_zero] at mI
 simp[Builtin.copy_,run_underlying ht,sizeOf,typeInfo,hi,Builtin.lenOf,hf,ad,mI,dS,goInt]
theorem anf {t t' ty e:TypeId} {i:TypeInfo} (ht:P.underlying t=some (.slice e)) (hi:P.info? e=some i) (ya a':Option Addr) (xA Mb m c:Nat) (h0:Nat.min m xA=0):
  (Builtin.copy_ #[t,t'] ty #[.slice ya xA Mb,.slice a' m c]).run P w=.ok (.int .i64 0) w:=by
 cases ya<;>cases a'<;>simp[Builtin.copy_,run_underlying ht,sizeOf,typeInfo,hi,Builtin.lenOf,h0,Builtin.firstCells,loadCells,loadCellsFrom,storeCells,goInt]
theorem adE (r:R B E w0 N σ a w G) {t t' e:TypeId} {i:TypeInfo} {x y:Operand} {mx my:MO} {n lo len:Nat} {c:ah} {ys xs:List (List C)} {gr:Bool} {m:Mode} (ho:o.op=.call {callee:=.builtin .copy,args:=#[x,y],argTypes:=#[t,t']}) (hN:∀n,o.dst=some n->n<N)
  (ir:bq x mx=true) (gY:bq y my=true) (ht:P.underlying t=some (.slice e)) (hi:P.info? e=some i) (bA:i.size=1) (hx:σ.ev mx=.one (.sl n 1 lo len)) (hy:σ.ev my=.one c) (hn:σ.h n=some (.row gr m 1 xs))
  (hv:bM σ.h c=some (.list 1 ys)) (hm:m≠ .aE) (hs:ft xs=true) (ji:ft ys=true) (gz:lo+len<=xs.length):
  o.wp P a w (Nx B E w0 N ((σ.cX n (.row gr m 1 (bP xs lo (ys.take len)))).put o.dst (.one (.c (.int .i64 (Nat.min ys.length len:Nat)))))) Q:=by
 have H:=r.hr
 obtain⟨x1,_⟩:=r.ev ir
 obtain⟨y1,_⟩:=r.ev gY
 rw[hx] at x1
 rw[hy] at y1
 have fG:c≠ .bg:=by rintro rfl;simp[Am.bM] at hv
 have gh:jc (G.g n) 1 lo len (a.eval x):=(x1.eX (by simp)).1 (by rw[hn];simp)
 obtain⟨pc,p1,p2,p3⟩:=H.bM hv (y1.eX fG).1
 have hr:=H.row n gr m 1 xs hn
 cases pc with
 |int kk nn=>simp[PC.er] at p1
 |bool bb=>simp[PC.er] at p1
 |list s' ya cc py=>
 rw[PC.df] at p1
 injection p1 with e1 e2
 subst e1
 have Au:ys.length=py.length:=by rw[<-e2];simp
 have ZU:a.eval y=.slice ya py.length cc:=p2.symm
 by_cases h0:Nat.min py.length len=0
 ·have Ig:σ.cX n (.row gr m 1 (bP xs lo (ys.take len)))=σ:=by
   have:ys.take len=[]:=by
    apply List.eq_nil_of_length_eq_zero
    rw[List.length_take,Au]
    have:min len py.length=Nat.min py.length len:=Nat.min_comm _ _
    omega
   rw[this,aa7 _ _ (by omega)]
   exact aaL hn
  have xZ:∃Fh,a.eval x=.slice Fh len (match(G.g n).nl with|true=>(G.g n).cap|false=>(G.g n).cap - lo):=by
   rcases gh with⟨aL,hv,_,rfl⟩|⟨aL,a',hv,_,_⟩
   ·exact⟨_,by rw[hv,aL]⟩
   ·exact⟨_,by rw[hv,aL]⟩
  obtain⟨Fh,xZ⟩:=xZ
  rw[Ig,Au,h0]
  refine fT r (v:=.int .i64 0) ?_ (RA.of_int _ _) (fun q hq=>absurd hq pU) hN
  simp only[execOp,ho]
  simp[resolve,invoke,builtin,xZ,ZU,anf ht hi _ _ _ _ _ _ h0]
 ·have hlen:0<len:=by
   rcases Nat.eq_zero_or_pos len with h|h
   ·subst h;exact absurd (Nat.min_zero _) h0
   ·exact h
  have fK:0<py.length:=by
   rcases Nat.eq_zero_or_pos py.length with h|h
   ·rw[h] at h0;exact absurd (Nat.zero_min _) h0
   ·exact h
  rcases gh with⟨_,_,_,rfl⟩|⟨aL,a',g7,jA,ha⟩
  ·omega
  have rU:=ha (.inl (by omega))
  subst rU
  obtain⟨⟨cur,et,hg⟩,l2,l3⟩:=hr.dq aL
  generalize nr:PC.list 1 ya cc py=p at p3
  cases p3 with
  |int k n=>cases nr
  |bool b=>cases nr
  |nil _ _ _ _=>injection nr with _ _ _ e4;subst e4;simp at fK
  |cons _ b oo _ _ q1 q2 q3 q4 q5 q6=>
  injection nr with f1 f2 f3 f4
  subst f1 f2 f3 f4
  have Xx:=ZT q4
  generalize iM:py.flatten=pl at Xx
  subst Xx
  have qU:ys=pl.map fun c=>[c.er]:=by rw[<-e2,List.map_map];rfl
  have tR:∀c∈pl.take len,c.er.dR=true:=by
   intro c hc
   have h6:=List.all_eq_true.1 ji [c.er] (by rw[qU];exact List.mem_map_of_mem (f:=fun c:PC=>[c.er]) (List.mem_of_mem_take hc))
   exact List.all_eq_true.1 h6 c.er (by simp)
  have pE:xs.length=(G.g n).px.length:=by rw[hr.er,List.length_map]
  have N5:(pl.take len).length=Nat.min (pl.map fun c=>[c]).length len:=by rw[List.length_take,List.length_map];exact Nat.min_comm _ _
  have fI:(pl.take len).length<=len:=by rw[List.length_take];exact Nat.min_le_left _ _
  have kT:(G.g n).o+lo+(pl.take len).length<=cur.size:=by
   have h1:lo+len - 1<(G.g n).px.length:=by omega
   have h2:((G.g n).px[lo+len - 1]'h1).length=1:=l2.1 _ (List.getElem_mem h1)
   have hc:=l2.2.1 (lo+len - 1) 0 (((G.g n).px[lo+len - 1]'h1)[0]'(by omega)) ⟨_,List.getElem?_eq_getElem h1,List.getElem?_eq_getElem _⟩
   have:=Cv hg hc
   omega
  obtain⟨G',r'⟩:=r.Wv hn hm hs aL (lo:=lo) (pe:=pl.take len) tR (by omega) hg kT
  have hws:ys.take len=(pl.take len).map fun c=>[c.er]:=by rw[qU,List.map_take]
  rw[hws,show Nat.min ys.length len=Nat.min (pl.map fun c=>[c]).length len by rw[Au]]
  have bm:=ane (P:=P) (w:=w) (t':=t') (ty:=o.type) ht hi bA (G.g n).b ((G.g n).o+lo) len ((G.g n).cap - lo) cur hg (ad b oo) (pl.map fun c=>[c]).length cc ((pl.take len).map PC.val) (by rw[List.length_map,N5]) (fun j u hj=>by
   rw[List.getElem?_map] at hj
   cases hp:(pl.take len)[j]? with
   |none=>rw[hp] at hj;cases hj
   |some c0=>
    rw[hp] at hj
    injection hj with hj
    subst hj
    have bc:pl[j]? =some c0:=by
     rw[List.getElem?_take] at hp
     split at hp
     ·exact hp
     ·cases hp
    have:=q5 j 0 c0 ⟨[c0],by rw[List.getElem?_map,bc];rfl,rfl⟩
    rw[nb]
    rw[show oo+j=oo+j*1+0 by omega]
    exact this) (fun u hu=>by obtain⟨c0,_,rfl⟩:=List.mem_map.1 hu;exact PC.jU c0) (by rw[List.length_map];exact kT)
  refine m6 (w':=dS w (G.g n).b ((G.g n).o+lo) ((pl.take len).map PC.val) cur) (v:=.int .i64 (Nat.min (pl.map fun c=>[c]).length len:Nat)) ?_ ⟨G',r'.put (RA.of_int _ _) (fun q hq=>absurd hq pU) hN⟩
  rw[Nat.mul_one] at g7
  simp only[execOp,ho]
  simp only[List.length_map] at bm⊢
  simp[resolve,invoke,builtin,g7,ZU,List.length_map,bm]
theorem aoC (z0:Value) (n:Nat):(Builtin.zeroCells #[z0] n).toList=List.replicate n z0:=by
 unfold Builtin.zeroCells
 simp
 rw[List.eq_replicate_iff]
 refine⟨by simp,fun b hb=>?_⟩
 obtain⟨i,_,rfl⟩:=List.mem_map.1 hb
 simp[Nat.mod_one]
theorem anc {t ty e:TypeId} (ht:P.underlying t=some (.slice e)) (ya:Option Addr) (c:Nat):
  (Builtin.clear_ #[t] ty #[.slice ya 0 c]).run P w=.ok (.tuple #[]) w:=by
 cases ya<;>simp[Builtin.clear_,run_underlying ht]
theorem anb {t ty e e':TypeId} {i:TypeInfo} {z z0:Value} (ht:P.underlying t=some (.slice e)) (hi:P.info? e=some i) (hz:i.zero=some z) (tZ:z.cells=#[z0]) (h1:z0.oneCell'=true) (g og n c:Nat) (hn:0<n) (cur:Array Value) (hg:w.heap[g]? =some (.cells cur e' (0,0)))
  (gz:og+n<=cur.size):(Builtin.clear_ #[t] ty #[.slice (some (ad g og)) n c]).run P w=.ok (.tuple #[]) (dS w g og (List.replicate n z0) cur):=by
 have mI:=run_storeCells_at P g og e' (List.replicate n z0) 0 cur w hg (by simpa using gz) (fun v hv=>by rw[(List.mem_replicate.1 hv).2];exact h1)
 simp only[Nat.add_zero] at mI
 obtain⟨n,rfl⟩:∃k,n=k+1:=⟨n - 1,by omega⟩
 simp[Builtin.clear_,run_underlying ht,typeInfo,zeroValue,hi,hz,tZ,aoC,ad,mI,dS]
theorem adC (r:R B E w0 N σ a w G) {t e:TypeId} {i:TypeInfo} {z:Value} {x:Operand} {mx:MO} {n lo len:Nat} {zc:C} {xs:List (List C)} {gr:Bool} {m:Mode} (ho:o.op=.call {callee:=.builtin .clear,args:=#[x],argTypes:=#[t]}) (hN:∀n,o.dst=some n->n<N)
  (ir:bq x mx=true) (ht:P.underlying t=some (.slice e)) (hi:P.info? e=some i) (hz:i.zero=some z) (hc:tv z.cells.toList [zc]=true) (qV:zc.dR=true) (hx:σ.ev mx=.one (.sl n 1 lo len)) (hn:σ.h n=some (.row gr m 1 xs))
  (hm:m≠ .aE) (hs:ft xs=true) (gz:lo+len<=xs.length):
  o.wp P a w (Nx B E w0 N ((σ.cX n (.row gr m 1 (bP xs lo (List.replicate len [zc])))).put o.dst (.bj []))) Q:=by
 have H:=r.hr
 obtain⟨x1,_⟩:=r.ev ir
 rw[hx] at x1
 have gh:jc (G.g n) 1 lo len (a.eval x):=(x1.eX (by simp)).1 (by rw[hn];simp)
 have hr:=H.row n gr m 1 xs hn
 obtain⟨b1,b2,b3⟩:=L3 (w:=w) hc
 have C2:∀w G' h',RA w G' h' (.bj []) (.tuple #[]):=fun w G' h'=>⟨[],rfl,rfl,by simp⟩
 have tZ:z.cells=#[(kF zc).val]:=by
  apply Array.ext'
  rw[<-b2]
  rfl
 rcases Nat.eq_zero_or_pos len with rfl|hlen
 ·have xZ:∃Fh c,a.eval x=.slice Fh 0 c:=by
   rcases gh with⟨aL,hv,_,_⟩|⟨aL,a',hv,_,_⟩
   ·exact⟨_,_,hv⟩
   ·exact⟨_,_,hv⟩
  obtain⟨Fh,c,xZ⟩:=xZ
  rw[show bP xs lo (List.replicate 0 [zc])=xs from aa7 _ _ (by omega),aaL hn]
  refine fT r (v:=.tuple #[]) ?_ (C2 _ _ _) (fun q hq=>?_) hN
  ·simp only[execOp,ho]
   simp[resolve,invoke,builtin,xZ,anc ht]
  ·obtain⟨x,hx,_⟩:=hq;simp at hx
 ·rcases gh with⟨_,_,_,rfl⟩|⟨aL,a',g7,jA,ha⟩
  ·omega
  have rU:=ha (.inl (by omega))
  subst rU
  obtain⟨⟨cur,et,hg⟩,l2,l3⟩:=hr.dq aL
  have pE:xs.length=(G.g n).px.length:=by rw[hr.er,List.length_map]
  have kT:(G.g n).o+lo+len<=cur.size:=by
   have h1:lo+len - 1<(G.g n).px.length:=by omega
   have h2:((G.g n).px[lo+len - 1]'h1).length=1:=l2.1 _ (List.getElem_mem h1)
   have hc:=l2.2.1 (lo+len - 1) 0 (((G.g n).px[lo+len - 1]'h1)[0]'(by omega)) ⟨_,List.getElem?_eq_getElem h1,List.getElem?_eq_getElem _⟩
   have:=Cv hg hc
   omega
  have tL:(kF zc).er=zc:=by simpa using b1
  obtain⟨G',r'⟩:=r.Wv hn hm hs aL (lo:=lo) (pe:=List.replicate len (kF zc)) (fun c hc=>by rw[(List.mem_replicate.1 hc).2,tL];exact qV) (by rw[List.length_replicate];exact gz) hg (by rw[List.length_replicate];exact kT)
  rw[List.map_replicate,List.map_replicate,tL] at r'
  have bm:=anb (P:=P) (w:=w) (ty:=o.type) ht hi hz tZ (PC.jU _) (G.g n).b ((G.g n).o+lo) len ((G.g n).cap - lo) hlen cur hg kT
  refine m6 (w':=dS w (G.g n).b ((G.g n).o+lo) (List.replicate len (kF zc).val) cur) (v:=.tuple #[]) ?_ ⟨G',r'.put (C2 _ _ _) (fun q hq=>by obtain⟨x,hx,_⟩:=hq;simp at hx) hN⟩
  rw[Nat.mul_one] at g7
  simp only[execOp,ho]
  simp[resolve,invoke,builtin,g7,bm]
end
end Go.Am
