/- AmU: the builtins copy and clear on lists of ints. No condition. -/
import Derived.Test.YtfkfmbhknekkdaaAmT
set_option linter.unusedVariables false
namespace Go.Am
section
variable {B:Nat} {E:Ex} {w0 w w':World} {G G':Gh} {N:Nat} {h h':Nat->Option ak} {used:Nat->Bool}
variable {P:Program} {o:Oper} {a:Act} {σ σ':St} {Q:Exit->Act->World->Prop}
theorem Xo {α:Type}:∀{py:List (List α)},(∀e∈py,e.length=1)->py=py.flatten.map fun c=>[c]
 |[],_=>rfl
 |e::py,h=>by
  have h1:=h e (by simp)
  match e,h1 with
  |[c],_=>
   rw[List.flatten_cons,List.map_append,<-Xo (py:=py) fun e he=>h e (by simp[he])]
   rfl
theorem Yn {n:Nat} {b:ak} (hn:σ.h n=some b):σ.df n b=σ:=by
 unfold St.df
 rw[<-hn,Dd]
theorem YO {α:Type} (xs:List α) (lo:Nat) (h:lo<=xs.length):bY xs lo []=xs:=by simp[bY]
theorem aj6 {t t' ty e e':TypeId} {i:TypeInfo} (ht:P.underlying t=some (.slice e)) (hi:P.info? e=some i) (bo:i.size=1) (g og vP Jf:Nat) (cur:Array Value) (hg:w.heap[g]? =some (.cells cur e' (0,0)))
  (a:Addr) (m c:Nat) (fh:List Value) (hl:fh.length=Nat.min m vP) (qU:∀j u,fh[j]? =some u->w.cell? (a.add j)=some u) (h1:∀u∈fh,u.oneCell'=true) (fJ:og+fh.length<=cur.size):
  (Builtin.copy_ #[t,t'] ty #[.slice (some (ad g og)) vP Jf,.slice (some a) m c]).run P w=.ok (.int .i64 (Nat.min m vP:Nat)) (dY w g og fh cur):=by
 have hf:=run_firstCells_some (P:=P) w i.size (Nat.min m vP) a m c fh (by rw[hl,bo,Nat.mul_one]) qU
 have lE:=run_storeCells_at P g og e' fh 0 cur w hg (by simpa using fJ) h1
 simp only[Nat.add_zero] at lE
 simp[Builtin.copy_,run_underlying ht,sizeOf,typeInfo,hi,Builtin.lenOf,hf,ad,lE,dY,goInt]
theorem aj7 {t t' ty e:TypeId} {i:TypeInfo} (ht:P.underlying t=some (.slice e)) (hi:P.info? e=some i) (ya a':Option Addr) (vP Jf m c:Nat) (h0:Nat.min m vP=0):
  (Builtin.copy_ #[t,t'] ty #[.slice ya vP Jf,.slice a' m c]).run P w=.ok (.int .i64 0) w:=by
 cases ya<;>cases a'<;>simp[Builtin.copy_,run_underlying ht,sizeOf,typeInfo,hi,Builtin.lenOf,h0,Builtin.firstCells,loadCells,loadCellsFrom,storeCells,goInt]
theorem abx (r:R B E w0 N σ a w G) {t t' e:TypeId} {i:TypeInfo} {x y:Operand} {mx my:MO} {n lo len:Nat} {c:ae} {ys xs:List (List C)} {gr:Bool} {m:Mode} (ho:o.op=.call {callee:=.builtin .copy,args:=#[x,y],argTypes:=#[t,t']}) (hN:∀n,o.dst=some n->n<N)
  (iz:bi x mx=true) (iK:bi y my=true) (ht:P.underlying t=some (.slice e)) (hi:P.info? e=some i) (bo:i.size=1) (hx:σ.ev mx=.one (.sl n 1 lo len)) (hy:σ.ev my=.one c) (hn:σ.h n=some (.row gr m 1 xs))
  (hv:bS σ.h c=some (.list 1 ys)) (hm:m≠ .aF) (hs:fB xs=true) (iN:fB ys=true) (fJ:lo+len<=xs.length):
  o.wp P a w (Nx B E w0 N ((σ.df n (.row gr m 1 (bY xs lo (ys.take len)))).put o.dst (.one (.c (.int .i64 (Nat.min ys.length len:Nat)))))) Q:=by
 have H:=r.hr
 obtain⟨x1,_⟩:=r.ev iz
 obtain⟨y1,_⟩:=r.ev iK
 rw[hx] at x1
 rw[hy] at y1
 have eE:c≠ .bg:=by rintro rfl;simp[Am.bS] at hv
 have fQ:gy (G.g n) 1 lo len (a.eval x):=(x1.eB (by simp)).1 (by rw[hn];simp)
 obtain⟨pc,p1,p2,p3⟩:=H.bS hv (y1.eB eE).1
 have hr:=H.row n gr m 1 xs hn
 cases pc with
 |int kk nn=>simp[PC.er] at p1
 |bool bb=>simp[PC.er] at p1
 |list s' ya cc py=>
 rw[PC.du] at p1
 injection p1 with e1 e2
 subst e1
 have y6:ys.length=py.length:=by rw[<-e2];simp
 have Xp:a.eval y=.slice ya py.length cc:=p2.symm
 by_cases h0:Nat.min py.length len=0
 ·have FA:σ.df n (.row gr m 1 (bY xs lo (ys.take len)))=σ:=by
   have:ys.take len=[]:=by
    apply List.eq_nil_of_length_eq_zero
    rw[List.length_take,y6]
    have:min len py.length=Nat.min py.length len:=Nat.min_comm _ _
    omega
   rw[this,YO _ _ (by omega)]
   exact Yn hn
  have wc:∃Di,a.eval x=.slice Di len (match(G.g n).nl with|true=>(G.g n).cap|false=>(G.g n).cap - lo):=by
   rcases fQ with⟨aE,hv,_,rfl⟩|⟨aE,a',hv,_,_⟩
   ·exact⟨_,by rw[hv,aE]⟩
   ·exact⟨_,by rw[hv,aE]⟩
  obtain⟨Di,wc⟩:=wc
  rw[FA,y6,h0]
  refine fH r (v:=.int .i64 0) ?_ (RA.of_int _ _) (fun q hq=>absurd hq oB) hN
  simp only[execOp,ho]
  simp[resolve,invoke,builtin,wc,Xp,aj7 ht hi _ _ _ _ _ _ h0]
 ·have hlen:0<len:=by
   rcases Nat.eq_zero_or_pos len with h|h
   ·subst h;exact absurd (Nat.min_zero _) h0
   ·exact h
  have eH:0<py.length:=by
   rcases Nat.eq_zero_or_pos py.length with h|h
   ·rw[h] at h0;exact absurd (Nat.zero_min _) h0
   ·exact h
  rcases fQ with⟨_,_,_,rfl⟩|⟨aE,a',gQ,hH,ha⟩
  ·omega
  have qM:=ha (.inl (by omega))
  subst qM
  obtain⟨⟨cur,et,hg⟩,l2,l3⟩:=hr.dv aE
  generalize me:PC.list 1 ya cc py=p at p3
  cases p3 with
  |int k n=>cases me
  |bool b=>cases me
  |nil _ _ _ _=>injection me with _ _ _ e4;subst e4;simp at eH
  |cons _ b oo _ _ q1 q2 q3 q4 q5 q6=>
  injection me with f1 f2 f3 f4
  subst f1 f2 f3 f4
  have Uh:=Xo q4
  generalize iy:py.flatten=pl at Uh
  subst Uh
  have nf:ys=pl.map fun c=>[c.er]:=by rw[<-e2,List.map_map];rfl
  have sD:∀c∈pl.take len,c.er.dX=true:=by
   intro c hc
   have h6:=List.all_eq_true.1 iN [c.er] (by rw[nf];exact List.mem_map_of_mem (f:=fun c:PC=>[c.er]) (List.mem_of_mem_take hc))
   exact List.all_eq_true.1 h6 c.er (by simp)
  have oe:xs.length=(G.g n).px.length:=by rw[hr.er,List.length_map]
  have K3:(pl.take len).length=Nat.min (pl.map fun c=>[c]).length len:=by rw[List.length_take,List.length_map];exact Nat.min_comm _ _
  have eU:(pl.take len).length<=len:=by rw[List.length_take];exact Nat.min_le_left _ _
  have pD:(G.g n).o+lo+(pl.take len).length<=cur.size:=by
   have h1:lo+len - 1<(G.g n).px.length:=by omega
   have h2:((G.g n).px[lo+len - 1]'h1).length=1:=l2.1 _ (List.getElem_mem h1)
   have hc:=l2.2.1 (lo+len - 1) 0 (((G.g n).px[lo+len - 1]'h1)[0]'(by omega)) ⟨_,List.getElem?_eq_getElem h1,List.getElem?_eq_getElem _⟩
   have:=AS hg hc
   omega
  obtain⟨G',r'⟩:=r.S3 hn hm hs aE (lo:=lo) (pe:=pl.take len) sD (by omega) hg pD
  have hws:ys.take len=(pl.take len).map fun c=>[c.er]:=by rw[nf,List.map_take]
  rw[hws,show Nat.min ys.length len=Nat.min (pl.map fun c=>[c]).length len by rw[y6]]
  have bH:=aj6 (P:=P) (w:=w) (t':=t') (ty:=o.type) ht hi bo (G.g n).b ((G.g n).o+lo) len ((G.g n).cap - lo) cur hg (ad b oo) (pl.map fun c=>[c]).length cc ((pl.take len).map PC.val) (by rw[List.length_map,K3]) (fun j u hj=>by
   rw[List.getElem?_map] at hj
   cases hp:(pl.take len)[j]? with
   |none=>rw[hp] at hj;cases hj
   |some c0=>
    rw[hp] at hj
    injection hj with hj
    subst hj
    have aX:pl[j]? =some c0:=by
     rw[List.getElem?_take] at hp
     split at hp
     ·exact hp
     ·cases hp
    have:=q5 j 0 c0 ⟨[c0],by rw[List.getElem?_map,aX];rfl,rfl⟩
    rw[lV]
    rw[show oo+j=oo+j*1+0 by omega]
    exact this) (fun u hu=>by obtain⟨c0,_,rfl⟩:=List.mem_map.1 hu;exact PC.jN c0) (by rw[List.length_map];exact pD)
  refine lR (w':=dY w (G.g n).b ((G.g n).o+lo) ((pl.take len).map PC.val) cur) (v:=.int .i64 (Nat.min (pl.map fun c=>[c]).length len:Nat)) ?_ ⟨G',r'.put (RA.of_int _ _) (fun q hq=>absurd hq oB) hN⟩
  rw[Nat.mul_one] at gQ
  simp only[execOp,ho]
  simp only[List.length_map] at bH⊢
  simp[resolve,invoke,builtin,gQ,Xp,List.length_map,bH]
theorem alG (z0:Value) (n:Nat):(Builtin.zeroCells #[z0] n).toList=List.replicate n z0:=by
 unfold Builtin.zeroCells
 simp
 rw[List.eq_replicate_iff]
 refine⟨by simp,fun b hb=>?_⟩
 obtain⟨i,_,rfl⟩:=List.mem_map.1 hb
 simp[Nat.mod_one]
theorem aj5 {t ty e:TypeId} (ht:P.underlying t=some (.slice e)) (ya:Option Addr) (c:Nat):
  (Builtin.clear_ #[t] ty #[.slice ya 0 c]).run P w=.ok (.tuple #[]) w:=by
 cases ya<;>simp[Builtin.clear_,run_underlying ht]
theorem aj4 {t ty e e':TypeId} {i:TypeInfo} {z z0:Value} (ht:P.underlying t=some (.slice e)) (hi:P.info? e=some i) (hz:i.zero=some z) (sL:z.cells=#[z0]) (h1:z0.oneCell'=true) (g og n c:Nat) (hn:0<n) (cur:Array Value) (hg:w.heap[g]? =some (.cells cur e' (0,0)))
  (fJ:og+n<=cur.size):(Builtin.clear_ #[t] ty #[.slice (some (ad g og)) n c]).run P w=.ok (.tuple #[]) (dY w g og (List.replicate n z0) cur):=by
 have lE:=run_storeCells_at P g og e' (List.replicate n z0) 0 cur w hg (by simpa using fJ) (fun v hv=>by rw[(List.mem_replicate.1 hv).2];exact h1)
 simp only[Nat.add_zero] at lE
 obtain⟨n,rfl⟩:∃k,n=k+1:=⟨n - 1,by omega⟩
 simp[Builtin.clear_,run_underlying ht,typeInfo,zeroValue,hi,hz,sL,alG,ad,lE,dY]
theorem abv (r:R B E w0 N σ a w G) {t e:TypeId} {i:TypeInfo} {z:Value} {x:Operand} {mx:MO} {n lo len:Nat} {zc:C} {xs:List (List C)} {gr:Bool} {m:Mode} (ho:o.op=.call {callee:=.builtin .clear,args:=#[x],argTypes:=#[t]}) (hN:∀n,o.dst=some n->n<N)
  (iz:bi x mx=true) (ht:P.underlying t=some (.slice e)) (hi:P.info? e=some i) (hz:i.zero=some z) (hc:r6 z.cells.toList [zc]=true) (pP:zc.dX=true) (hx:σ.ev mx=.one (.sl n 1 lo len)) (hn:σ.h n=some (.row gr m 1 xs))
  (hm:m≠ .aF) (hs:fB xs=true) (fJ:lo+len<=xs.length):
  o.wp P a w (Nx B E w0 N ((σ.df n (.row gr m 1 (bY xs lo (List.replicate len [zc])))).put o.dst (.aY []))) Q:=by
 have H:=r.hr
 obtain⟨x1,_⟩:=r.ev iz
 rw[hx] at x1
 have fQ:gy (G.g n) 1 lo len (a.eval x):=(x1.eB (by simp)).1 (by rw[hn];simp)
 have hr:=H.row n gr m 1 xs hn
 obtain⟨b1,b2,b3⟩:=I8 (w:=w) hc
 have Bq:∀w G' h',RA w G' h' (.aY []) (.tuple #[]):=fun w G' h'=>⟨[],rfl,rfl,by simp⟩
 have sL:z.cells=#[(jO zc).val]:=by
  apply Array.ext'
  rw[<-b2]
  rfl
 rcases Nat.eq_zero_or_pos len with rfl|hlen
 ·have wc:∃Di c,a.eval x=.slice Di 0 c:=by
   rcases fQ with⟨aE,hv,_,_⟩|⟨aE,a',hv,_,_⟩
   ·exact⟨_,_,hv⟩
   ·exact⟨_,_,hv⟩
  obtain⟨Di,c,wc⟩:=wc
  rw[show bY xs lo (List.replicate 0 [zc])=xs from YO _ _ (by omega),Yn hn]
  refine fH r (v:=.tuple #[]) ?_ (Bq _ _ _) (fun q hq=>?_) hN
  ·simp only[execOp,ho]
   simp[resolve,invoke,builtin,wc,aj5 ht]
  ·obtain⟨x,hx,_⟩:=hq;simp at hx
 ·rcases fQ with⟨_,_,_,rfl⟩|⟨aE,a',gQ,hH,ha⟩
  ·omega
  have qM:=ha (.inl (by omega))
  subst qM
  obtain⟨⟨cur,et,hg⟩,l2,l3⟩:=hr.dv aE
  have oe:xs.length=(G.g n).px.length:=by rw[hr.er,List.length_map]
  have pD:(G.g n).o+lo+len<=cur.size:=by
   have h1:lo+len - 1<(G.g n).px.length:=by omega
   have h2:((G.g n).px[lo+len - 1]'h1).length=1:=l2.1 _ (List.getElem_mem h1)
   have hc:=l2.2.1 (lo+len - 1) 0 (((G.g n).px[lo+len - 1]'h1)[0]'(by omega)) ⟨_,List.getElem?_eq_getElem h1,List.getElem?_eq_getElem _⟩
   have:=AS hg hc
   omega
  have sx:(jO zc).er=zc:=by simpa using b1
  obtain⟨G',r'⟩:=r.S3 hn hm hs aE (lo:=lo) (pe:=List.replicate len (jO zc)) (fun c hc=>by rw[(List.mem_replicate.1 hc).2,sx];exact pP) (by rw[List.length_replicate];exact fJ) hg (by rw[List.length_replicate];exact pD)
  rw[List.map_replicate,List.map_replicate,sx] at r'
  have bH:=aj4 (P:=P) (w:=w) (ty:=o.type) ht hi hz sL (PC.jN _) (G.g n).b ((G.g n).o+lo) len ((G.g n).cap - lo) hlen cur hg pD
  refine lR (w':=dY w (G.g n).b ((G.g n).o+lo) (List.replicate len (jO zc).val) cur) (v:=.tuple #[]) ?_ ⟨G',r'.put (Bq _ _ _) (fun q hq=>by obtain⟨x,hx,_⟩:=hq;simp at hx) hN⟩
  rw[Nat.mul_one] at gQ
  simp only[execOp,ho]
  simp[resolve,invoke,builtin,gQ,bH]
end
end Go.Am
