/- AmU: the builtins copy and clear on lists of ints. No condition. -/
import Derived.Test.YtbgmbplglejidaaAmT
set_option linter.unusedVariables false
namespace Go.Am
section
variable {B:Nat} {E:Ex} {w0 w w':World} {G G':Gh} {N:Nat} {h h':Nat->Option ar} {used:Nat->Bool}
variable {P:Program} {o:Oper} {a:Act} {σ σ':St} {Q:Exit->Act->World->Prop}
theorem acm {α:Type}:∀{py:List (List α)},(∀e∈py,e.length=1)->py=py.flatten.map fun c=>[c]
 |[],_=>rfl
 |e::py,h=>by
  have h1:=h e (by simp)
  match e,h1 with
  |[c],_=>
   rw[List.flatten_cons,List.map_append,<-acm (py:=py) fun e he=>h e (by simp[he])]
   rfl
theorem adp {n:Nat} {b:ar} (hn:σ.h n=some b):σ.dB n b=σ:=by
 unfold St.dB
 rw[<-hn,GR]
theorem ad0 {α:Type} (xs:List α) (lo:Nat) (h:lo<=xs.length):cv xs lo []=xs:=by simp[cv]
theorem arm {t t' ty e e':TypeId} {i:TypeInfo} (ht:P.underlying t=some (.slice e)) (hi:P.info? e=some i) (bP:i.size=1) (g og yJ NP:Nat) (cur:Array Value) (hg:w.heap[g]? =some (.cells cur e' (0,0)))
  (a:Addr) (m c:Nat) (ga:List Value) (hl:ga.length=Nat.min m yJ) (tx:∀j u,ga[j]? =some u->w.cell? (a.add j)=some u) (h1:∀u∈ga,u.oneCell'=true) (fW:og+ga.length<=cur.size):
  (Builtin.copy_ #[t,t'] ty #[.slice (some (ad g og)) yJ NP,.slice (some a) m c]).run P w=.ok (.int .i64 (Nat.min m yJ:Nat)) (eX w g og ga cur):=by
 have hf:=run_firstCells_some (P:=P) w i.size (Nat.min m yJ) a m c ga (by rw[hl,bP,Nat.mul_one]) tx
 have nY:=run_storeCells_at P g og e' ga 0 cur w hg (by simpa using fW) h1
 simp only[Nat.add_zero] at nY
 simp[Builtin.copy_,run_underlying ht,sizeOf,typeInfo,hi,Builtin.lenOf,hf,ad,nY,eX,goInt]
theorem arn {t t' ty e:TypeId} {i:TypeInfo} (ht:P.underlying t=some (.slice e)) (hi:P.info? e=some i) (ya a':Option Addr) (yJ NP m c:Nat) (h0:Nat.min m yJ=0):
  (Builtin.copy_ #[t,t'] ty #[.slice ya yJ NP,.slice a' m c]).run P w=.ok (.int .i64 0) w:=by
 cases ya<;>cases a'<;>simp[Builtin.copy_,run_underlying ht,sizeOf,typeInfo,hi,Builtin.lenOf,h0,Builtin.firstCells,loadCells,loadCellsFrom,storeCells,goInt]
theorem agN (r:R B E w0 N σ a w G) {t t' e:TypeId} {i:TypeInfo} {x y:Operand} {mx my:MO} {n lo len:Nat} {c:aj} {ys xs:List (List C)} {gr:Bool} {m:Mode} (ho:o.op=.call {callee:=.builtin .copy,args:=#[x,y],argTypes:=#[t,t']}) (hN:∀n,o.dst=some n->n<N)
  (iy:bF x mx=true) (ku:bF y my=true) (ht:P.underlying t=some (.slice e)) (hi:P.info? e=some i) (bP:i.size=1) (hx:σ.ev mx=.one (.sl n 1 lo len)) (hy:σ.ev my=.one c) (hn:σ.h n=some (.row gr m 1 xs))
  (hv:cq σ.h c=some (.list 1 ys)) (hm:m≠ .aG) (hs:gv xs=true) (kx:gv ys=true) (fW:lo+len<=xs.length):
  o.wp P a w (Nx B E w0 N ((σ.dB n (.row gr m 1 (cv xs lo (ys.take len)))).put o.dst (.one (.c (.int .i64 (Nat.min ys.length len:Nat)))))) Q:=by
 have H:=r.hr
 obtain⟨x1,_⟩:=r.ev iy
 obtain⟨y1,_⟩:=r.ev ku
 rw[hx] at x1
 rw[hy] at y1
 have gG:c≠ .bq:=by rintro rfl;simp[Am.cq] at hv
 have gI:jO (G.g n) 1 lo len (a.eval x):=(x1.fS (by simp)).1 (by rw[hn];simp)
 obtain⟨pc,p1,p2,p3⟩:=H.cq hv (y1.fS gG).1
 have hr:=H.row n gr m 1 xs hn
 cases pc with
 |int kk nn=>simp[PC.er] at p1
 |bool bb=>simp[PC.er] at p1
 |list s' ya cc py=>
 rw[PC.dR] at p1
 injection p1 with e1 e2
 subst e1
 have Ct:ys.length=py.length:=by rw[<-e2];simp
 have p2':a.eval y=.slice ya py.length cc:=p2.symm
 by_cases h0:Nat.min py.length len=0
 ·have Ki:σ.dB n (.row gr m 1 (cv xs lo (ys.take len)))=σ:=by
   have:ys.take len=[]:=by
    apply List.eq_nil_of_length_eq_zero
    rw[List.length_take,Ct]
    have:min len py.length=Nat.min py.length len:=Nat.min_comm _ _
    omega
   rw[this,ad0 _ _ (by omega)]
   exact adp hn
  have zb:∃GW,a.eval x=.slice GW len (match(G.g n).nl with|true=>(G.g n).cap|false=>(G.g n).cap - lo):=by
   rcases gI with⟨aN,hv,_,rfl⟩|⟨aN,a',hv,_,_⟩
   ·exact⟨_,by rw[hv,aN]⟩
   ·exact⟨_,by rw[hv,aN]⟩
  obtain⟨GW,zb⟩:=zb
  rw[Ki,Ct,h0]
  refine gS r (v:=.int .i64 0) ?_ (RA.of_int _ _) (fun q hq=>absurd hq rj) hN
  simp only[execOp,ho]
  simp[resolve,invoke,builtin,zb,p2',arn ht hi _ _ _ _ _ _ h0]
 ·have hlen:0<len:=by
   rcases Nat.eq_zero_or_pos len with h|h
   ·subst h;exact absurd (Nat.min_zero _) h0
   ·exact h
  have fY:0<py.length:=by
   rcases Nat.eq_zero_or_pos py.length with h|h
   ·rw[h] at h0;exact absurd (Nat.zero_min _) h0
   ·exact h
  rcases gI with⟨_,_,_,rfl⟩|⟨aN,a',jf,jQ,ha⟩
  ·omega
  have pN:=ha (.inl (by omega))
  subst pN
  obtain⟨⟨cur,et,hg⟩,l2,l3⟩:=hr.dW aN
  generalize oO:PC.list 1 ya cc py=p at p3
  cases p3 with
  |int k n=>cases oO
  |bool b=>cases oO
  |nil _ _ _ _=>injection oO with _ _ _ e4;subst e4;simp at fY
  |cons _ b oo _ _ q1 q2 q3 q4 q5 q6=>
  injection oO with f1 f2 f3 f4
  subst f1 f2 f3 f4
  have hpf:=acm q4
  generalize jR:py.flatten=pl at hpf
  subst hpf
  have sq:ys=pl.map fun c=>[c.er]:=by rw[<-e2,List.map_map];rfl
  have tz:∀c∈pl.take len,c.er.eV=true:=by
   intro c hc
   have h6:=List.all_eq_true.1 kx [c.er] (by rw[sq];exact List.mem_map_of_mem (f:=fun c:PC=>[c.er]) (List.mem_of_mem_take hc))
   exact List.all_eq_true.1 h6 c.er (by simp)
  have oS:xs.length=(G.g n).px.length:=by rw[hr.er,List.length_map]
  have P2:(pl.take len).length=Nat.min (pl.map fun c=>[c]).length len:=by rw[List.length_take,List.length_map];exact Nat.min_comm _ _
  have ig:(pl.take len).length<=len:=by rw[List.length_take];exact Nat.min_le_left _ _
  have mG:(G.g n).o+lo+(pl.take len).length<=cur.size:=by
   have h1:lo+len - 1<(G.g n).px.length:=by omega
   have h2:((G.g n).px[lo+len - 1]'h1).length=1:=l2.1 _ (List.getElem_mem h1)
   have hc:=l2.2.1 (lo+len - 1) 0 (((G.g n).px[lo+len - 1]'h1)[0]'(by omega)) ⟨_,List.getElem?_eq_getElem h1,List.getElem?_eq_getElem _⟩
   have:=Em hg hc
   omega
  obtain⟨G',r'⟩:=r.ZG hn hm hs aN (lo:=lo) (pe:=pl.take len) tz (by omega) hg mG
  have hws:ys.take len=(pl.take len).map fun c=>[c.er]:=by rw[sq,List.map_take]
  rw[hws,show Nat.min ys.length len=Nat.min (pl.map fun c=>[c]).length len by rw[Ct]]
  have bY:=arm (P:=P) (w:=w) (t':=t') (ty:=o.type) ht hi bP (G.g n).b ((G.g n).o+lo) len ((G.g n).cap - lo) cur hg (ad b oo) (pl.map fun c=>[c]).length cc ((pl.take len).map PC.val) (by rw[List.length_map,P2]) (fun j u hj=>by
   rw[List.getElem?_map] at hj
   cases hp:(pl.take len)[j]? with
   |none=>rw[hp] at hj;cases hj
   |some c0=>
    rw[hp] at hj
    injection hj with hj
    subst hj
    have bg:pl[j]? =some c0:=by
     rw[List.getElem?_take] at hp
     split at hp
     ·exact hp
     ·cases hp
    have:=q5 j 0 c0 ⟨[c0],by rw[List.getElem?_map,bg];rfl,rfl⟩
    rw[oI]
    rw[show oo+j=oo+j*1+0 by omega]
    exact this) (fun u hu=>by obtain⟨c0,_,rfl⟩:=List.mem_map.1 hu;exact PC.lx c0) (by rw[List.length_map];exact mG)
  refine oC (w':=eX w (G.g n).b ((G.g n).o+lo) ((pl.take len).map PC.val) cur) (v:=.int .i64 (Nat.min (pl.map fun c=>[c]).length len:Nat)) ?_ ⟨G',r'.put (RA.of_int _ _) (fun q hq=>absurd hq rj) hN⟩
  rw[Nat.mul_one] at jf
  simp only[execOp,ho]
  simp only[List.length_map] at bY⊢
  simp[resolve,invoke,builtin,jf,p2',List.length_map,bY]
theorem atj (z0:Value) (n:Nat):(Builtin.zeroCells #[z0] n).toList=List.replicate n z0:=by
 unfold Builtin.zeroCells
 simp
 rw[List.eq_replicate_iff]
 refine⟨by simp,fun b hb=>?_⟩
 obtain⟨i,_,rfl⟩:=List.mem_map.1 hb
 simp[Nat.mod_one]
theorem arl {t ty e:TypeId} (ht:P.underlying t=some (.slice e)) (ya:Option Addr) (c:Nat):
  (Builtin.clear_ #[t] ty #[.slice ya 0 c]).run P w=.ok (.tuple #[]) w:=by
 cases ya<;>simp[Builtin.clear_,run_underlying ht]
theorem ark {t ty e e':TypeId} {i:TypeInfo} {z z0:Value} (ht:P.underlying t=some (.slice e)) (hi:P.info? e=some i) (hz:i.zero=some z) (vi:z.cells=#[z0]) (h1:z0.oneCell'=true) (g og n c:Nat) (hn:0<n) (cur:Array Value) (hg:w.heap[g]? =some (.cells cur e' (0,0)))
  (fW:og+n<=cur.size):(Builtin.clear_ #[t] ty #[.slice (some (ad g og)) n c]).run P w=.ok (.tuple #[]) (eX w g og (List.replicate n z0) cur):=by
 have nY:=run_storeCells_at P g og e' (List.replicate n z0) 0 cur w hg (by simpa using fW) (fun v hv=>by rw[(List.mem_replicate.1 hv).2];exact h1)
 simp only[Nat.add_zero] at nY
 obtain⟨n,rfl⟩:∃k,n=k+1:=⟨n - 1,by omega⟩
 simp[Builtin.clear_,run_underlying ht,typeInfo,zeroValue,hi,hz,vi,atj,ad,nY,eX]
theorem agL (r:R B E w0 N σ a w G) {t e:TypeId} {i:TypeInfo} {z:Value} {x:Operand} {mx:MO} {n lo len:Nat} {zc:C} {xs:List (List C)} {gr:Bool} {m:Mode} (ho:o.op=.call {callee:=.builtin .clear,args:=#[x],argTypes:=#[t]}) (hN:∀n,o.dst=some n->n<N)
  (iy:bF x mx=true) (ht:P.underlying t=some (.slice e)) (hi:P.info? e=some i) (hz:i.zero=some z) (hc:uE z.cells.toList [zc]=true) (sr:zc.eV=true) (hx:σ.ev mx=.one (.sl n 1 lo len)) (hn:σ.h n=some (.row gr m 1 xs))
  (hm:m≠ .aG) (hs:gv xs=true) (fW:lo+len<=xs.length):
  o.wp P a w (Nx B E w0 N ((σ.dB n (.row gr m 1 (cv xs lo (List.replicate len [zc])))).put o.dst (.br []))) Q:=by
 have H:=r.hr
 obtain⟨x1,_⟩:=r.ev iy
 rw[hx] at x1
 have gI:jO (G.g n) 1 lo len (a.eval x):=(x1.fS (by simp)).1 (by rw[hn];simp)
 have hr:=H.row n gr m 1 xs hn
 obtain⟨b1,b2,b3⟩:=NI (w:=w) hc
 have EY:∀w G' h',RA w G' h' (.br []) (.tuple #[]):=fun w G' h'=>⟨[],rfl,rfl,by simp⟩
 have vi:z.cells=#[(mf zc).val]:=by
  apply Array.ext'
  rw[<-b2]
  rfl
 rcases Nat.eq_zero_or_pos len with rfl|hlen
 ·have zb:∃GW c,a.eval x=.slice GW 0 c:=by
   rcases gI with⟨aN,hv,_,_⟩|⟨aN,a',hv,_,_⟩
   ·exact⟨_,_,hv⟩
   ·exact⟨_,_,hv⟩
  obtain⟨GW,c,zb⟩:=zb
  rw[show cv xs lo (List.replicate 0 [zc])=xs from ad0 _ _ (by omega),adp hn]
  refine gS r (v:=.tuple #[]) ?_ (EY _ _ _) (fun q hq=>?_) hN
  ·simp only[execOp,ho]
   simp[resolve,invoke,builtin,zb,arl ht]
  ·obtain⟨x,hx,_⟩:=hq;simp at hx
 ·rcases gI with⟨_,_,_,rfl⟩|⟨aN,a',jf,jQ,ha⟩
  ·omega
  have pN:=ha (.inl (by omega))
  subst pN
  obtain⟨⟨cur,et,hg⟩,l2,l3⟩:=hr.dW aN
  have oS:xs.length=(G.g n).px.length:=by rw[hr.er,List.length_map]
  have mG:(G.g n).o+lo+len<=cur.size:=by
   have h1:lo+len - 1<(G.g n).px.length:=by omega
   have h2:((G.g n).px[lo+len - 1]'h1).length=1:=l2.1 _ (List.getElem_mem h1)
   have hc:=l2.2.1 (lo+len - 1) 0 (((G.g n).px[lo+len - 1]'h1)[0]'(by omega)) ⟨_,List.getElem?_eq_getElem h1,List.getElem?_eq_getElem _⟩
   have:=Em hg hc
   omega
  have uZ:(mf zc).er=zc:=by simpa using b1
  obtain⟨G',r'⟩:=r.ZG hn hm hs aN (lo:=lo) (pe:=List.replicate len (mf zc)) (fun c hc=>by rw[(List.mem_replicate.1 hc).2,uZ];exact sr) (by rw[List.length_replicate];exact fW) hg (by rw[List.length_replicate];exact mG)
  rw[List.map_replicate,List.map_replicate,uZ] at r'
  have bY:=ark (P:=P) (w:=w) (ty:=o.type) ht hi hz vi (PC.lx _) (G.g n).b ((G.g n).o+lo) len ((G.g n).cap - lo) hlen cur hg mG
  refine oC (w':=eX w (G.g n).b ((G.g n).o+lo) (List.replicate len (mf zc).val) cur) (v:=.tuple #[]) ?_ ⟨G',r'.put (EY _ _ _) (fun q hq=>by obtain⟨x,hx,_⟩:=hq;simp at hx) hN⟩
  rw[Nat.mul_one] at jf
  simp only[execOp,ho]
  simp[resolve,invoke,builtin,jf,bY]
end
end Go.Am
