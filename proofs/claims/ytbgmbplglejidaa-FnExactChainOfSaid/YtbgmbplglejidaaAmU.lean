/- AmU: the builtins copy and clear on lists of ints. No condition. -/
import Derived.Test.YtbgmbplglejidaaAmT
set_option linter.unusedVariables false
namespace Go.Am
section
variable {B:Nat} {E:Ex} {w0 w w':World} {G G':Gh} {N:Nat} {h h':Nat->Option aq} {used:Nat->Bool}
variable {P:Program} {o:Oper} {a:Act} {σ σ':St} {Q:Exit->Act->World->Prop}
theorem abv {α:Type}:∀{py:List (List α)},(∀e∈py,e.length=1)->py=py.flatten.map fun c=>[c]
 |[],_=>rfl
 |e::py,h=>by
  have h1:=h e (by simp)
  match e,h1 with
  |[c],_=>
   rw[List.flatten_cons,List.map_append,<-abv (py:=py) fun e he=>h e (by simp[he])]
   rfl
theorem acE {n:Nat} {b:aq} (hn:σ.h n=some b):σ.du n b=σ:=by
 unfold St.du
 rw[<-hn,FG]
theorem ada {α:Type} (xs:List α) (lo:Nat) (h:lo<=xs.length):bX xs lo []=xs:=by simp[bX]
theorem apj {t t' ty e e':TypeId} {i:TypeInfo} (ht:P.underlying t=some (.slice e)) (hi:P.info? e=some i) (bF:i.size=1) (g og x8 MS:Nat) (cur:Array Value) (hg:w.heap[g]? =some (.cells cur e' (0,0)))
  (a:Addr) (m c:Nat) (fF:List Value) (hl:fF.length=Nat.min m x8) (sT:∀j u,fF[j]? =some u->w.cell? (a.add j)=some u) (h1:∀u∈fF,u.oneCell'=true) (g0:og+fF.length<=cur.size):
  (Builtin.copy_ #[t,t'] ty #[.slice (some (ad g og)) x8 MS,.slice (some a) m c]).run P w=.ok (.int .i64 (Nat.min m x8:Nat)) (eG w g og fF cur):=by
 have hf:=run_firstCells_some (P:=P) w i.size (Nat.min m x8) a m c fF (by rw[hl,bF,Nat.mul_one]) sT
 have cq:=run_storeCells_at P g og e' fF 0 cur w hg (by simpa using g0) h1
 simp only[Nat.add_zero] at cq
 simp[Builtin.copy_,run_underlying ht,sizeOf,typeInfo,hi,Builtin.lenOf,hf,ad,cq,eG,goInt]
theorem apk {t t' ty e:TypeId} {i:TypeInfo} (ht:P.underlying t=some (.slice e)) (hi:P.info? e=some i) (ya a':Option Addr) (x8 MS m c:Nat) (h0:Nat.min m x8=0):
  (Builtin.copy_ #[t,t'] ty #[.slice ya x8 MS,.slice a' m c]).run P w=.ok (.int .i64 0) w:=by
 cases ya<;>cases a'<;>simp[Builtin.copy_,run_underlying ht,sizeOf,typeInfo,hi,Builtin.lenOf,h0,Builtin.firstCells,loadCells,loadCellsFrom,storeCells,goInt]
theorem afL (r:R B E w0 N σ a w G) {t t' e:TypeId} {i:TypeInfo} {x y:Operand} {mx my:MO} {n lo len:Nat} {c:ah} {ys xs:List (List C)} {gr:Bool} {m:Mode} (ho:o.op=.call {callee:=.builtin .copy,args:=#[x,y],argTypes:=#[t,t']}) (hN:∀n,o.dst=some n->n<N)
  (fR:bz x mx=true) (jO:bz y my=true) (ht:P.underlying t=some (.slice e)) (hi:P.info? e=some i) (bF:i.size=1) (hx:σ.ev mx=.one (.sl n 1 lo len)) (hy:σ.ev my=.one c) (hn:σ.h n=some (.row gr m 1 xs))
  (hv:bU σ.h c=some (.list 1 ys)) (hm:m≠ .aO) (hs:fQ xs=true) (jQ:fQ ys=true) (g0:lo+len<=xs.length):
  o.wp P a w (Nx B E w0 N ((σ.du n (.row gr m 1 (bX xs lo (ys.take len)))).put o.dst (.one (.c (.int .i64 (Nat.min ys.length len:Nat)))))) Q:=by
 have H:=r.hr
 obtain⟨x1,_⟩:=r.ev fR
 obtain⟨y1,_⟩:=r.ev jO
 rw[hx] at x1
 rw[hy] at y1
 have f9:c≠ .bn:=by rintro rfl;simp[Am.bU] at hv
 have fV:jg (G.g n) 1 lo len (a.eval x):=(x1.fz (by simp)).1 (by rw[hn];simp)
 obtain⟨pc,p1,p2,p3⟩:=H.bU hv (y1.fz f9).1
 have hr:=H.row n gr m 1 xs hn
 cases pc with
 |int kk nn=>simp[PC.er] at p1
 |bool bb=>simp[PC.er] at p1
 |list s' ya cc py=>
 rw[PC.dG] at p1
 injection p1 with e1 e2
 subst e1
 have Bg:ys.length=py.length:=by rw[<-e2];simp
 have p2':a.eval y=.slice ya py.length cc:=p2.symm
 by_cases h0:Nat.min py.length len=0
 ·have I8:σ.du n (.row gr m 1 (bX xs lo (ys.take len)))=σ:=by
   have:ys.take len=[]:=by
    apply List.eq_nil_of_length_eq_zero
    rw[List.length_take,Bg]
    have:min len py.length=Nat.min py.length len:=Nat.min_comm _ _
    omega
   rw[this,ada _ _ (by omega)]
   exact acE hn
  have yq:∃FL,a.eval x=.slice FL len (match(G.g n).nl with|true=>(G.g n).cap|false=>(G.g n).cap - lo):=by
   rcases fV with⟨aR,hv,_,rfl⟩|⟨aR,a',hv,_,_⟩
   ·exact⟨_,by rw[hv,aR]⟩
   ·exact⟨_,by rw[hv,aR]⟩
  obtain⟨FL,yq⟩:=yq
  rw[I8,Bg,h0]
  refine gk r (v:=.int .i64 0) ?_ (RA.of_int _ _) (fun q hq=>absurd hq qC) hN
  simp only[execOp,ho]
  simp[resolve,invoke,builtin,yq,p2',apk ht hi _ _ _ _ _ _ h0]
 ·have hlen:0<len:=by
   rcases Nat.eq_zero_or_pos len with h|h
   ·subst h;exact absurd (Nat.min_zero _) h0
   ·exact h
  have fk:0<py.length:=by
   rcases Nat.eq_zero_or_pos py.length with h|h
   ·rw[h] at h0;exact absurd (Nat.zero_min _) h0
   ·exact h
  rcases fV with⟨_,_,_,rfl⟩|⟨aR,a',iD,jk,ha⟩
  ·omega
  have oQ:=ha (.inl (by omega))
  subst oQ
  obtain⟨⟨cur,et,hg⟩,l2,l3⟩:=hr.dT aR
  generalize nR:PC.list 1 ya cc py=p at p3
  cases p3 with
  |int k n=>cases nR
  |bool b=>cases nR
  |nil _ _ _ _=>injection nR with _ _ _ e4;subst e4;simp at fk
  |cons _ b oo _ _ q1 q2 q3 q4 q5 q6=>
  injection nR with f1 f2 f3 f4
  subst f1 f2 f3 f4
  have ZV:=abv q4
  generalize jl:py.flatten=pl at ZV
  subst ZV
  have rF:ys=pl.map fun c=>[c.er]:=by rw[<-e2,List.map_map];rfl
  have sU:∀c∈pl.take len,c.er.eF=true:=by
   intro c hc
   have h6:=List.all_eq_true.1 jQ [c.er] (by rw[rF];exact List.mem_map_of_mem (f:=fun c:PC=>[c.er]) (List.mem_of_mem_take hc))
   exact List.all_eq_true.1 h6 c.er (by simp)
  have qg:xs.length=(G.g n).px.length:=by rw[hr.er,List.length_map]
  have Pn:(pl.take len).length=Nat.min (pl.map fun c=>[c]).length len:=by rw[List.length_take,List.length_map];exact Nat.min_comm _ _
  have gI:(pl.take len).length<=len:=by rw[List.length_take];exact Nat.min_le_left _ _
  have lH:(G.g n).o+lo+(pl.take len).length<=cur.size:=by
   have h1:lo+len - 1<(G.g n).px.length:=by omega
   have h2:((G.g n).px[lo+len - 1]'h1).length=1:=l2.1 _ (List.getElem_mem h1)
   have hc:=l2.2.1 (lo+len - 1) 0 (((G.g n).px[lo+len - 1]'h1)[0]'(by omega)) ⟨_,List.getElem?_eq_getElem h1,List.getElem?_eq_getElem _⟩
   have:=CY hg hc
   omega
  obtain⟨G',r'⟩:=r.YP hn hm hs aR (lo:=lo) (pe:=pl.take len) sU (by omega) hg lH
  have hws:ys.take len=(pl.take len).map fun c=>[c.er]:=by rw[rF,List.map_take]
  rw[hws,show Nat.min ys.length len=Nat.min (pl.map fun c=>[c]).length len by rw[Bg]]
  have bO:=apj (P:=P) (w:=w) (t':=t') (ty:=o.type) ht hi bF (G.g n).b ((G.g n).o+lo) len ((G.g n).cap - lo) cur hg (ad b oo) (pl.map fun c=>[c]).length cc ((pl.take len).map PC.val) (by rw[List.length_map,Pn]) (fun j u hj=>by
   rw[List.getElem?_map] at hj
   cases hp:(pl.take len)[j]? with
   |none=>rw[hp] at hj;cases hj
   |some c0=>
    rw[hp] at hj
    injection hj with hj
    subst hj
    have be:pl[j]? =some c0:=by
     rw[List.getElem?_take] at hp
     split at hp
     ·exact hp
     ·cases hp
    have:=q5 j 0 c0 ⟨[c0],by rw[List.getElem?_map,be];rfl,rfl⟩
    rw[nK]
    rw[show oo+j=oo+j*1+0 by omega]
    exact this) (fun u hu=>by obtain⟨c0,_,rfl⟩:=List.mem_map.1 hu;exact PC.kv c0) (by rw[List.length_map];exact lH)
  refine nD (w':=eG w (G.g n).b ((G.g n).o+lo) ((pl.take len).map PC.val) cur) (v:=.int .i64 (Nat.min (pl.map fun c=>[c]).length len:Nat)) ?_ ⟨G',r'.put (RA.of_int _ _) (fun q hq=>absurd hq qC) hN⟩
  rw[Nat.mul_one] at iD
  simp only[execOp,ho]
  simp only[List.length_map] at bO⊢
  simp[resolve,invoke,builtin,iD,p2',List.length_map,bO]
theorem aqO (z0:Value) (n:Nat):(Builtin.zeroCells #[z0] n).toList=List.replicate n z0:=by
 unfold Builtin.zeroCells
 simp
 rw[List.eq_replicate_iff]
 refine⟨by simp,fun b hb=>?_⟩
 obtain⟨i,_,rfl⟩:=List.mem_map.1 hb
 simp[Nat.mod_one]
theorem api {t ty e:TypeId} (ht:P.underlying t=some (.slice e)) (ya:Option Addr) (c:Nat):
  (Builtin.clear_ #[t] ty #[.slice ya 0 c]).run P w=.ok (.tuple #[]) w:=by
 cases ya<;>simp[Builtin.clear_,run_underlying ht]
theorem aph {t ty e e':TypeId} {i:TypeInfo} {z z0:Value} (ht:P.underlying t=some (.slice e)) (hi:P.info? e=some i) (hz:i.zero=some z) (uI:z.cells=#[z0]) (h1:z0.oneCell'=true) (g og n c:Nat) (hn:0<n) (cur:Array Value) (hg:w.heap[g]? =some (.cells cur e' (0,0)))
  (g0:og+n<=cur.size):(Builtin.clear_ #[t] ty #[.slice (some (ad g og)) n c]).run P w=.ok (.tuple #[]) (eG w g og (List.replicate n z0) cur):=by
 have cq:=run_storeCells_at P g og e' (List.replicate n z0) 0 cur w hg (by simpa using g0) (fun v hv=>by rw[(List.mem_replicate.1 hv).2];exact h1)
 simp only[Nat.add_zero] at cq
 obtain⟨n,rfl⟩:∃k,n=k+1:=⟨n - 1,by omega⟩
 simp[Builtin.clear_,run_underlying ht,typeInfo,zeroValue,hi,hz,uI,aqO,ad,cq,eG]
theorem afJ (r:R B E w0 N σ a w G) {t e:TypeId} {i:TypeInfo} {z:Value} {x:Operand} {mx:MO} {n lo len:Nat} {zc:C} {xs:List (List C)} {gr:Bool} {m:Mode} (ho:o.op=.call {callee:=.builtin .clear,args:=#[x],argTypes:=#[t]}) (hN:∀n,o.dst=some n->n<N)
  (fR:bz x mx=true) (ht:P.underlying t=some (.slice e)) (hi:P.info? e=some i) (hz:i.zero=some z) (hc:tU z.cells.toList [zc]=true) (rG:zc.eF=true) (hx:σ.ev mx=.one (.sl n 1 lo len)) (hn:σ.h n=some (.row gr m 1 xs))
  (hm:m≠ .aO) (hs:fQ xs=true) (g0:lo+len<=xs.length):
  o.wp P a w (Nx B E w0 N ((σ.du n (.row gr m 1 (bX xs lo (List.replicate len [zc])))).put o.dst (.bo []))) Q:=by
 have H:=r.hr
 obtain⟨x1,_⟩:=r.ev fR
 rw[hx] at x1
 have fV:jg (G.g n) 1 lo len (a.eval x):=(x1.fz (by simp)).1 (by rw[hn];simp)
 have hr:=H.row n gr m 1 xs hn
 obtain⟨b1,b2,b3⟩:=MG (w:=w) hc
 have DD:∀w G' h',RA w G' h' (.bo []) (.tuple #[]):=fun w G' h'=>⟨[],rfl,rfl,by simp⟩
 have uI:z.cells=#[(ld zc).val]:=by
  apply Array.ext'
  rw[<-b2]
  rfl
 rcases Nat.eq_zero_or_pos len with rfl|hlen
 ·have yq:∃FL c,a.eval x=.slice FL 0 c:=by
   rcases fV with⟨aR,hv,_,_⟩|⟨aR,a',hv,_,_⟩
   ·exact⟨_,_,hv⟩
   ·exact⟨_,_,hv⟩
  obtain⟨FL,c,yq⟩:=yq
  rw[show bX xs lo (List.replicate 0 [zc])=xs from ada _ _ (by omega),acE hn]
  refine gk r (v:=.tuple #[]) ?_ (DD _ _ _) (fun q hq=>?_) hN
  ·simp only[execOp,ho]
   simp[resolve,invoke,builtin,yq,api ht]
  ·obtain⟨x,hx,_⟩:=hq;simp at hx
 ·rcases fV with⟨_,_,_,rfl⟩|⟨aR,a',iD,jk,ha⟩
  ·omega
  have oQ:=ha (.inl (by omega))
  subst oQ
  obtain⟨⟨cur,et,hg⟩,l2,l3⟩:=hr.dT aR
  have qg:xs.length=(G.g n).px.length:=by rw[hr.er,List.length_map]
  have lH:(G.g n).o+lo+len<=cur.size:=by
   have h1:lo+len - 1<(G.g n).px.length:=by omega
   have h2:((G.g n).px[lo+len - 1]'h1).length=1:=l2.1 _ (List.getElem_mem h1)
   have hc:=l2.2.1 (lo+len - 1) 0 (((G.g n).px[lo+len - 1]'h1)[0]'(by omega)) ⟨_,List.getElem?_eq_getElem h1,List.getElem?_eq_getElem _⟩
   have:=CY hg hc
   omega
  have ur:(ld zc).er=zc:=by simpa using b1
  obtain⟨G',r'⟩:=r.YP hn hm hs aR (lo:=lo) (pe:=List.replicate len (ld zc)) (fun c hc=>by rw[(List.mem_replicate.1 hc).2,ur];exact rG) (by rw[List.length_replicate];exact g0) hg (by rw[List.length_replicate];exact lH)
  rw[List.map_replicate,List.map_replicate,ur] at r'
  have bO:=aph (P:=P) (w:=w) (ty:=o.type) ht hi hz uI (PC.kv _) (G.g n).b ((G.g n).o+lo) len ((G.g n).cap - lo) hlen cur hg lH
  refine nD (w':=eG w (G.g n).b ((G.g n).o+lo) (List.replicate len (ld zc).val) cur) (v:=.tuple #[]) ?_ ⟨G',r'.put (DD _ _ _) (fun q hq=>by obtain⟨x,hx,_⟩:=hq;simp at hx) hN⟩
  rw[Nat.mul_one] at iD
  simp only[execOp,ho]
  simp[resolve,invoke,builtin,iD,bO]
end
end Go.Am
