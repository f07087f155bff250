/- AmU: the builtins copy and clear on lists of ints. No condition. -/
import Derived.Test.YtbgmbplglejidaaAmT
set_option linter.unusedVariables false
namespace Go.Am
section
variable {B:Nat} {E:Ex} {w0 w w':World} {G G':Gh} {N:Nat} {h h':Nat->Option ao} {used:Nat->Bool}
variable {P:Program} {o:Oper} {a:Act} {σ σ':St} {Q:Exit->Act->World->Prop}
theorem aaH {α:Type}:∀{py:List (List α)},(∀e∈py,e.length=1)->py=py.flatten.map fun c=>[c]
 |[],_=>rfl
 |e::py,h=>by
  have h1:=h e (by simp)
  match e,h1 with
  |[c],_=>
   rw[List.flatten_cons,List.map_append,<-aaH (py:=py) fun e he=>h e (by simp[he])]
   rfl
theorem abL {n:Nat} {b:ao} (hn:σ.h n=some b):σ.dn n b=σ:=by
 unfold St.dn
 rw[<-hn,Ft]
theorem aci {α:Type} (xs:List α) (lo:Nat) (h:lo<=xs.length):cj xs lo []=xs:=by simp[cj]
theorem anV {t t' ty e e':TypeId} {i:TypeInfo} (ht:P.underlying t=some (.slice e)) (hi:P.info? e=some i) (bD:i.size=1) (g og xT Mq:Nat) (cur:Array Value) (hg:w.heap[g]? =some (.cells cur e' (0,0)))
  (a:Addr) (m c:Nat) (fQ:List Value) (hl:fQ.length=Nat.min m xT) (sK:∀j u,fQ[j]? =some u->w.cell? (a.add j)=some u) (h1:∀u∈fQ,u.oneCell'=true) (gh:og+fQ.length<=cur.size):
  (Builtin.copy_ #[t,t'] ty #[.slice (some (ad g og)) xT Mq,.slice (some a) m c]).run P w=.ok (.int .i64 (Nat.min m xT:Nat)) (eO w g og fQ cur):=by
 have hf:=run_firstCells_some (P:=P) w i.size (Nat.min m xT) a m c fQ (by rw[hl,bD,Nat.mul_one]) sK
 have ed:=run_storeCells_at P g og e' fQ 0 cur w hg (by simpa using gh) h1
 simp only[Nat.add_zero] at ed
 simp[Builtin.copy_,run_underlying ht,sizeOf,typeInfo,hi,Builtin.lenOf,hf,ad,ed,eO,goInt]
theorem anW {t t' ty e:TypeId} {i:TypeInfo} (ht:P.underlying t=some (.slice e)) (hi:P.info? e=some i) (ya a':Option Addr) (xT Mq m c:Nat) (h0:Nat.min m xT=0):
  (Builtin.copy_ #[t,t'] ty #[.slice ya xT Mq,.slice a' m c]).run P w=.ok (.int .i64 0) w:=by
 cases ya<;>cases a'<;>simp[Builtin.copy_,run_underlying ht,sizeOf,typeInfo,hi,Builtin.lenOf,h0,Builtin.firstCells,loadCells,loadCellsFrom,storeCells,goInt]
theorem ae6 (r:R B E w0 N σ a w G) {t t' e:TypeId} {i:TypeInfo} {x y:Operand} {mx my:MO} {n lo len:Nat} {c:ah} {ys xs:List (List C)} {gr:Bool} {m:Mode} (ho:o.op=.call {callee:=.builtin .copy,args:=#[x,y],argTypes:=#[t,t']}) (hN:∀n,o.dst=some n->n<N)
  (gY:bB x mx=true) (jQ:bB y my=true) (ht:P.underlying t=some (.slice e)) (hi:P.info? e=some i) (bD:i.size=1) (hx:σ.ev mx=.one (.sl n 1 lo len)) (hy:σ.ev my=.one c) (hn:σ.h n=some (.row gr m 1 xs))
  (hv:cg σ.h c=some (.list 1 ys)) (hm:m≠ .aD) (hs:fZ xs=true) (jT:fZ ys=true) (gh:lo+len<=xs.length):
  o.wp P a w (Nx B E w0 N ((σ.dn n (.row gr m 1 (cj xs lo (ys.take len)))).put o.dst (.one (.c (.int .i64 (Nat.min ys.length len:Nat)))))) Q:=by
 have H:=r.hr
 obtain⟨x1,_⟩:=r.ev gY
 obtain⟨y1,_⟩:=r.ev jQ
 rw[hx] at x1
 rw[hy] at y1
 have gf:c≠ .bm:=by rintro rfl;simp[Am.cg] at hv
 have gj:jq (G.g n) 1 lo len (a.eval x):=(x1.fH (by simp)).1 (by rw[hn];simp)
 obtain⟨pc,p1,p2,p3⟩:=H.cg hv (y1.fH gf).1
 have hr:=H.row n gr m 1 xs hn
 cases pc with
 |int kk nn=>simp[PC.er] at p1
 |bool bb=>simp[PC.er] at p1
 |list s' ya cc py=>
 rw[PC.dJ] at p1
 injection p1 with e1 e2
 subst e1
 have Bm:ys.length=py.length:=by rw[<-e2];simp
 have p2':a.eval y=.slice ya py.length cc:=p2.symm
 by_cases h0:Nat.min py.length len=0
 ·have IY:σ.dn n (.row gr m 1 (cj xs lo (ys.take len)))=σ:=by
   have:ys.take len=[]:=by
    apply List.eq_nil_of_length_eq_zero
    rw[List.length_take,Bm]
    have:min len py.length=Nat.min py.length len:=Nat.min_comm _ _
    omega
   rw[this,aci _ _ (by omega)]
   exact abL hn
  have yg:∃Fz,a.eval x=.slice Fz len (match(G.g n).nl with|true=>(G.g n).cap|false=>(G.g n).cap - lo):=by
   rcases gj with⟨aL,hv,_,rfl⟩|⟨aL,a',hv,_,_⟩
   ·exact⟨_,by rw[hv,aL]⟩
   ·exact⟨_,by rw[hv,aL]⟩
  obtain⟨Fz,yg⟩:=yg
  rw[IY,Bm,h0]
  refine gz r (v:=.int .i64 0) ?_ (RA.of_int _ _) (fun q hq=>absurd hq qz) hN
  simp only[execOp,ho]
  simp[resolve,invoke,builtin,yg,p2',anW ht hi _ _ _ _ _ _ h0]
 ·have hlen:0<len:=by
   rcases Nat.eq_zero_or_pos len with h|h
   ·subst h;exact absurd (Nat.min_zero _) h0
   ·exact h
  have fK:0<py.length:=by
   rcases Nat.eq_zero_or_pos py.length with h|h
   ·rw[h] at h0;exact absurd (Nat.zero_min _) h0
   ·exact h
  rcases gj with⟨_,_,_,rfl⟩|⟨aL,a',iI,ju,ha⟩
  ·omega
  have oO:=ha (.inl (by omega))
  subst oO
  obtain⟨⟨cur,et,hg⟩,l2,l3⟩:=hr.dR aL
  generalize nW:PC.list 1 ya cc py=p at p3
  cases p3 with
  |int k n=>cases nW
  |bool b=>cases nW
  |nil _ _ _ _=>injection nW with _ _ _ e4;subst e4;simp at fK
  |cons _ b oo _ _ q1 q2 q3 q4 q5 q6=>
  injection nW with f1 f2 f3 f4
  subst f1 f2 f3 f4
  have Y5:=aaH q4
  generalize jv:py.flatten=pl at Y5
  subst Y5
  have rE:ys=pl.map fun c=>[c.er]:=by rw[<-e2,List.map_map];rfl
  have sL:∀c∈pl.take len,c.er.eN=true:=by
   intro c hc
   have h6:=List.all_eq_true.1 jT [c.er] (by rw[rE];exact List.mem_map_of_mem (f:=fun c:PC=>[c.er]) (List.mem_of_mem_take hc))
   exact List.all_eq_true.1 h6 c.er (by simp)
  have qh:xs.length=(G.g n).px.length:=by rw[hr.er,List.length_map]
  have OG:(pl.take len).length=Nat.min (pl.map fun c=>[c]).length len:=by rw[List.length_take,List.length_map];exact Nat.min_comm _ _
  have iY:(pl.take len).length<=len:=by rw[List.length_take];exact Nat.min_le_left _ _
  have lD:(G.g n).o+lo+(pl.take len).length<=cur.size:=by
   have h1:lo+len - 1<(G.g n).px.length:=by omega
   have h2:((G.g n).px[lo+len - 1]'h1).length=1:=l2.1 _ (List.getElem_mem h1)
   have hc:=l2.2.1 (lo+len - 1) 0 (((G.g n).px[lo+len - 1]'h1)[0]'(by omega)) ⟨_,List.getElem?_eq_getElem h1,List.getElem?_eq_getElem _⟩
   have:=CY hg hc
   omega
  obtain⟨G',r'⟩:=r.XN hn hm hs aL (lo:=lo) (pe:=pl.take len) sL (by omega) hg lD
  have hws:ys.take len=(pl.take len).map fun c=>[c.er]:=by rw[rE,List.map_take]
  rw[hws,show Nat.min ys.length len=Nat.min (pl.map fun c=>[c]).length len by rw[Bm]]
  have bU:=anV (P:=P) (w:=w) (t':=t') (ty:=o.type) ht hi bD (G.g n).b ((G.g n).o+lo) len ((G.g n).cap - lo) cur hg (ad b oo) (pl.map fun c=>[c]).length cc ((pl.take len).map PC.val) (by rw[List.length_map,OG]) (fun j u hj=>by
   rw[List.getElem?_map] at hj
   cases hp:(pl.take len)[j]? with
   |none=>rw[hp] at hj;cases hj
   |some c0=>
    rw[hp] at hj
    injection hj with hj
    subst hj
    have bi:pl[j]? =some c0:=by
     rw[List.getElem?_take] at hp
     split at hp
     ·exact hp
     ·cases hp
    have:=q5 j 0 c0 ⟨[c0],by rw[List.getElem?_map,bi];rfl,rfl⟩
    rw[nJ]
    rw[show oo+j=oo+j*1+0 by omega]
    exact this) (fun u hu=>by obtain⟨c0,_,rfl⟩:=List.mem_map.1 hu;exact PC.kw c0) (by rw[List.length_map];exact lD)
  refine nE (w':=eO w (G.g n).b ((G.g n).o+lo) ((pl.take len).map PC.val) cur) (v:=.int .i64 (Nat.min (pl.map fun c=>[c]).length len:Nat)) ?_ ⟨G',r'.put (RA.of_int _ _) (fun q hq=>absurd hq qz) hN⟩
  rw[Nat.mul_one] at iI
  simp only[execOp,ho]
  simp only[List.length_map] at bU⊢
  simp[resolve,invoke,builtin,iI,p2',List.length_map,bU]
theorem apK (z0:Value) (n:Nat):(Builtin.zeroCells #[z0] n).toList=List.replicate n z0:=by
 unfold Builtin.zeroCells
 simp
 rw[List.eq_replicate_iff]
 refine⟨by simp,fun b hb=>?_⟩
 obtain⟨i,_,rfl⟩:=List.mem_map.1 hb
 simp[Nat.mod_one]
theorem anU {t ty e:TypeId} (ht:P.underlying t=some (.slice e)) (ya:Option Addr) (c:Nat):
  (Builtin.clear_ #[t] ty #[.slice ya 0 c]).run P w=.ok (.tuple #[]) w:=by
 cases ya<;>simp[Builtin.clear_,run_underlying ht]
theorem anT {t ty e e':TypeId} {i:TypeInfo} {z z0:Value} (ht:P.underlying t=some (.slice e)) (hi:P.info? e=some i) (hz:i.zero=some z) (uz:z.cells=#[z0]) (h1:z0.oneCell'=true) (g og n c:Nat) (hn:0<n) (cur:Array Value) (hg:w.heap[g]? =some (.cells cur e' (0,0)))
  (gh:og+n<=cur.size):(Builtin.clear_ #[t] ty #[.slice (some (ad g og)) n c]).run P w=.ok (.tuple #[]) (eO w g og (List.replicate n z0) cur):=by
 have ed:=run_storeCells_at P g og e' (List.replicate n z0) 0 cur w hg (by simpa using gh) (fun v hv=>by rw[(List.mem_replicate.1 hv).2];exact h1)
 simp only[Nat.add_zero] at ed
 obtain⟨n,rfl⟩:∃k,n=k+1:=⟨n - 1,by omega⟩
 simp[Builtin.clear_,run_underlying ht,typeInfo,zeroValue,hi,hz,uz,apK,ad,ed,eO]
theorem ae4 (r:R B E w0 N σ a w G) {t e:TypeId} {i:TypeInfo} {z:Value} {x:Operand} {mx:MO} {n lo len:Nat} {zc:C} {xs:List (List C)} {gr:Bool} {m:Mode} (ho:o.op=.call {callee:=.builtin .clear,args:=#[x],argTypes:=#[t]}) (hN:∀n,o.dst=some n->n<N)
  (gY:bB x mx=true) (ht:P.underlying t=some (.slice e)) (hi:P.info? e=some i) (hz:i.zero=some z) (hc:tH z.cells.toList [zc]=true) (rF:zc.eN=true) (hx:σ.ev mx=.one (.sl n 1 lo len)) (hn:σ.h n=some (.row gr m 1 xs))
  (hm:m≠ .aD) (hs:fZ xs=true) (gh:lo+len<=xs.length):
  o.wp P a w (Nx B E w0 N ((σ.dn n (.row gr m 1 (cj xs lo (List.replicate len [zc])))).put o.dst (.bn []))) Q:=by
 have H:=r.hr
 obtain⟨x1,_⟩:=r.ev gY
 rw[hx] at x1
 have gj:jq (G.g n) 1 lo len (a.eval x):=(x1.fH (by simp)).1 (by rw[hn];simp)
 have hr:=H.row n gr m 1 xs hn
 obtain⟨b1,b2,b3⟩:=Mk (w:=w) hc
 have DD:∀w G' h',RA w G' h' (.bn []) (.tuple #[]):=fun w G' h'=>⟨[],rfl,rfl,by simp⟩
 have uz:z.cells=#[(kZ zc).val]:=by
  apply Array.ext'
  rw[<-b2]
  rfl
 rcases Nat.eq_zero_or_pos len with rfl|hlen
 ·have yg:∃Fz c,a.eval x=.slice Fz 0 c:=by
   rcases gj with⟨aL,hv,_,_⟩|⟨aL,a',hv,_,_⟩
   ·exact⟨_,_,hv⟩
   ·exact⟨_,_,hv⟩
  obtain⟨Fz,c,yg⟩:=yg
  rw[show cj xs lo (List.replicate 0 [zc])=xs from aci _ _ (by omega),abL hn]
  refine gz r (v:=.tuple #[]) ?_ (DD _ _ _) (fun q hq=>?_) hN
  ·simp only[execOp,ho]
   simp[resolve,invoke,builtin,yg,anU ht]
  ·obtain⟨x,hx,_⟩:=hq;simp at hx
 ·rcases gj with⟨_,_,_,rfl⟩|⟨aL,a',iI,ju,ha⟩
  ·omega
  have oO:=ha (.inl (by omega))
  subst oO
  obtain⟨⟨cur,et,hg⟩,l2,l3⟩:=hr.dR aL
  have qh:xs.length=(G.g n).px.length:=by rw[hr.er,List.length_map]
  have lD:(G.g n).o+lo+len<=cur.size:=by
   have h1:lo+len - 1<(G.g n).px.length:=by omega
   have h2:((G.g n).px[lo+len - 1]'h1).length=1:=l2.1 _ (List.getElem_mem h1)
   have hc:=l2.2.1 (lo+len - 1) 0 (((G.g n).px[lo+len - 1]'h1)[0]'(by omega)) ⟨_,List.getElem?_eq_getElem h1,List.getElem?_eq_getElem _⟩
   have:=CY hg hc
   omega
  have ud:(kZ zc).er=zc:=by simpa using b1
  obtain⟨G',r'⟩:=r.XN hn hm hs aL (lo:=lo) (pe:=List.replicate len (kZ zc)) (fun c hc=>by rw[(List.mem_replicate.1 hc).2,ud];exact rF) (by rw[List.length_replicate];exact gh) hg (by rw[List.length_replicate];exact lD)
  rw[List.map_replicate,List.map_replicate,ud] at r'
  have bU:=anT (P:=P) (w:=w) (ty:=o.type) ht hi hz uz (PC.kw _) (G.g n).b ((G.g n).o+lo) len ((G.g n).cap - lo) hlen cur hg lD
  refine nE (w':=eO w (G.g n).b ((G.g n).o+lo) (List.replicate len (kZ zc).val) cur) (v:=.tuple #[]) ?_ ⟨G',r'.put (DD _ _ _) (fun q hq=>by obtain⟨x,hx,_⟩:=hq;simp at hx) hN⟩
  rw[Nat.mul_one] at iI
  simp only[execOp,ho]
  simp[resolve,invoke,builtin,iI,bU]
end
end Go.Am
