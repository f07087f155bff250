/- AmU: the builtins copy and clear on lists of ints. No condition. -/
import Derived.Test.YthildlkhnnogiaaAmT
set_option linter.unusedVariables false
namespace Go.Am
section
variable {B:Nat} {E:Ex} {w0 w w':World} {G G':Gh} {N:Nat} {h h':Nat->Option aj} {used:Nat->Bool}
variable {P:Program} {o:Oper} {a:Act} {σ σ':St} {Q:Exit->Act->World->Prop}
theorem ZA {α:Type}:∀{py:List (List α)},(∀e∈py,e.length=1)->py=py.flatten.map fun c=>[c]
 |[],_=>rfl
 |e::py,h=>by
  have h1:=h e (by simp)
  match e,h1 with
  |[c],_=>
   rw[List.flatten_cons,List.map_append,<-ZA (py:=py) fun e he=>h e (by simp[he])]
   rfl
theorem aay {n:Nat} {b:aj} (hn:σ.h n=some b):σ.cW n b=σ:=by
 unfold St.cW
 rw[<-hn,Gp]
theorem aaW {α:Type} (xs:List α) (lo:Nat) (h:lo<=xs.length):ci xs lo []=xs:=by simp[ci]
theorem als {t t' ty e e':TypeId} {i:TypeInfo} (ht:P.underlying t=some (.slice e)) (hi:P.info? e=some i) (bn:i.size=1) (g og yW MF:Nat) (cur:Array Value) (hg:w.heap[g]? =some (.cells cur e' (0,0)))
  (a:Addr) (m c:Nat) (fK:List Value) (hl:fK.length=Nat.min m yW) (tv:∀j u,fK[j]? =some u->w.cell? (a.add j)=some u) (h1:∀u∈fK,u.oneCell'=true) (eP:og+fK.length<=cur.size):
  (Builtin.copy_ #[t,t'] ty #[.slice (some (ad g og)) yW MF,.slice (some a) m c]).run P w=.ok (.int .i64 (Nat.min m yW:Nat)) (dY w g og fK cur):=by
 have hf:=run_firstCells_some (P:=P) w i.size (Nat.min m yW) a m c fK (by rw[hl,bn,Nat.mul_one]) tv
 have lB:=run_storeCells_at P g og e' fK 0 cur w hg (by simpa using eP) h1
 simp only[Nat.add_zero] at lB
 simp[Builtin.copy_,run_underlying ht,sizeOf,typeInfo,hi,Builtin.lenOf,hf,ad,lB,dY,goInt]
theorem alt {t t' ty e:TypeId} {i:TypeInfo} (ht:P.underlying t=some (.slice e)) (hi:P.info? e=some i) (ya a':Option Addr) (yW MF m c:Nat) (h0:Nat.min m yW=0):
  (Builtin.copy_ #[t,t'] ty #[.slice ya yW MF,.slice a' m c]).run P w=.ok (.int .i64 0) w:=by
 cases ya<;>cases a'<;>simp[Builtin.copy_,run_underlying ht,sizeOf,typeInfo,hi,Builtin.lenOf,h0,Builtin.firstCells,loadCells,loadCellsFrom,storeCells,goInt]
theorem adC (r:R B E w0 N σ a w G) {t t' e:TypeId} {i:TypeInfo} {x y:Operand} {mx my:MO} {n lo len:Nat} {c:ab} {ys xs:List (List C)} {gr:Bool} {m:Mode} (ho:o.op=.call {callee:=.builtin .copy,args:=#[x,y],argTypes:=#[t,t']}) (hN:∀n,o.dst=some n->n<N)
  (eR:bd x mx=true) (fo:bd y my=true) (ht:P.underlying t=some (.slice e)) (hi:P.info? e=some i) (bn:i.size=1) (hx:σ.ev mx=.one (.sl n 1 lo len)) (hy:σ.ev my=.one c) (hn:σ.h n=some (.row gr m 1 xs))
  (hv:bQ σ.h c=some (.list 1 ys)) (hm:m≠ .aG) (hs:dd xs=true) (gX:dd ys=true) (eP:lo+len<=xs.length):
  o.wp P a w (Nx B E w0 N ((σ.cW n (.row gr m 1 (ci xs lo (ys.take len)))).put o.dst (.one (.c (.int .i64 (Nat.min ys.length len:Nat)))))) Q:=by
 have H:=r.hr
 obtain⟨x1,_⟩:=r.ev eR
 obtain⟨y1,_⟩:=r.ev fo
 rw[hx] at x1
 rw[hy] at y1
 have eg:c≠ .aX:=by rintro rfl;simp[Am.bQ] at hv
 have fC:eU (G.g n) 1 lo len (a.eval x):=(x1.dB (by simp)).1 (by rw[hn];simp)
 obtain⟨pc,p1,p2,p3⟩:=H.bQ hv (y1.dB eg).1
 have hr:=H.row n gr m 1 xs hn
 cases pc with
 |int kk nn=>simp[PC.er] at p1
 |bool bb=>simp[PC.er] at p1
 |list s' ya cc py=>
 rw[PC.cN] at p1
 injection p1 with e1 e2
 subst e1
 have tD:ys.length=py.length:=by rw[<-e2];simp
 have ZC:a.eval y=.slice ya py.length cc:=p2.symm
 by_cases h0:Nat.min py.length len=0
 ·have Je:σ.cW n (.row gr m 1 (ci xs lo (ys.take len)))=σ:=by
   have:ys.take len=[]:=by
    apply List.eq_nil_of_length_eq_zero
    rw[List.length_take,tD]
    have:min len py.length=Nat.min py.length len:=Nat.min_comm _ _
    omega
   rw[this,aaW _ _ (by omega)]
   exact aay hn
  have zp:∃Dl,a.eval x=.slice Dl len (match(G.g n).nl with|true=>(G.g n).cap|false=>(G.g n).cap - lo):=by
   rcases fC with⟨aD,hv,_,rfl⟩|⟨aD,a',hv,_,_⟩
   ·exact⟨_,by rw[hv,aD]⟩
   ·exact⟨_,by rw[hv,aD]⟩
  obtain⟨Dl,zp⟩:=zp
  rw[Je,tD,h0]
  refine gf r (v:=.int .i64 0) ?_ (RA.of_int _ _) (fun q hq=>absurd hq oH) hN
  simp only[execOp,ho]
  simp[resolve,invoke,builtin,zp,ZC,alt ht hi _ _ _ _ _ _ h0]
 ·have hlen:0<len:=by
   rcases Nat.eq_zero_or_pos len with h|h
   ·subst h;exact absurd (Nat.min_zero _) h0
   ·exact h
  have dz:0<py.length:=by
   rcases Nat.eq_zero_or_pos py.length with h|h
   ·rw[h] at h0;exact absurd (Nat.zero_min _) h0
   ·exact h
  rcases fC with⟨_,_,_,rfl⟩|⟨aD,a',iH,gh,ha⟩
  ·omega
  have lm:=ha (.inl (by omega))
  subst lm
  obtain⟨⟨cur,et,hg⟩,l2,l3⟩:=hr.cZ aD
  generalize e9:PC.list 1 ya cc py=p at p3
  cases p3 with
  |int k n=>cases e9
  |bool b=>cases e9
  |nil _ _ _ _=>injection e9 with _ _ _ e4;subst e4;simp at dz
  |cons _ b oo _ _ q1 q2 q3 q4 q5 q6=>
  injection e9 with f1 f2 f3 f4
  subst f1 f2 f3 f4
  have XT:=ZA q4
  generalize gV:py.flatten=pl at XT
  subst XT
  have lC:ys=pl.map fun c=>[c.er]:=by rw[<-e2,List.map_map];rfl
  have gN:∀c∈pl.take len,c.er.dL=true:=by
   intro c hc
   have h6:=List.all_eq_true.1 gX [c.er] (by rw[lC];exact List.mem_map_of_mem (f:=fun c:PC=>[c.er]) (List.mem_of_mem_take hc))
   exact List.all_eq_true.1 h6 c.er (by simp)
  have nq:xs.length=(G.g n).px.length:=by rw[hr.er,List.length_map]
  have OI:(pl.take len).length=Nat.min (pl.map fun c=>[c]).length len:=by rw[List.length_take,List.length_map];exact Nat.min_comm _ _
  have fb:(pl.take len).length<=len:=by rw[List.length_take];exact Nat.min_le_left _ _
  have lv:(G.g n).o+lo+(pl.take len).length<=cur.size:=by
   have h1:lo+len - 1<(G.g n).px.length:=by omega
   have h2:((G.g n).px[lo+len - 1]'h1).length=1:=l2.1 _ (List.getElem_mem h1)
   have hc:=l2.2.1 (lo+len - 1) 0 (((G.g n).px[lo+len - 1]'h1)[0]'(by omega)) ⟨_,List.getElem?_eq_getElem h1,List.getElem?_eq_getElem _⟩
   have:=yS hg hc
   omega
  obtain⟨G',r'⟩:=r.WK hn hm hs aD (lo:=lo) (pe:=pl.take len) gN (by omega) hg lv
  have hws:ys.take len=(pl.take len).map fun c=>[c.er]:=by rw[lC,List.map_take]
  rw[hws,show Nat.min ys.length len=Nat.min (pl.map fun c=>[c]).length len by rw[tD]]
  have aS:=als (P:=P) (w:=w) (t':=t') (ty:=o.type) ht hi bn (G.g n).b ((G.g n).o+lo) len ((G.g n).cap - lo) cur hg (ad b oo) (pl.map fun c=>[c]).length cc ((pl.take len).map PC.val) (by rw[List.length_map,OI]) (fun j u hj=>by
   rw[List.getElem?_map] at hj
   cases hp:(pl.take len)[j]? with
   |none=>rw[hp] at hj;cases hj
   |some c0=>
    rw[hp] at hj
    injection hj with hj
    subst hj
    have be:pl[j]? =some c0:=by
     rw[List.getElem?_take] at hp
     split at hp
     ·exact hp
     ·cases hp
    have:=q5 j 0 c0 ⟨[c0],by rw[List.getElem?_map,be];rfl,rfl⟩
    rw[mY]
    rw[show oo+j=oo+j*1+0 by omega]
    exact this) (fun u hu=>by obtain⟨c0,_,rfl⟩:=List.mem_map.1 hu;exact PC.hY c0) (by rw[List.length_map];exact lv)
  refine jk (w':=dY w (G.g n).b ((G.g n).o+lo) ((pl.take len).map PC.val) cur) (v:=.int .i64 (Nat.min (pl.map fun c=>[c]).length len:Nat)) ?_ ⟨G',r'.put (RA.of_int _ _) (fun q hq=>absurd hq oH) hN⟩
  rw[Nat.mul_one] at iH
  simp only[execOp,ho]
  simp only[List.length_map] at aS⊢
  simp[resolve,invoke,builtin,iH,ZC,List.length_map,aS]
theorem am3 (z0:Value) (n:Nat):(Builtin.zeroCells #[z0] n).toList=List.replicate n z0:=by
 unfold Builtin.zeroCells
 simp
 rw[List.eq_replicate_iff]
 refine⟨by simp,fun b hb=>?_⟩
 obtain⟨i,_,rfl⟩:=List.mem_map.1 hb
 simp[Nat.mod_one]
theorem alr {t ty e:TypeId} (ht:P.underlying t=some (.slice e)) (ya:Option Addr) (c:Nat):
  (Builtin.clear_ #[t] ty #[.slice ya 0 c]).run P w=.ok (.tuple #[]) w:=by
 cases ya<;>simp[Builtin.clear_,run_underlying ht]
theorem alq {t ty e e':TypeId} {i:TypeInfo} {z z0:Value} (ht:P.underlying t=some (.slice e)) (hi:P.info? e=some i) (hz:i.zero=some z) (vw:z.cells=#[z0]) (h1:z0.oneCell'=true) (g og n c:Nat) (hn:0<n) (cur:Array Value) (hg:w.heap[g]? =some (.cells cur e' (0,0)))
  (eP:og+n<=cur.size):(Builtin.clear_ #[t] ty #[.slice (some (ad g og)) n c]).run P w=.ok (.tuple #[]) (dY w g og (List.replicate n z0) cur):=by
 have lB:=run_storeCells_at P g og e' (List.replicate n z0) 0 cur w hg (by simpa using eP) (fun v hv=>by rw[(List.mem_replicate.1 hv).2];exact h1)
 simp only[Nat.add_zero] at lB
 obtain⟨n,rfl⟩:∃k,n=k+1:=⟨n - 1,by omega⟩
 simp[Builtin.clear_,run_underlying ht,typeInfo,zeroValue,hi,hz,vw,am3,ad,lB,dY]
theorem adz (r:R B E w0 N σ a w G) {t e:TypeId} {i:TypeInfo} {z:Value} {x:Operand} {mx:MO} {n lo len:Nat} {zc:C} {xs:List (List C)} {gr:Bool} {m:Mode} (ho:o.op=.call {callee:=.builtin .clear,args:=#[x],argTypes:=#[t]}) (hN:∀n,o.dst=some n->n<N)
  (eR:bd x mx=true) (ht:P.underlying t=some (.slice e)) (hi:P.info? e=some i) (hz:i.zero=some z) (hc:uJ z.cells.toList [zc]=true) (pA:zc.dL=true) (hx:σ.ev mx=.one (.sl n 1 lo len)) (hn:σ.h n=some (.row gr m 1 xs))
  (hm:m≠ .aG) (hs:dd xs=true) (eP:lo+len<=xs.length):
  o.wp P a w (Nx B E w0 N ((σ.cW n (.row gr m 1 (ci xs lo (List.replicate len [zc])))).put o.dst (.bk []))) Q:=by
 have H:=r.hr
 obtain⟨x1,_⟩:=r.ev eR
 rw[hx] at x1
 have fC:eU (G.g n) 1 lo len (a.eval x):=(x1.dB (by simp)).1 (by rw[hn];simp)
 have hr:=H.row n gr m 1 xs hn
 obtain⟨b1,b2,b3⟩:=Ms (w:=w) hc
 have zj:∀w G' h',RA w G' h' (.bk []) (.tuple #[]):=fun w G' h'=>⟨[],rfl,rfl,by simp⟩
 have vw:z.cells=#[(kO zc).val]:=by
  apply Array.ext'
  rw[<-b2]
  rfl
 rcases Nat.eq_zero_or_pos len with rfl|hlen
 ·have zp:∃Dl c,a.eval x=.slice Dl 0 c:=by
   rcases fC with⟨aD,hv,_,_⟩|⟨aD,a',hv,_,_⟩
   ·exact⟨_,_,hv⟩
   ·exact⟨_,_,hv⟩
  obtain⟨Dl,c,zp⟩:=zp
  rw[show ci xs lo (List.replicate 0 [zc])=xs from aaW _ _ (by omega),aay hn]
  refine gf r (v:=.tuple #[]) ?_ (zj _ _ _) (fun q hq=>?_) hN
  ·simp only[execOp,ho]
   simp[resolve,invoke,builtin,zp,alr ht]
  ·obtain⟨x,hx,_⟩:=hq;simp at hx
 ·rcases fC with⟨_,_,_,rfl⟩|⟨aD,a',iH,gh,ha⟩
  ·omega
  have lm:=ha (.inl (by omega))
  subst lm
  obtain⟨⟨cur,et,hg⟩,l2,l3⟩:=hr.cZ aD
  have nq:xs.length=(G.g n).px.length:=by rw[hr.er,List.length_map]
  have lv:(G.g n).o+lo+len<=cur.size:=by
   have h1:lo+len - 1<(G.g n).px.length:=by omega
   have h2:((G.g n).px[lo+len - 1]'h1).length=1:=l2.1 _ (List.getElem_mem h1)
   have hc:=l2.2.1 (lo+len - 1) 0 (((G.g n).px[lo+len - 1]'h1)[0]'(by omega)) ⟨_,List.getElem?_eq_getElem h1,List.getElem?_eq_getElem _⟩
   have:=yS hg hc
   omega
  have fz:(kO zc).er=zc:=by simpa using b1
  obtain⟨G',r'⟩:=r.WK hn hm hs aD (lo:=lo) (pe:=List.replicate len (kO zc)) (fun c hc=>by rw[(List.mem_replicate.1 hc).2,fz];exact pA) (by rw[List.length_replicate];exact eP) hg (by rw[List.length_replicate];exact lv)
  rw[List.map_replicate,List.map_replicate,fz] at r'
  have aS:=alq (P:=P) (w:=w) (ty:=o.type) ht hi hz vw (PC.hY _) (G.g n).b ((G.g n).o+lo) len ((G.g n).cap - lo) hlen cur hg lv
  refine jk (w':=dY w (G.g n).b ((G.g n).o+lo) (List.replicate len (kO zc).val) cur) (v:=.tuple #[]) ?_ ⟨G',r'.put (zj _ _ _) (fun q hq=>by obtain⟨x,hx,_⟩:=hq;simp at hx) hN⟩
  rw[Nat.mul_one] at iH
  simp only[execOp,ho]
  simp[resolve,invoke,builtin,iH,aS]
end
end Go.Am
