/- AmU: the builtins copy and clear on lists of ints. No condition. -/
import Derived.Test.YtifmggmhdcdgbaaAmT
set_option linter.unusedVariables false
namespace Go.Am
section
variable {B:Nat} {E:Ex} {w0 w w':World} {G G':Gh} {N:Nat} {h h':Nat->Option aq} {used:Nat->Bool}
variable {P:Program} {o:Oper} {a:Act} {σ σ':St} {Q:Exit->Act->World->Prop}
theorem X6 {α:Type}:∀{py:List (List α)},(∀e∈py,e.length=1)->py=py.flatten.map fun c=>[c]
 |[],_=>rfl
 |e::py,h=>by
  have h1:=h e (by simp)
  match e,h1 with
  |[c],_=>
   rw[List.flatten_cons,List.map_append,<-X6 (py:=py) fun e he=>h e (by simp[he])]
   rfl
theorem YX {n:Nat} {b:aq} (hn:σ.h n=some b):σ.dd n b=σ:=by
 unfold St.dd
 rw[<-hn,Eo]
theorem Zj {α:Type} (xs:List α) (lo:Nat) (h:lo<=xs.length):bW xs lo []=xs:=by simp[bW]
theorem ajD {t t' ty e e':TypeId} {i:TypeInfo} (ht:P.underlying t=some (.slice e)) (hi:P.info? e=some i) (bE:i.size=1) (g og w9 Kt:Nat) (cur:Array Value) (hg:w.heap[g]? =some (.cells cur e' (0,0)))
  (a:Addr) (m c:Nat) (fq:List Value) (hl:fq.length=Nat.min m w9) (rV:∀j u,fq[j]? =some u->w.cell? (a.add j)=some u) (h1:∀u∈fq,u.oneCell'=true) (gD:og+fq.length<=cur.size):
  (Builtin.copy_ #[t,t'] ty #[.slice (some (ad g og)) w9 Kt,.slice (some a) m c]).run P w=.ok (.int .i64 (Nat.min m w9:Nat)) (dU w g og fq cur):=by
 have hf:=run_firstCells_some (P:=P) w i.size (Nat.min m w9) a m c fq (by rw[hl,bE,Nat.mul_one]) rV
 have mL:=run_storeCells_at P g og e' fq 0 cur w hg (by simpa using gD) h1
 simp only[Nat.add_zero] at mL
 simp[Builtin.copy_,run_underlying ht,sizeOf,typeInfo,hi,Builtin.lenOf,hf,ad,mL,dU,goInt]
theorem ajE {t t' ty e:TypeId} {i:TypeInfo} (ht:P.underlying t=some (.slice e)) (hi:P.info? e=some i) (ya a':Option Addr) (w9 Kt m c:Nat) (h0:Nat.min m w9=0):
  (Builtin.copy_ #[t,t'] ty #[.slice ya w9 Kt,.slice a' m c]).run P w=.ok (.int .i64 0) w:=by
 cases ya<;>cases a'<;>simp[Builtin.copy_,run_underlying ht,sizeOf,typeInfo,hi,Builtin.lenOf,h0,Builtin.firstCells,loadCells,loadCellsFrom,storeCells,goInt]
theorem abA (r:R B E w0 N σ a w G) {t t' e:TypeId} {i:TypeInfo} {x y:Operand} {mx my:MO} {n lo len:Nat} {c:ai} {ys xs:List (List C)} {gr:Bool} {m:Mode} (ho:o.op=.call {callee:=.builtin .copy,args:=#[x,y],argTypes:=#[t,t']}) (hN:∀n,o.dst=some n->n<N)
  (iQ:bw x mx=true) (jm:bw y my=true) (ht:P.underlying t=some (.slice e)) (hi:P.info? e=some i) (bE:i.size=1) (hx:σ.ev mx=.one (.sl n 1 lo len)) (hy:σ.ev my=.one c) (hn:σ.h n=some (.row gr m 1 xs))
  (hv:bU σ.h c=some (.list 1 ys)) (hm:m≠ .aA) (hs:fB xs=true) (jp:fB ys=true) (gD:lo+len<=xs.length):
  o.wp P a w (Nx B E w0 N ((σ.dd n (.row gr m 1 (bW xs lo (ys.take len)))).put o.dst (.one (.c (.int .i64 (Nat.min ys.length len:Nat)))))) Q:=by
 have H:=r.hr
 obtain⟨x1,_⟩:=r.ev iQ
 obtain⟨y1,_⟩:=r.ev jm
 rw[hx] at x1
 rw[hy] at y1
 have fJ:c≠ .bf:=by rintro rfl;simp[Am.bU] at hv
 have gv:jg (G.g n) 1 lo len (a.eval x):=(x1.fb (by simp)).1 (by rw[hn];simp)
 obtain⟨pc,p1,p2,p3⟩:=H.bU hv (y1.fb fJ).1
 have hr:=H.row n gr m 1 xs hn
 cases pc with
 |int kk nn=>simp[PC.er] at p1
 |bool bb=>simp[PC.er] at p1
 |list s' ya cc py=>
 rw[PC.dr] at p1
 injection p1 with e1 e2
 subst e1
 have z7:ys.length=py.length:=by rw[<-e2];simp
 have X8:a.eval y=.slice ya py.length cc:=p2.symm
 by_cases h0:Nat.min py.length len=0
 ·have G8:σ.dd n (.row gr m 1 (bW xs lo (ys.take len)))=σ:=by
   have:ys.take len=[]:=by
    apply List.eq_nil_of_length_eq_zero
    rw[List.length_take,z7]
    have:min len py.length=Nat.min py.length len:=Nat.min_comm _ _
    omega
   rw[this,Zj _ _ (by omega)]
   exact YX hn
  have xx:∃Et,a.eval x=.slice Et len (match(G.g n).nl with|true=>(G.g n).cap|false=>(G.g n).cap - lo):=by
   rcases gv with⟨aK,hv,_,rfl⟩|⟨aK,a',hv,_,_⟩
   ·exact⟨_,by rw[hv,aK]⟩
   ·exact⟨_,by rw[hv,aK]⟩
  obtain⟨Et,xx⟩:=xx
  rw[G8,z7,h0]
  refine fV r (v:=.int .i64 0) ?_ (RA.of_int _ _) (fun q hq=>absurd hq pJ) hN
  simp only[execOp,ho]
  simp[resolve,invoke,builtin,xx,X8,ajE ht hi _ _ _ _ _ _ h0]
 ·have hlen:0<len:=by
   rcases Nat.eq_zero_or_pos len with h|h
   ·subst h;exact absurd (Nat.min_zero _) h0
   ·exact h
  have fM:0<py.length:=by
   rcases Nat.eq_zero_or_pos py.length with h|h
   ·rw[h] at h0;exact absurd (Nat.zero_min _) h0
   ·exact h
  rcases gv with⟨_,_,_,rfl⟩|⟨aK,a',ie,jL,ha⟩
  ·omega
  have rO:=ha (.inl (by omega))
  subst rO
  obtain⟨⟨cur,et,hg⟩,l2,l3⟩:=hr.dB aK
  generalize np:PC.list 1 ya cc py=p at p3
  cases p3 with
  |int k n=>cases np
  |bool b=>cases np
  |nil _ _ _ _=>injection np with _ _ _ e4;subst e4;simp at fM
  |cons _ b oo _ _ q1 q2 q3 q4 q5 q6=>
  injection np with f1 f2 f3 f4
  subst f1 f2 f3 f4
  have VI:=X6 q4
  generalize iP:py.flatten=pl at VI
  subst VI
  have qM:ys=pl.map fun c=>[c.er]:=by rw[<-e2,List.map_map];rfl
  have tA:∀c∈pl.take len,c.er.dT=true:=by
   intro c hc
   have h6:=List.all_eq_true.1 jp [c.er] (by rw[qM];exact List.mem_map_of_mem (f:=fun c:PC=>[c.er]) (List.mem_of_mem_take hc))
   exact List.all_eq_true.1 h6 c.er (by simp)
  have pt:xs.length=(G.g n).px.length:=by rw[hr.er,List.length_map]
  have Mf:(pl.take len).length=Nat.min (pl.map fun c=>[c]).length len:=by rw[List.length_take,List.length_map];exact Nat.min_comm _ _
  have gE:(pl.take len).length<=len:=by rw[List.length_take];exact Nat.min_le_left _ _
  have kY:(G.g n).o+lo+(pl.take len).length<=cur.size:=by
   have h1:lo+len - 1<(G.g n).px.length:=by omega
   have h2:((G.g n).px[lo+len - 1]'h1).length=1:=l2.1 _ (List.getElem_mem h1)
   have hc:=l2.2.1 (lo+len - 1) 0 (((G.g n).px[lo+len - 1]'h1)[0]'(by omega)) ⟨_,List.getElem?_eq_getElem h1,List.getElem?_eq_getElem _⟩
   have:=B1 hg hc
   omega
  obtain⟨G',r'⟩:=r.UA hn hm hs aK (lo:=lo) (pe:=pl.take len) tA (by omega) hg kY
  have hws:ys.take len=(pl.take len).map fun c=>[c.er]:=by rw[qM,List.map_take]
  rw[hws,show Nat.min ys.length len=Nat.min (pl.map fun c=>[c]).length len by rw[z7]]
  have bK:=ajD (P:=P) (w:=w) (t':=t') (ty:=o.type) ht hi bE (G.g n).b ((G.g n).o+lo) len ((G.g n).cap - lo) cur hg (ad b oo) (pl.map fun c=>[c]).length cc ((pl.take len).map PC.val) (by rw[List.length_map,Mf]) (fun j u hj=>by
   rw[List.getElem?_map] at hj
   cases hp:(pl.take len)[j]? with
   |none=>rw[hp] at hj;cases hj
   |some c0=>
    rw[hp] at hj
    injection hj with hj
    subst hj
    have aX:pl[j]? =some c0:=by
     rw[List.getElem?_take] at hp
     split at hp
     ·exact hp
     ·cases hp
    have:=q5 j 0 c0 ⟨[c0],by rw[List.getElem?_map,aX];rfl,rfl⟩
    rw[m9]
    rw[show oo+j=oo+j*1+0 by omega]
    exact this) (fun u hu=>by obtain⟨c0,_,rfl⟩:=List.mem_map.1 hu;exact PC.j8 c0) (by rw[List.length_map];exact kY)
  refine mZ (w':=dU w (G.g n).b ((G.g n).o+lo) ((pl.take len).map PC.val) cur) (v:=.int .i64 (Nat.min (pl.map fun c=>[c]).length len:Nat)) ?_ ⟨G',r'.put (RA.of_int _ _) (fun q hq=>absurd hq pJ) hN⟩
  rw[Nat.mul_one] at ie
  simp only[execOp,ho]
  simp only[List.length_map] at bK⊢
  simp[resolve,invoke,builtin,ie,X8,List.length_map,bK]
theorem alq (z0:Value) (n:Nat):(Builtin.zeroCells #[z0] n).toList=List.replicate n z0:=by
 unfold Builtin.zeroCells
 simp
 rw[List.eq_replicate_iff]
 refine⟨by simp,fun b hb=>?_⟩
 obtain⟨i,_,rfl⟩:=List.mem_map.1 hb
 simp[Nat.mod_one]
theorem ajC {t ty e:TypeId} (ht:P.underlying t=some (.slice e)) (ya:Option Addr) (c:Nat):
  (Builtin.clear_ #[t] ty #[.slice ya 0 c]).run P w=.ok (.tuple #[]) w:=by
 cases ya<;>simp[Builtin.clear_,run_underlying ht]
theorem ajB {t ty e e':TypeId} {i:TypeInfo} {z z0:Value} (ht:P.underlying t=some (.slice e)) (hi:P.info? e=some i) (hz:i.zero=some z) (tK:z.cells=#[z0]) (h1:z0.oneCell'=true) (g og n c:Nat) (hn:0<n) (cur:Array Value) (hg:w.heap[g]? =some (.cells cur e' (0,0)))
  (gD:og+n<=cur.size):(Builtin.clear_ #[t] ty #[.slice (some (ad g og)) n c]).run P w=.ok (.tuple #[]) (dU w g og (List.replicate n z0) cur):=by
 have mL:=run_storeCells_at P g og e' (List.replicate n z0) 0 cur w hg (by simpa using gD) (fun v hv=>by rw[(List.mem_replicate.1 hv).2];exact h1)
 simp only[Nat.add_zero] at mL
 obtain⟨n,rfl⟩:∃k,n=k+1:=⟨n - 1,by omega⟩
 simp[Builtin.clear_,run_underlying ht,typeInfo,zeroValue,hi,hz,tK,alq,ad,mL,dU]
theorem aby (r:R B E w0 N σ a w G) {t e:TypeId} {i:TypeInfo} {z:Value} {x:Operand} {mx:MO} {n lo len:Nat} {zc:C} {xs:List (List C)} {gr:Bool} {m:Mode} (ho:o.op=.call {callee:=.builtin .clear,args:=#[x],argTypes:=#[t]}) (hN:∀n,o.dst=some n->n<N)
  (iQ:bw x mx=true) (ht:P.underlying t=some (.slice e)) (hi:P.info? e=some i) (hz:i.zero=some z) (hc:s8 z.cells.toList [zc]=true) (qN:zc.dT=true) (hx:σ.ev mx=.one (.sl n 1 lo len)) (hn:σ.h n=some (.row gr m 1 xs))
  (hm:m≠ .aA) (hs:fB xs=true) (gD:lo+len<=xs.length):
  o.wp P a w (Nx B E w0 N ((σ.dd n (.row gr m 1 (bW xs lo (List.replicate len [zc])))).put o.dst (.bn []))) Q:=by
 have H:=r.hr
 obtain⟨x1,_⟩:=r.ev iQ
 rw[hx] at x1
 have gv:jg (G.g n) 1 lo len (a.eval x):=(x1.fb (by simp)).1 (by rw[hn];simp)
 have hr:=H.row n gr m 1 xs hn
 obtain⟨b1,b2,b3⟩:=Kl (w:=w) hc
 have CD:∀w G' h',RA w G' h' (.bn []) (.tuple #[]):=fun w G' h'=>⟨[],rfl,rfl,by simp⟩
 have tK:z.cells=#[(kK zc).val]:=by
  apply Array.ext'
  rw[<-b2]
  rfl
 rcases Nat.eq_zero_or_pos len with rfl|hlen
 ·have xx:∃Et c,a.eval x=.slice Et 0 c:=by
   rcases gv with⟨aK,hv,_,_⟩|⟨aK,a',hv,_,_⟩
   ·exact⟨_,_,hv⟩
   ·exact⟨_,_,hv⟩
  obtain⟨Et,c,xx⟩:=xx
  rw[show bW xs lo (List.replicate 0 [zc])=xs from Zj _ _ (by omega),YX hn]
  refine fV r (v:=.tuple #[]) ?_ (CD _ _ _) (fun q hq=>?_) hN
  ·simp only[execOp,ho]
   simp[resolve,invoke,builtin,xx,ajC ht]
  ·obtain⟨x,hx,_⟩:=hq;simp at hx
 ·rcases gv with⟨_,_,_,rfl⟩|⟨aK,a',ie,jL,ha⟩
  ·omega
  have rO:=ha (.inl (by omega))
  subst rO
  obtain⟨⟨cur,et,hg⟩,l2,l3⟩:=hr.dB aK
  have pt:xs.length=(G.g n).px.length:=by rw[hr.er,List.length_map]
  have kY:(G.g n).o+lo+len<=cur.size:=by
   have h1:lo+len - 1<(G.g n).px.length:=by omega
   have h2:((G.g n).px[lo+len - 1]'h1).length=1:=l2.1 _ (List.getElem_mem h1)
   have hc:=l2.2.1 (lo+len - 1) 0 (((G.g n).px[lo+len - 1]'h1)[0]'(by omega)) ⟨_,List.getElem?_eq_getElem h1,List.getElem?_eq_getElem _⟩
   have:=B1 hg hc
   omega
  have tq:(kK zc).er=zc:=by simpa using b1
  obtain⟨G',r'⟩:=r.UA hn hm hs aK (lo:=lo) (pe:=List.replicate len (kK zc)) (fun c hc=>by rw[(List.mem_replicate.1 hc).2,tq];exact qN) (by rw[List.length_replicate];exact gD) hg (by rw[List.length_replicate];exact kY)
  rw[List.map_replicate,List.map_replicate,tq] at r'
  have bK:=ajB (P:=P) (w:=w) (ty:=o.type) ht hi hz tK (PC.j8 _) (G.g n).b ((G.g n).o+lo) len ((G.g n).cap - lo) hlen cur hg kY
  refine mZ (w':=dU w (G.g n).b ((G.g n).o+lo) (List.replicate len (kK zc).val) cur) (v:=.tuple #[]) ?_ ⟨G',r'.put (CD _ _ _) (fun q hq=>by obtain⟨x,hx,_⟩:=hq;simp at hx) hN⟩
  rw[Nat.mul_one] at ie
  simp only[execOp,ho]
  simp[resolve,invoke,builtin,ie,bK]
end
end Go.Am
