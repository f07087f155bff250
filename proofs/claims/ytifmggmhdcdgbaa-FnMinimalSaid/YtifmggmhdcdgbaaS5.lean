/- S5: shapes of states; loop heads of the typed evaluator. No condition. -/
import Derived.Test.YtifmggmhdcdgbaaS4
set_option linter.unusedVariables false
namespace Go.Am
inductive LT where
 |unit
 |ty (t:Ty)
 |dl (ts:List Ty)
 |nat
 |pair (a b:LT)
def LT.D:LT->Type
 |.unit=>Unit
 |.ty t=>t.D
 |.dl ts=>Ty.DL ts
 |.nat=>Nat
 |.pair a b=>a.D×b.D
def LT.Bm (a:LT):LT->LT
 |.unit=>a
 |.ty t=>.pair a (.ty t)
 |.dl ts=>.pair a (.dl ts)
 |.nat=>.pair a .nat
 |.pair x y=>.pair a (.pair x y)
def LT.sp:LT->LT->LT
 |.unit,b=>b
 |.ty t,b=>LT.Bm (.ty t) b
 |.dl ts,b=>LT.Bm (.dl ts) b
 |.nat,b=>LT.Bm .nat b
 |.pair x y,b=>LT.Bm (.pair x y) b
def LT.D8 (a:LT):(b:LT)->(LT.Bm a b).D->a.D×b.D
 |.unit,x=>(x,())
 |.ty _,x=>x
 |.dl _,x=>x
 |.nat,x=>x
 |.pair _ _,x=>x
def LT.sG:(a b:LT)->(LT.sp a b).D->a.D×b.D
 |.unit,b,x=>((),x)
 |.ty t,b,x=>LT.D8 (.ty t) b x
 |.dl ts,b,x=>LT.D8 (.dl ts) b x
 |.nat,b,x=>LT.D8 .nat b x
 |.pair x y,b,z=>LT.D8 (.pair x y) b z
def LT.D7 (a:LT):(b:LT)->a.D->b.D->(LT.Bm a b).D
 |.unit,x,_=>x
 |.ty _,x,y=>(x,y)
 |.dl _,x,y=>(x,y)
 |.nat,x,y=>(x,y)
 |.pair _ _,x,y=>(x,y)
def LT.Bn:(a b:LT)->a.D->b.D->(LT.sp a b).D
 |.unit,b,_,y=>y
 |.ty t,b,x,y=>LT.D7 (.ty t) b x y
 |.dl ts,b,x,y=>LT.D7 (.dl ts) b x y
 |.nat,b,x,y=>LT.D7 .nat b x y
 |.pair u v,b,x,y=>LT.D7 (.pair u v) b x y
theorem LT.akl (a b:LT) (x:a.D) (y:b.D):LT.D8 a b (LT.D7 a b x y)=(x,y):=by cases b<;>rfl
theorem LT.Zi (a b:LT) (x:a.D) (y:b.D):LT.sG a b (LT.Bn a b x y)=(x,y):=by
 cases a with
 |unit=>rfl
 |_=>exact LT.akl _ b x y
section
variable {α β:Type} {ρ:Type} {L:α->LT}
def LL (L:α->LT):List α->LT
 |[]=>.unit
 |a::l=>LT.sp (L a) (LL L l)
def oP (un:(a:α)->(L a).D->β):(l:List α)->(LL L l).D->List β
 |[],_=>[]
 |a::l,x=>un a (LT.sG (L a) (LL L l) x).1::oP un l (LT.sG (L a) (LL L l) x).2
def pd (flat:(a:α)->β->((L a).D->Option ρ)->Option ρ):(l:List α)->List β->((LL L l).D->Option ρ)->Option ρ
 |[],[],k=>k ()
 |a::l,b::bs,k=>flat a b fun x=>pd flat l bs fun y=>k (LT.Bn (L a) (LL L l) x y)
 |_,_,_=>none
theorem uT {flat:(a:α)->β->((L a).D->Option ρ)->Option ρ} {un:(a:α)->(L a).D->β}
  (hf:∀a b k r,flat a b k=some r->∃x,b=un a x/\k x=some r):∀{l:List α} {bs:List β} {k:(LL L l).D->Option ρ} {r:ρ},pd flat l bs k=some r->
  ∃x,bs=oP un l x/\k x=some r
 |[],[],k,r,h=>⟨(),rfl,h⟩
 |a::l,b::bs,k,r,h=>by
  simp only[pd] at h
  obtain⟨x,rfl,h2⟩:=hf _ _ _ _ h
  obtain⟨y,rfl,h4⟩:=uT hf h2
  exact⟨LT.Bn (L a) (LL L l) x y,by simp only[oP,LT.Zi],h4⟩
 |[],_::_,k,r,h=>by simp[pd] at h
 |_::_,[],k,r,h=>by simp[pd] at h
end
inductive gT where
 |v (t:Ty)
 |nil (ts:List Ty)
 |DK (n off:Nat)
 |ptr (n sz off:Nat)
 |cd (ts:List Ty) (off:Nat)
 |full (n sz:Nat)
 |sl (n sz:Nat)
 |bx (n ax off sz:Nat)
 |bf
inductive dD where
 |c (s:gT)
 |fn (f:FuncId) (bY:List gT)
inductive iy where
 |one (c:dD)
 |agg (cs:List dD)
 |bn (xs:List (Bool×List dD))
inductive eY where
 |box (cs:List dD)
 |row (gr:Bool) (m:Mode) (ts:List Ty)
structure iN where
 env:List (Nat×iy)
 heap:List (Nat×eY)
abbrev iN.ke (sh:iN):List Nat:=sh.env.map (·.1)
def gT.L:gT->LT
 |.v t=>.ty t
 |.nil _=>.unit
 |.DK _ _=>.unit
 |.ptr _ _ _=>.nat
 |.cd ts _=>.dl ts
 |.full _ _=>.unit
 |.sl _ _=>.pair .nat .nat
 |.bx _ _ _ _=>.pair .nat .nat
 |.bf=>.unit
def gT.un (ln:Nat->Nat):(s:gT)->s.L.D->SC
 |.v t,x=>.v t x
 |.nil ts,_=>.nil ts
 |.DK n off,_=>.ptr n 0 0 off
 |.ptr n sz off,k=>.ptr n k sz off
 |.cd ts off,x=>.cd ts x off
 |.full n sz,_=>.sl n sz 0 (ln n)
 |.sl n sz,x=>.sl n sz x.1 x.2
 |.bx n ax off sz,x=>.bx n x.1 ax off sz x.2
 |.bf,_=>.bf
section
variable {ρ:Type}
def gT.flat (ln:Nat->Nat) (s:gT) (c:SC) (k:s.L.D->Option ρ):Option ρ:=
 match s,c with
 |.v t,.v u x=>match Ty.cast u t x with
  |some y=>k y
  |none=>none
 |.nil ts,.nil us=>eB (Ty.qk us ts) (k ())
 |.DK n off,.ptr n' kk sz yn=>cE n' n (cE kk 0 (cE sz 0 (cE yn off (k ()))))
 |.ptr n sz off,.ptr n' kk aG yn=>cE n' n (cE aG sz (cE yn off (k kk)))
 |.cd ts off,.cd us x yn=>cE yn off (match Ty.J9 us ts x with
  |some y=>k y
  |none=>none)
 |.full n sz,.sl n' aG lo len=>cE n' n (cE aG sz ((af lo len (ln n)).ab fun _=>k ()))
 |.sl n sz,.sl n' aG lo len=>cE n' n (cE aG sz (k (lo,len)))
 |.bx n ax off sz,.bx n' kk aju yn aG len=>cE n' n (cE aju ax (cE yn off (cE aG sz (k (kk,len)))))
 |.bf,.bf=>k ()
 |_,_=>none
theorem Ty.cast_eq {t u:Ty} {x:t.D} {y:u.D} (h:Ty.cast t u x=some y):SC.v t x=SC.v u y:=by
 unfold Ty.cast at h
 split at h
 ·rename_i he
  have:=Ty.beq_eq he
  subst this
  injection h with h
  rw[<-h]
 ·cases h
theorem Ty.aaI {ts us:List Ty} {x:Ty.DL ts} {y:Ty.DL us} (h:Ty.J9 ts us x=some y) (off:Nat):SC.cd ts x off=SC.cd us y off:=by
 unfold Ty.J9 at h
 split at h
 ·rename_i he
  have:=Ty.rz he
  subst this
  injection h with h
  rw[<-h]
 ·cases h
theorem gT.n3 {ln:Nat->Nat} (s:gT) (c:SC) (k:s.L.D->Option ρ) (r:ρ) (h:s.flat ln c k=some r):∃x,c=s.un ln x/\k x=some r:=by
 cases s with
 |v t=>
  cases c<;>simp only[gT.flat] at h<;>first|(cases h;done)|skip
  split at h
  ·rename_i y hy
   exact⟨y,Ty.cast_eq hy,h⟩
  ·cases h
 |nil ts=>
  cases c<;>simp only[gT.flat] at h<;>first|(cases h;done)|skip
  have h1:=(bX h).1;replace h:=(bX h).2
  exact⟨(),by rw[Ty.rz h1];rfl,h⟩
 |DK n off=>
  cases c<;>simp only[gT.flat] at h<;>first|(cases h;done)|skip
  have bq:=(aW h).1;replace h:=(aW h).2;subst bq
  have bq:=(aW h).1;replace h:=(aW h).2;subst bq
  have bq:=(aW h).1;replace h:=(aW h).2;subst bq
  have bq:=(aW h).1;replace h:=(aW h).2;subst bq
  exact⟨(),rfl,h⟩
 |ptr n sz off=>
  cases c<;>simp only[gT.flat] at h<;>first|(cases h;done)|skip
  have bq:=(aW h).1;replace h:=(aW h).2;subst bq
  have bq:=(aW h).1;replace h:=(aW h).2;subst bq
  have bq:=(aW h).1;replace h:=(aW h).2;subst bq
  exact⟨_,rfl,h⟩
 |cd ts off=>
  cases c<;>simp only[gT.flat] at h<;>first|(cases h;done)|skip
  have bq:=(aW h).1;replace h:=(aW h).2;subst bq
  split at h
  ·rename_i y hy
   exact⟨y,Ty.aaI hy _,h⟩
  ·cases h
 |full n sz=>
  cases c<;>simp only[gT.flat] at h<;>first|(cases h;done)|skip
  have bq:=(aW h).1;replace h:=(aW h).2;subst bq
  have bq:=(aW h).1;replace h:=(aW h).2;subst bq
  rw[eN] at h
  obtain⟨_,hf,h⟩:=h
  unfold af at hf
  split at hf
  ·rename_i hc
   obtain⟨rfl,rfl⟩:=hc
   exact⟨(),rfl,h⟩
  ·cases hf
 |sl n sz=>
  cases c<;>simp only[gT.flat] at h<;>first|(cases h;done)|skip
  have bq:=(aW h).1;replace h:=(aW h).2;subst bq
  have bq:=(aW h).1;replace h:=(aW h).2;subst bq
  exact⟨_,rfl,h⟩
 |bx n ax off sz=>
  cases c<;>simp only[gT.flat] at h<;>first|(cases h;done)|skip
  have bq:=(aW h).1;replace h:=(aW h).2;subst bq
  have bq:=(aW h).1;replace h:=(aW h).2;subst bq
  have bq:=(aW h).1;replace h:=(aW h).2;subst bq
  have bq:=(aW h).1;replace h:=(aW h).2;subst bq
  exact⟨_,rfl,h⟩
 |bf=>
  cases c<;>simp only[gT.flat] at h<;>first|(cases h;done)|skip
  exact⟨(),rfl,h⟩
def dD.L:dD->LT
 |.c s=>s.L
 |.fn _ bY=>LL gT.L bY
def dD.un (ln:Nat->Nat):(s:dD)->s.L.D->SC
 |.c s,x=>s.un ln x
 |.fn f bY,x=>.fn f (oP (gT.un ln) bY x)
def dD.flat (ln:Nat->Nat) (s:dD) (c:SC) (k:s.L.D->Option ρ):Option ρ:=
 match s,c with
 |.c s,c=>s.flat ln c k
 |.fn f bY,.fn f' cs=>cE f' f (pd (gT.flat ln) bY cs k)
 |_,_=>none
theorem dD.n3 {ln:Nat->Nat} (s:dD) (c:SC) (k:s.L.D->Option ρ) (r:ρ) (h:s.flat ln c k=some r):∃x,c=s.un ln x/\k x=some r:=by
 cases s with
 |c s=>exact s.n3 c k r (by cases c<;>exact h)
 |fn f bY=>
  cases c<;>simp only[dD.flat] at h<;>first|(cases h;done)|skip
  have bq:=(aW h).1;replace h:=(aW h).2;subst bq
  obtain⟨x,e_,h_⟩:=uT (un:=gT.un ln) (fun a b k r=>gT.n3 a b k r) h;subst e_;replace h:=h_
  exact⟨x,rfl,h⟩
def iy.L:iy->LT
 |.one c=>c.L
 |.agg cs=>LL dD.L cs
 |.bn xs=>LL (fun x:Bool×List dD=>LL dD.L x.2) xs
def iy.un (ln:Nat->Nat):(s:iy)->s.L.D->SV
 |.one c,x=>.one (c.un ln x)
 |.agg cs,x=>.agg (oP (dD.un ln) cs x)
 |.bn xs,x=>.bn (oP (L:=fun x:Bool×List dD=>LL dD.L x.2) (fun a y=>(a.1,oP (dD.un ln) a.2 y)) xs x)
def UK (ln:Nat->Nat) (a:Bool×List dD) (b:Bool×List SC) (k:(LL dD.L a.2).D->Option ρ):Option ρ:=
 eB (a.1==b.1) (pd (dD.flat ln) a.2 b.2 k)
def iy.flat (ln:Nat->Nat) (s:iy) (v:SV) (k:s.L.D->Option ρ):Option ρ:=
 match s,v with
 |.one c,.one v=>c.flat ln v k
 |.agg cs,.agg vs=>pd (dD.flat ln) cs vs k
 |.bn xs,.bn vs=>pd (L:=fun x:Bool×List dD=>LL dD.L x.2) (UK ln) xs vs k
 |_,_=>none
theorem iy.n3 {ln:Nat->Nat} (s:iy) (v:SV) (k:s.L.D->Option ρ) (r:ρ) (h:s.flat ln v k=some r):∃x,v=s.un ln x/\k x=some r:=by
 cases s with
 |one c=>
  cases v<;>simp only[iy.flat] at h<;>first|(cases h;done)|skip
  obtain⟨x,e_,h_⟩:=dD.n3 _ _ _ _ h;subst e_;replace h:=h_
  exact⟨x,rfl,h⟩
 |agg cs=>
  cases v<;>simp only[iy.flat] at h<;>first|(cases h;done)|skip
  obtain⟨x,e_,h_⟩:=uT (un:=dD.un ln) (fun a b k r=>dD.n3 a b k r) h;subst e_;replace h:=h_
  exact⟨x,rfl,h⟩
 |bn xs=>
  cases v<;>simp only[iy.flat] at h<;>first|(cases h;done)|skip
  obtain⟨x,e_,h_⟩:=uT (L:=fun x:Bool×List dD=>LL dD.L x.2) (un:=fun a y=>(a.1,oP (dD.un ln) a.2 y)) (fun a b k r h=>by
   unfold UK at h
   have h1:=(bX h).1;replace h:=(bX h).2
   obtain⟨x,h2,h⟩:=uT (un:=dD.un ln) (fun a b k r=>dD.n3 a b k r) h
   exact⟨x,Prod.ext (eq_of_beq h1).symm h2,h⟩) h
  subst e_
  exact⟨x,rfl,h_⟩
def eY.L:eY->LT
 |.box cs=>LL dD.L cs
 |.row _ _ ts=>.ty (.list ts)
def eY.un (ln:Nat->Nat):(s:eY)->s.L.D->SB
 |.box cs,x=>.box (oP (dD.un ln) cs x)
 |.row gr m ts,x=>.row gr m ts x
def Mode.beq:Mode->Mode->Bool
 |.live,.live=>true
 |.ae,.ae=>true
 |.aA,.aA=>true
 |_,_=>false
theorem Mode.beq_eq {a b:Mode} (h:Mode.beq a b=true):a=b:=by cases a<;>cases b<;>first|rfl|cases h
def eY.flat (ln:Nat->Nat) (s:eY) (b:Option SB) (k:s.L.D->Option ρ):Option ρ:=
 match s,b with
 |.box cs,some (.box vs)=>pd (dD.flat ln) cs vs k
 |.row gr m ts,some (.row bh m' us xs)=>eB (bh==gr) (eB (Mode.beq m' m) (match uM us ts xs with
  |some y=>k y
  |none=>none))
 |_,_=>none
theorem ajr {us ts:List Ty} {xs:List (Ty.DL us)} {ys:List (Ty.DL ts)} (h:uM us ts xs=some ys) (gr:Bool) (m:Mode):SB.row gr m us xs=SB.row gr m ts ys:=by
 unfold uM at h
 split at h
 ·rename_i he
  have h2:=Ty.rz he
  subst h2
  injection h with h
  rw[<-h]
 ·cases h
theorem eY.n3 {ln:Nat->Nat} (s:eY) (b:Option SB) (k:s.L.D->Option ρ) (r:ρ) (h:s.flat ln b k=some r):∃x,b=some (s.un ln x)/\k x=some r:=by
 cases s with
 |box cs=>
  cases b with
  |none=>cases h
  |some b=>
   cases b<;>simp only[eY.flat] at h<;>first|(cases h;done)|skip
   obtain⟨x,e_,h_⟩:=uT (un:=dD.un ln) (fun a b k r=>dD.n3 a b k r) h;subst e_;replace h:=h_
   exact⟨x,rfl,h⟩
 |row gr m ts=>
  cases b with
  |none=>cases h
  |some b=>
   cases b<;>simp only[eY.flat] at h<;>first|(cases h;done)|skip
   have h1:=(bX h).1;replace h:=(bX h).2
   have h2:=(bX h).1;replace h:=(bX h).2
   split at h
   ·rename_i y hy
    refine⟨y,?_,h⟩
    rw[eq_of_beq h1,Mode.beq_eq h2,ajr hy]
    rfl
   ·cases h
end
def kV:List (Nat×SV)->Nat->SV
 |[]=>fun _=>.one .bf
 |p::l=>au (kV l) p.1 p.2
def jk:List (Nat×Option SB)->Nat->Option SB
 |[]=>fun _=>none
 |p::l=>au (jk l) p.1 p.2
def BB:List (Nat×eY)->Nat->Bool
 |[]=>fun _=>false
 |p::l=>au (BB l) p.1 true
def qW (h:Nat->Option SB) (n:Nat):Nat:=
 match h n with
 |some (.row _ _ ts xs)=>aa (α:=Ty.DL ts) xs
 |_=>0
abbrev iN.eL (sh:iN):LT:=LL (fun p:Nat×iy=>p.2.L) sh.env
abbrev iN.hL (sh:iN):LT:=LL (fun p:Nat×eY=>p.2.L) sh.heap
def iN.L (sh:iN):LT:=LT.sp sh.eL sh.hL
def Ja (ln:Nat->Nat) (l:List (Nat×iy)) (x:(LL (fun p:Nat×iy=>p.2.L) l).D):List (Nat×SV):=
 oP (L:=fun p:Nat×iy=>p.2.L) (fun p y=>(p.1,p.2.un ln y)) l x
def yO (ln:Nat->Nat) (l:List (Nat×eY)) (x:(LL (fun p:Nat×eY=>p.2.L) l).D):List (Nat×Option SB):=
 oP (L:=fun p:Nat×eY=>p.2.L) (fun p y=>(p.1,some (p.2.un ln y))) l x
def sr:(l:List (Nat×eY))->(LL (fun p:Nat×eY=>p.2.L) l).D->Nat->Nat
 |[],_=>fun _=>0
 |(n,.box cs)::l,x=>au (sr l (LT.sG _ _ x).2) n 0
 |(n,.row gr m ts)::l,x=>au (sr l (LT.sG (LT.ty (.list ts)) _ x).2) n (aa (α:=Ty.DL ts) (LT.sG (LT.ty (.list ts)) _ x).1)
theorem Of (ln:Nat->Nat):∀(l:List (Nat×eY)) (x:(LL (fun p:Nat×eY=>p.2.L) l).D),sr l x=qW (jk (yO ln l x))
 |[],_=>rfl
 |(n,.box cs)::l,x=>by
  funext m
  simp only[sr,yO,oP,jk,qW]
  by_cases hm:m=n
  ·subst hm;simp only[bC];rfl
  ·simp only[cb _ _ _ _ hm]
   exact congrFun (Of ln l _) m
 |(n,.row gr mo ts)::l,x=>by
  funext m
  simp only[sr,yO,oP,jk,qW]
  by_cases hm:m=n
  ·subst hm;simp only[bC];rfl
  ·simp only[cb _ _ _ _ hm]
   exact congrFun (Of ln l _) m
def iN.un (sh:iN) (x:sh.L.D):ah:=
 {env:=kV (Ja (sr sh.heap (LT.sG sh.eL sh.hL x).2) sh.env (LT.sG sh.eL sh.hL x).1)
  h:=jk (yO (sr sh.heap (LT.sG sh.eL sh.hL x).2) sh.heap (LT.sG sh.eL sh.hL x).2)
  used:=fun n=>Nat.ble aF n||BB sh.heap n}
def pi (n:Nat):List (Nat×eY)->Bool
 |[]=>false
 |p::l=>match Nat.beq n p.1 with
  |true=>true
  |false=>pi n l
section
variable {ρ:Type}
def UH (ln:Nat->Nat) (p:Nat×iy) (v:Nat×SV) (k:p.2.L.D->Option ρ):Option ρ:=cE v.1 p.1 (p.2.flat ln v.2 k)
def UI (ln:Nat->Nat) (p:Nat×eY) (b:Nat×Option SB) (k:p.2.L.D->Option ρ):Option ρ:=cE b.1 p.1 (p.2.flat ln b.2 k)
def F5 (σ:ah) (hp:List (Nat×eY)):List Nat->Bool
 |[]=>true
 |n::kh=>(match pi n hp with|true=>σ.used n|false=>(match σ.used n with|true=>Nat.ble aF n|false=> !(Nat.ble aF n))&&(σ.h n).isNone)&&F5 σ hp kh
def FM (kh:List Nat):List (Nat×eY)->Bool
 |[]=>true
 |p::l=>kh.contains p.1&&FM kh l
def iN.flat (sh:iN) (kh:List Nat) (σ:ah) (k:sh.L.D->Option ρ):Option ρ:=
 eB (F5 σ sh.heap kh&&FM kh sh.heap)
  (pd (UH (qW σ.h)) sh.env (sh.env.map fun p=>(p.1,σ.env p.1)) fun xe=>
   pd (UI (qW σ.h)) sh.heap (sh.heap.map fun p=>(p.1,σ.h p.1)) fun xh=>k (LT.Bn sh.eL sh.hL xe xh))
end
theorem abh (l:List (Nat×iy)) (f:Nat->SV) (hf:∀s,s∉l.map (·.1)->f s=.one .bf):kV (l.map fun p=>(p.1,f p.1))=f:=by
 have:∀(l:List (Nat×iy)) s,kV (l.map fun p=>(p.1,f p.1)) s=if s∈l.map (·.1) then f s else .one .bf:=by
  intro l s
  induction l with
  |nil=>rfl
  |cons p l ih=>
   simp only[List.map_cons,kV,iK,ih,List.mem_cons]
   by_cases h:s=p.1
   ·subst h;simp
   ·by_cases h2:s∈l.map (·.1)
    ·rw[if_neg h,if_pos h2,if_pos (Or.inr h2)]
    ·rw[if_neg h,if_neg h2,if_neg (fun e=>e.elim h h2)]
 funext s
 rw[this]
 split
 ·rfl
 ·rename_i h;exact(hf s h).symm
theorem ac7 (l:List (Nat×eY)) (f:Nat->Option SB) (hf:∀s,s∉l.map (·.1)->f s=none):jk (l.map fun p=>(p.1,f p.1))=f:=by
 have:∀(l:List (Nat×eY)) s,jk (l.map fun p=>(p.1,f p.1)) s=if s∈l.map (·.1) then f s else none:=by
  intro l s
  induction l with
  |nil=>rfl
  |cons p l ih=>
   simp only[List.map_cons,jk,iK,ih,List.mem_cons]
   by_cases h:s=p.1
   ·subst h;simp
   ·by_cases h2:s∈l.map (·.1)
    ·rw[if_neg h,if_pos h2,if_pos (Or.inr h2)]
    ·rw[if_neg h,if_neg h2,if_neg (fun e=>e.elim h h2)]
 funext s
 rw[this]
 split
 ·rfl
 ·rename_i h;exact(hf s h).symm
theorem Vh (n:Nat) (l:List (Nat×eY)):pi n l=true↔n∈l.map (·.1):=by
  induction l with
  |nil=>simp[pi]
  |cons p l ih=>
   simp only[pi,List.map_cons,List.mem_cons]
   cases h:Nat.beq n p.1 with
   |true=>simp[Nat.eq_of_beq_eq_true h]
   |false=>simp only[ih];constructor
           · exact .inr
           · rintro(rfl|h2)
             · rw[Nat.beq_refl] at h;cases h
             · exact h2
theorem alb (n:Nat) (l:List (Nat×eY)):BB l n=pi n l:=by
 induction l with
 |nil=>rfl
 |cons p l ih=>
  simp only[BB,pi,iK,ih]
  by_cases h:n=p.1
  ·subst h;simp[Nat.beq_refl]
  ·have:Nat.beq n p.1=false:=by
    cases hb:Nat.beq n p.1 with
    |true=>exact absurd (Nat.eq_of_beq_eq_true hb) h
    |false=>rfl
   simp[h,this]
theorem Ke {σ:ah} {hp:List (Nat×eY)}:∀{kh:List Nat},F5 σ hp kh=true->∀n∈kh,σ.used n=(Nat.ble aF n||pi n hp)/\(pi n hp=false->σ.h n=none)
 |[],_,n,hn=>by cases hn
 |m::kh,h,n,hn=>by
  simp only[F5,Bool.and_eq_true] at h
  rcases List.mem_cons.1 hn with e_|hn
  ·subst e_
   cases hh:pi n hp with
   |true=>
    rw[hh] at h
    have h1:σ.used n=true:=h.1
    exact⟨by rw[h1,Bool.or_true],fun e=>by cases e⟩
   |false=>
    rw[hh] at h
    simp only[Bool.and_eq_true,Option.isNone_iff_eq_none] at h
    refine⟨?_,fun _=>h.1.2⟩
    have h1:=h.1.1
    rw[Bool.or_false]
    cases hu:σ.used n with
    |true=>rw[hu] at h1;exact h1.symm
    |false=>rw[hu] at h1;simpa using h1.symm
  ·exact Ke h.2 n hn
theorem S6 {kh:List Nat}:∀{l:List (Nat×eY)},FM kh l=true->∀n∈l.map (·.1),n∈kh
 |[],_,n,hn=>by cases hn
 |p::l,h,n,hn=>by
  simp only[FM,Bool.and_eq_true] at h
  simp only[List.map_cons,List.mem_cons] at hn
  rcases hn with rfl|hn
  ·simpa using h.1
  ·exact S6 h.2 n hn
theorem iN.n3 {ρ:Type} {sh:iN} {kh:List Nat} {σ:ah} {k:sh.L.D->Option ρ} {r:ρ} (h:sh.flat kh σ k=some r)
  (he:∀s,s∉sh.ke->σ.env s=.one .bf) (hh:∀n,n∉kh->σ.h n=none/\σ.used n=Nat.ble aF n):∃x,σ=sh.un x/\k x=some r:=by
 unfold iN.flat at h
 have hc:=(bX h).1;replace h:=(bX h).2
 simp only[Bool.and_eq_true] at hc
 obtain⟨xe,e1,h⟩:=uT (L:=fun p:Nat×iy=>p.2.L) (un:=fun p y=>(p.1,p.2.un (qW σ.h) y)) (fun a b k r h=>by
  unfold UH at h
  obtain⟨h1,h⟩:=aW h
  obtain⟨x,h2,h⟩:=iy.n3 _ _ _ _ h
  exact⟨x,Prod.ext h1 h2,h⟩) h
 obtain⟨xh,e2,h⟩:=uT (L:=fun p:Nat×eY=>p.2.L) (un:=fun p y=>(p.1,some (p.2.un (qW σ.h) y))) (fun a b k r h=>by
  unfold UI at h
  obtain⟨h1,h⟩:=aW h
  obtain⟨x,h2,h⟩:=eY.n3 _ _ _ _ h
  exact⟨x,Prod.ext h1 h2,h⟩) h
 have xy:σ.env=kV (Ja (qW σ.h) sh.env xe):=by
  unfold Ja
  rw[<-e1]
  exact(abh sh.env σ.env he).symm
 have zL:σ.h=jk (yO (qW σ.h) sh.heap xh):=by
  unfold yO
  rw[<-e2]
  refine(ac7 sh.heap σ.h fun n hn=>?_).symm
  by_cases hk:n∈kh
  ·refine(Ke hc.1 n hk).2 ?_
   cases hb:pi n sh.heap with
   |true=>exact absurd ((Vh n sh.heap).1 hb) hn
   |false=>rfl
  ·exact(hh n hk).1
 have adm:sr sh.heap xh=qW σ.h:=by
  rw[Of (qW σ.h),<-zL]
 have adL:σ.used=fun n=>Nat.ble aF n||BB sh.heap n:=by
  funext n
  rw[alb]
  by_cases hk:n∈kh
  ·exact(Ke hc.1 n hk).1
  ·rw[(hh n hk).2]
   cases hb:pi n sh.heap with
   |true=>exact absurd (S6 hc.2 n ((Vh n sh.heap).1 hb)) hk
   |false=>rw[Bool.or_false]
 refine⟨LT.Bn sh.eL sh.hL xe xh,?_,h⟩
 have:sh.un (LT.Bn sh.eL sh.hL xe xh)={env:=kV (Ja (sr sh.heap xh) sh.env xe),h:=jk (yO (sr sh.heap xh) sh.heap xh),used:=fun n=>Nat.ble aF n||BB sh.heap n}:=by
  simp only[iN.un,LT.Zi]
 rw[this,adm,<-xy,<-zL,<-adL]
end Go.Am
