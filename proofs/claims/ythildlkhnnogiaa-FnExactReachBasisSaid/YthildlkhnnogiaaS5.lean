/- S5: shapes of states; loop heads of the typed evaluator. No condition. -/
import Derived.Test.YthildlkhnnogiaaS4c
set_option linter.unusedVariables false
namespace Go.Am
inductive LT where
 |unit
 |ty (t:Ty)
 |dl (ts:List Ty)
 |nat
 |pair (a b:LT)
def LT.D:LT->Type
 |.unit=>Unit
 |.ty t=>t.D
 |.dl ts=>Ty.DL ts
 |.nat=>Nat
 |.pair a b=>a.D×b.D
def LT.C3 (a:LT):LT->LT
 |.unit=>a
 |.ty t=>.pair a (.ty t)
 |.dl ts=>.pair a (.dl ts)
 |.nat=>.pair a .nat
 |.pair x y=>.pair a (.pair x y)
def LT.sp:LT->LT->LT
 |.unit,b=>b
 |.ty t,b=>LT.C3 (.ty t) b
 |.dl ts,b=>LT.C3 (.dl ts) b
 |.nat,b=>LT.C3 .nat b
 |.pair x y,b=>LT.C3 (.pair x y) b
def LT.F6 (a:LT):(b:LT)->(LT.C3 a b).D->a.D×b.D
 |.unit,x=>(x,())
 |.ty _,x=>x
 |.dl _,x=>x
 |.nat,x=>x
 |.pair _ _,x=>x
def LT.uh:(a b:LT)->(LT.sp a b).D->a.D×b.D
 |.unit,b,x=>((),x)
 |.ty t,b,x=>LT.F6 (.ty t) b x
 |.dl ts,b,x=>LT.F6 (.dl ts) b x
 |.nat,b,x=>LT.F6 .nat b x
 |.pair x y,b,z=>LT.F6 (.pair x y) b z
def LT.F5 (a:LT):(b:LT)->a.D->b.D->(LT.C3 a b).D
 |.unit,x,_=>x
 |.ty _,x,y=>(x,y)
 |.dl _,x,y=>(x,y)
 |.nat,x,y=>(x,y)
 |.pair _ _,x,y=>(x,y)
def LT.C4:(a b:LT)->a.D->b.D->(LT.sp a b).D
 |.unit,b,_,y=>y
 |.ty t,b,x,y=>LT.F5 (.ty t) b x y
 |.dl ts,b,x,y=>LT.F5 (.dl ts) b x y
 |.nat,b,x,y=>LT.F5 .nat b x y
 |.pair u v,b,x,y=>LT.F5 (.pair u v) b x y
theorem LT.al5 (a b:LT) (x:a.D) (y:b.D):LT.F6 a b (LT.F5 a b x y)=(x,y):=by cases b<;>rfl
theorem LT.aaV (a b:LT) (x:a.D) (y:b.D):LT.uh a b (LT.C4 a b x y)=(x,y):=by
 cases a with
 |unit=>rfl
 |_=>exact LT.al5 _ b x y
section
variable {α β:Type} {ρ:Type} {L:α->LT}
def LL (L:α->LT):List α->LT
 |[]=>.unit
 |a::l=>LT.sp (L a) (LL L l)
def p9 (un:(a:α)->(L a).D->β):(l:List α)->(LL L l).D->List β
 |[],_=>[]
 |a::l,x=>un a (LT.uh (L a) (LL L l) x).1::p9 un l (LT.uh (L a) (LL L l) x).2
def qA (flat:(a:α)->β->((L a).D->Option ρ)->Option ρ):(l:List α)->List β->((LL L l).D->Option ρ)->Option ρ
 |[],[],k=>k ()
 |a::l,b::bs,k=>flat a b fun x=>qA flat l bs fun y=>k (LT.C4 (L a) (LL L l) x y)
 |_,_,_=>none
theorem wX {flat:(a:α)->β->((L a).D->Option ρ)->Option ρ} {un:(a:α)->(L a).D->β}
  (hf:∀a b k r,flat a b k=some r->∃x,b=un a x/\k x=some r):∀{l:List α} {bs:List β} {k:(LL L l).D->Option ρ} {r:ρ},qA flat l bs k=some r->
  ∃x,bs=p9 un l x/\k x=some r
 |[],[],k,r,h=>⟨(),rfl,h⟩
 |a::l,b::bs,k,r,h=>by
  simp only[qA] at h
  obtain⟨x,rfl,h2⟩:=hf _ _ _ _ h
  obtain⟨y,rfl,h4⟩:=wX hf h2
  exact⟨LT.C4 (L a) (LL L l) x y,by simp only[p9,LT.aaV],h4⟩
 |[],_::_,k,r,h=>by simp[qA] at h
 |_::_,[],k,r,h=>by simp[qA] at h
end
inductive gS where
 |v (t:Ty)
 |nil (ts:List Ty)
 |FB (n off:Nat)
 |ptr (n sz off:Nat)
 |cd (ts:List Ty) (off:Nat)
 |bK (ts:List Ty) (off j n sz:Nat)
 |full (n sz:Nat)
 |sl (n sz:Nat)
 |bf (n au off sz:Nat)
 |aX
inductive dW where
 |c (s:gS)
 |fn (f:FuncId) (bI:List gS)
inductive iZ where
 |one (c:dW)
 |agg (cs:List dW)
 |bk (xs:List (Bool×List dW))
inductive fv where
 |box (cs:List dW)
 |row (gr:Bool) (m:Mode) (ts:List Ty)
structure jm where
 env:List (Nat×iZ)
 heap:List (Nat×fv)
abbrev jm.ke (sh:jm):List Nat:=sh.env.map (·.1)
def gS.L:gS->LT
 |.v t=>.ty t
 |.nil _=>.unit
 |.FB _ _=>.unit
 |.ptr _ _ _=>.nat
 |.cd ts _=>.dl ts
 |.bK ts _ _ _ _=>.dl ts
 |.full _ _=>.unit
 |.sl _ _=>.pair .nat .nat
 |.bf _ _ _ _=>.pair .nat .nat
 |.aX=>.unit
def gS.un (ln:Nat->Nat):(s:gS)->s.L.D->SC
 |.v t,x=>.v t x
 |.nil ts,_=>.nil ts
 |.FB n off,_=>.ptr n 0 0 off
 |.ptr n sz off,k=>.ptr n k sz off
 |.cd ts off,x=>.cd ts x off
 |.bK ts off j n sz,x=>.bK ts x off j n sz (ln n)
 |.full n sz,_=>.sl n sz 0 (ln n)
 |.sl n sz,x=>.sl n sz x.1 x.2
 |.bf n au off sz,x=>.bf n x.1 au off sz x.2
 |.aX,_=>.aX
section
variable {ρ:Type}
def gS.flat (ln:Nat->Nat) (s:gS) (c:SC) (k:s.L.D->Option ρ):Option ρ:=
 match s,c with
 |.v t,.v u x=>match Ty.cast u t x with
  |some y=>k y
  |none=>none
 |.nil ts,.nil us=>da (Ty.rG us ts) (k ())
 |.FB n off,.ptr n' kk sz jR=>bH n' n (bH kk 0 (bH sz 0 (bH jR off (k ()))))
 |.ptr n sz off,.ptr n' kk ax jR=>bH n' n (bH ax sz (bH jR off (k kk)))
 |.cd ts off,.cd us x jR=>bH jR off (match Ty.Bg us ts x with
  |some y=>k y
  |none=>none)
 |.bK ts off j n sz,.bK us x jR j' n' ax len=>bH jR off (bH j' j (bH n' n (bH ax sz ((ai 0 len (ln n)).U fun _=>match Ty.Bg us ts x with
  |some y=>k y
  |none=>none))))
 |.full n sz,.sl n' ax lo len=>bH n' n (bH ax sz ((ai lo len (ln n)).U fun _=>k ()))
 |.sl n sz,.sl n' ax lo len=>bH n' n (bH ax sz (k (lo,len)))
 |.bf n au off sz,.bf n' kk ali jR ax len=>bH n' n (bH ali au (bH jR off (bH ax sz (k (kk,len)))))
 |.aX,.aX=>k ()
 |_,_=>none
theorem Ty.cast_eq {t u:Ty} {x:t.D} {y:u.D} (h:Ty.cast t u x=some y):SC.v t x=SC.v u y:=by
 unfold Ty.cast at h
 split at h
 ·rename_i he
  have:=Ty.beq_eq he
  subst this
  injection h with h
  rw[<-h]
 ·cases h
theorem Ty.acv {ts us:List Ty} {x:Ty.DL ts} {y:Ty.DL us} (h:Ty.Bg ts us x=some y) (off:Nat):SC.cd ts x off=SC.cd us y off:=by
 unfold Ty.Bg at h
 split at h
 ·rename_i he
  have:=Ty.rH he
  subst this
  injection h with h
  rw[<-h]
 ·cases h
theorem Ty.acw {ts us:List Ty} {x:Ty.DL ts} {y:Ty.DL us} (h:Ty.Bg ts us x=some y) (off j n sz len:Nat):SC.bK ts x off j n sz len=SC.bK us y off j n sz len:=by
 unfold Ty.Bg at h
 split at h
 ·rename_i he
  have:=Ty.rH he
  subst this
  injection h with h
  rw[<-h]
 ·cases h
theorem gS.pf {ln:Nat->Nat} (s:gS) (c:SC) (k:s.L.D->Option ρ) (r:ρ) (h:s.flat ln c k=some r):∃x,c=s.un ln x/\k x=some r:=by
 cases s with
 |v t=>
  cases c<;>simp only[gS.flat] at h<;>first|(cases h;done)|skip
  split at h
  ·rename_i y hy
   exact⟨y,Ty.cast_eq hy,h⟩
  ·cases h
 |nil ts=>
  cases c<;>simp only[gS.flat] at h<;>first|(cases h;done)|skip
  have h1:=(bw h).1;replace h:=(bw h).2
  exact⟨(),by rw[Ty.rH h1];rfl,h⟩
 |FB n off=>
  cases c<;>simp only[gS.flat] at h<;>first|(cases h;done)|skip
  have aQ:=(aH h).1;replace h:=(aH h).2;subst aQ
  have aQ:=(aH h).1;replace h:=(aH h).2;subst aQ
  have aQ:=(aH h).1;replace h:=(aH h).2;subst aQ
  have aQ:=(aH h).1;replace h:=(aH h).2;subst aQ
  exact⟨(),rfl,h⟩
 |ptr n sz off=>
  cases c<;>simp only[gS.flat] at h<;>first|(cases h;done)|skip
  have aQ:=(aH h).1;replace h:=(aH h).2;subst aQ
  have aQ:=(aH h).1;replace h:=(aH h).2;subst aQ
  have aQ:=(aH h).1;replace h:=(aH h).2;subst aQ
  exact⟨_,rfl,h⟩
 |cd ts off=>
  cases c<;>simp only[gS.flat] at h<;>first|(cases h;done)|skip
  have aQ:=(aH h).1;replace h:=(aH h).2;subst aQ
  split at h
  ·rename_i y hy
   exact⟨y,Ty.acv hy _,h⟩
  ·cases h
 |bK ts off j n sz=>
  cases c<;>simp only[gS.flat] at h<;>first|(cases h;done)|skip
  have aQ:=(aH h).1;replace h:=(aH h).2;subst aQ
  have aQ:=(aH h).1;replace h:=(aH h).2;subst aQ
  have aQ:=(aH h).1;replace h:=(aH h).2;subst aQ
  have aQ:=(aH h).1;replace h:=(aH h).2;subst aQ
  rw[cU] at h
  obtain⟨_,hf,h⟩:=h
  unfold ai at hf
  split at hf
  ·rename_i hc
   obtain⟨_,rfl⟩:=hc
   split at h
   ·rename_i y hy
    exact⟨y,Ty.acw hy _ _ _ _ _,h⟩
   ·cases h
  ·cases hf
 |full n sz=>
  cases c<;>simp only[gS.flat] at h<;>first|(cases h;done)|skip
  have aQ:=(aH h).1;replace h:=(aH h).2;subst aQ
  have aQ:=(aH h).1;replace h:=(aH h).2;subst aQ
  rw[cU] at h
  obtain⟨_,hf,h⟩:=h
  unfold ai at hf
  split at hf
  ·rename_i hc
   obtain⟨rfl,rfl⟩:=hc
   exact⟨(),rfl,h⟩
  ·cases hf
 |sl n sz=>
  cases c<;>simp only[gS.flat] at h<;>first|(cases h;done)|skip
  have aQ:=(aH h).1;replace h:=(aH h).2;subst aQ
  have aQ:=(aH h).1;replace h:=(aH h).2;subst aQ
  exact⟨_,rfl,h⟩
 |bf n au off sz=>
  cases c<;>simp only[gS.flat] at h<;>first|(cases h;done)|skip
  have aQ:=(aH h).1;replace h:=(aH h).2;subst aQ
  have aQ:=(aH h).1;replace h:=(aH h).2;subst aQ
  have aQ:=(aH h).1;replace h:=(aH h).2;subst aQ
  have aQ:=(aH h).1;replace h:=(aH h).2;subst aQ
  exact⟨_,rfl,h⟩
 |aX=>
  cases c<;>simp only[gS.flat] at h<;>first|(cases h;done)|skip
  exact⟨(),rfl,h⟩
def dW.L:dW->LT
 |.c s=>s.L
 |.fn _ bI=>LL gS.L bI
def dW.un (ln:Nat->Nat):(s:dW)->s.L.D->SC
 |.c s,x=>s.un ln x
 |.fn f bI,x=>.fn f (p9 (gS.un ln) bI x)
def dW.flat (ln:Nat->Nat) (s:dW) (c:SC) (k:s.L.D->Option ρ):Option ρ:=
 match s,c with
 |.c s,c=>s.flat ln c k
 |.fn f bI,.fn f' cs=>bH f' f (qA (gS.flat ln) bI cs k)
 |_,_=>none
theorem dW.pf {ln:Nat->Nat} (s:dW) (c:SC) (k:s.L.D->Option ρ) (r:ρ) (h:s.flat ln c k=some r):∃x,c=s.un ln x/\k x=some r:=by
 cases s with
 |c s=>exact s.pf c k r (by cases c<;>exact h)
 |fn f bI=>
  cases c<;>simp only[dW.flat] at h<;>first|(cases h;done)|skip
  have aQ:=(aH h).1;replace h:=(aH h).2;subst aQ
  obtain⟨x,e_,h_⟩:=wX (un:=gS.un ln) (fun a b k r=>gS.pf a b k r) h;subst e_;replace h:=h_
  exact⟨x,rfl,h⟩
def iZ.L:iZ->LT
 |.one c=>c.L
 |.agg cs=>LL dW.L cs
 |.bk xs=>LL (fun x:Bool×List dW=>LL dW.L x.2) xs
def iZ.un (ln:Nat->Nat):(s:iZ)->s.L.D->SV
 |.one c,x=>.one (c.un ln x)
 |.agg cs,x=>.agg (p9 (dW.un ln) cs x)
 |.bk xs,x=>.bk (p9 (L:=fun x:Bool×List dW=>LL dW.L x.2) (fun a y=>(a.1,p9 (dW.un ln) a.2 y)) xs x)
def WX (ln:Nat->Nat) (a:Bool×List dW) (b:Bool×List SC) (k:(LL dW.L a.2).D->Option ρ):Option ρ:=
 da (a.1==b.1) (qA (dW.flat ln) a.2 b.2 k)
def iZ.flat (ln:Nat->Nat) (s:iZ) (v:SV) (k:s.L.D->Option ρ):Option ρ:=
 match s,v with
 |.one c,.one v=>c.flat ln v k
 |.agg cs,.agg vs=>qA (dW.flat ln) cs vs k
 |.bk xs,.bk vs=>qA (L:=fun x:Bool×List dW=>LL dW.L x.2) (WX ln) xs vs k
 |_,_=>none
theorem iZ.pf {ln:Nat->Nat} (s:iZ) (v:SV) (k:s.L.D->Option ρ) (r:ρ) (h:s.flat ln v k=some r):∃x,v=s.un ln x/\k x=some r:=by
 cases s with
 |one c=>
  cases v<;>simp only[iZ.flat] at h<;>first|(cases h;done)|skip
  obtain⟨x,e_,h_⟩:=dW.pf _ _ _ _ h;subst e_;replace h:=h_
  exact⟨x,rfl,h⟩
 |agg cs=>
  cases v<;>simp only[iZ.flat] at h<;>first|(cases h;done)|skip
  obtain⟨x,e_,h_⟩:=wX (un:=dW.un ln) (fun a b k r=>dW.pf a b k r) h;subst e_;replace h:=h_
  exact⟨x,rfl,h⟩
 |bk xs=>
  cases v<;>simp only[iZ.flat] at h<;>first|(cases h;done)|skip
  obtain⟨x,e_,h_⟩:=wX (L:=fun x:Bool×List dW=>LL dW.L x.2) (un:=fun a y=>(a.1,p9 (dW.un ln) a.2 y)) (fun a b k r h=>by
   unfold WX at h
   have h1:=(bw h).1;replace h:=(bw h).2
   obtain⟨x,h2,h⟩:=wX (un:=dW.un ln) (fun a b k r=>dW.pf a b k r) h
   exact⟨x,Prod.ext (eq_of_beq h1).symm h2,h⟩) h
  subst e_
  exact⟨x,rfl,h_⟩
def fv.L:fv->LT
 |.box cs=>LL dW.L cs
 |.row _ _ ts=>.ty (.list ts)
def fv.un (ln:Nat->Nat):(s:fv)->s.L.D->SB
 |.box cs,x=>.box (p9 (dW.un ln) cs x)
 |.row gr m ts,x=>.row gr m ts x
def Mode.beq:Mode->Mode->Bool
 |.live,.live=>true
 |.af,.af=>true
 |.aG,.aG=>true
 |_,_=>false
theorem Mode.beq_eq {a b:Mode} (h:Mode.beq a b=true):a=b:=by cases a<;>cases b<;>first|rfl|cases h
def fv.flat (ln:Nat->Nat) (s:fv) (b:Option SB) (k:s.L.D->Option ρ):Option ρ:=
 match s,b with
 |.box cs,some (.box vs)=>qA (dW.flat ln) cs vs k
 |.row gr m ts,some (.row aW m' us xs)=>da (aW==gr) (da (Mode.beq m' m) (match wN us ts xs with
  |some y=>k y
  |none=>none))
 |_,_=>none
theorem alf {us ts:List Ty} {xs:List (Ty.DL us)} {ys:List (Ty.DL ts)} (h:wN us ts xs=some ys) (gr:Bool) (m:Mode):SB.row gr m us xs=SB.row gr m ts ys:=by
 unfold wN at h
 split at h
 ·rename_i he
  have h2:=Ty.rH he
  subst h2
  injection h with h
  rw[<-h]
 ·cases h
theorem fv.pf {ln:Nat->Nat} (s:fv) (b:Option SB) (k:s.L.D->Option ρ) (r:ρ) (h:s.flat ln b k=some r):∃x,b=some (s.un ln x)/\k x=some r:=by
 cases s with
 |box cs=>
  cases b with
  |none=>cases h
  |some b=>
   cases b<;>simp only[fv.flat] at h<;>first|(cases h;done)|skip
   obtain⟨x,e_,h_⟩:=wX (un:=dW.un ln) (fun a b k r=>dW.pf a b k r) h;subst e_;replace h:=h_
   exact⟨x,rfl,h⟩
 |row gr m ts=>
  cases b with
  |none=>cases h
  |some b=>
   cases b<;>simp only[fv.flat] at h<;>first|(cases h;done)|skip
   have h1:=(bw h).1;replace h:=(bw h).2
   have h2:=(bw h).1;replace h:=(bw h).2
   split at h
   ·rename_i y hy
    refine⟨y,?_,h⟩
    rw[eq_of_beq h1,Mode.beq_eq h2,alf hy]
    rfl
   ·cases h
end
def k7:List (Nat×SV)->Nat->SV
 |[]=>fun _=>.one .aX
 |p::l=>ao (k7 l) p.1 p.2
def jH:List (Nat×Option SB)->Nat->Option SB
 |[]=>fun _=>none
 |p::l=>ao (jH l) p.1 p.2
def Df:List (Nat×fv)->Nat->Bool
 |[]=>fun _=>false
 |p::l=>ao (Df l) p.1 true
def sv (h:Nat->Option SB) (n:Nat):Nat:=
 match h n with
 |some (.row _ _ ts xs)=>J (α:=Ty.DL ts) xs
 |_=>0
abbrev jm.eL (sh:jm):LT:=LL (fun p:Nat×iZ=>p.2.L) sh.env
abbrev jm.hL (sh:jm):LT:=LL (fun p:Nat×fv=>p.2.L) sh.heap
def jm.L (sh:jm):LT:=LT.sp sh.eL sh.hL
def KX (ln:Nat->Nat) (l:List (Nat×iZ)) (x:(LL (fun p:Nat×iZ=>p.2.L) l).D):List (Nat×SV):=
 p9 (L:=fun p:Nat×iZ=>p.2.L) (fun p y=>(p.1,p.2.un ln y)) l x
def Ap (ln:Nat->Nat) (l:List (Nat×fv)) (x:(LL (fun p:Nat×fv=>p.2.L) l).D):List (Nat×Option SB):=
 p9 (L:=fun p:Nat×fv=>p.2.L) (fun p y=>(p.1,some (p.2.un ln y))) l x
def tT:(l:List (Nat×fv))->(LL (fun p:Nat×fv=>p.2.L) l).D->Nat->Nat
 |[],_=>fun _=>0
 |(n,.box cs)::l,x=>ao (tT l (LT.uh _ _ x).2) n 0
 |(n,.row gr m ts)::l,x=>ao (tT l (LT.uh (LT.ty (.list ts)) _ x).2) n (J (α:=Ty.DL ts) (LT.uh (LT.ty (.list ts)) _ x).1)
theorem PL (ln:Nat->Nat):∀(l:List (Nat×fv)) (x:(LL (fun p:Nat×fv=>p.2.L) l).D),tT l x=sv (jH (Ap ln l x))
 |[],_=>rfl
 |(n,.box cs)::l,x=>by
  funext m
  simp only[tT,Ap,p9,jH,sv]
  by_cases hm:m=n
  ·subst hm;simp only[bo];rfl
  ·simp only[bP _ _ _ _ hm]
   exact congrFun (PL ln l _) m
 |(n,.row gr mo ts)::l,x=>by
  funext m
  simp only[tT,Ap,p9,jH,sv]
  by_cases hm:m=n
  ·subst hm;simp only[bo];rfl
  ·simp only[bP _ _ _ _ hm]
   exact congrFun (PL ln l _) m
def jm.un (sh:jm) (x:sh.L.D):aa:=
 {env:=k7 (KX (tT sh.heap (LT.uh sh.eL sh.hL x).2) sh.env (LT.uh sh.eL sh.hL x).1)
  h:=jH (Ap (tT sh.heap (LT.uh sh.eL sh.hL x).2) sh.heap (LT.uh sh.eL sh.hL x).2)
  used:=fun n=>Nat.ble aJ n||Df sh.heap n}
def qD (n:Nat):List (Nat×fv)->Bool
 |[]=>false
 |p::l=>match Nat.beq n p.1 with
  |true=>true
  |false=>qD n l
section
variable {ρ:Type}
def WU (ln:Nat->Nat) (p:Nat×iZ) (v:Nat×SV) (k:p.2.L.D->Option ρ):Option ρ:=bH v.1 p.1 (p.2.flat ln v.2 k)
def WV (ln:Nat->Nat) (p:Nat×fv) (b:Nat×Option SB) (k:p.2.L.D->Option ρ):Option ρ:=bH b.1 p.1 (p.2.flat ln b.2 k)
def Ig (σ:aa) (hp:List (Nat×fv)):List Nat->Bool
 |[]=>true
 |n::kh=>(match qD n hp with|true=>σ.used n|false=>(match σ.used n with|true=>Nat.ble aJ n|false=> !(Nat.ble aJ n))&&(σ.h n).isNone)&&Ig σ hp kh
def HU (kh:List Nat):List (Nat×fv)->Bool
 |[]=>true
 |p::l=>kh.contains p.1&&HU kh l
def jm.flat (sh:jm) (kh:List Nat) (σ:aa) (k:sh.L.D->Option ρ):Option ρ:=
 da (Ig σ sh.heap kh&&HU kh sh.heap)
  (qA (WU (sv σ.h)) sh.env (sh.env.map fun p=>(p.1,σ.env p.1)) fun xe=>
   qA (WV (sv σ.h)) sh.heap (sh.heap.map fun p=>(p.1,σ.h p.1)) fun xh=>k (LT.C4 sh.eL sh.hL xe xh))
end
theorem ac7 (l:List (Nat×iZ)) (f:Nat->SV) (hf:∀s,s∉l.map (·.1)->f s=.one .aX):k7 (l.map fun p=>(p.1,f p.1))=f:=by
 have:∀(l:List (Nat×iZ)) s,k7 (l.map fun p=>(p.1,f p.1)) s=if s∈l.map (·.1) then f s else .one .aX:=by
  intro l s
  induction l with
  |nil=>rfl
  |cons p l ih=>
   simp only[List.map_cons,k7,iU,ih,List.mem_cons]
   by_cases h:s=p.1
   ·subst h;simp
   ·by_cases h2:s∈l.map (·.1)
    ·rw[if_neg h,if_pos h2,if_pos (Or.inr h2)]
    ·rw[if_neg h,if_neg h2,if_neg (fun e=>e.elim h h2)]
 funext s
 rw[this]
 split
 ·rfl
 ·rename_i h;exact(hf s h).symm
theorem afB (l:List (Nat×fv)) (f:Nat->Option SB) (hf:∀s,s∉l.map (·.1)->f s=none):jH (l.map fun p=>(p.1,f p.1))=f:=by
 have:∀(l:List (Nat×fv)) s,jH (l.map fun p=>(p.1,f p.1)) s=if s∈l.map (·.1) then f s else none:=by
  intro l s
  induction l with
  |nil=>rfl
  |cons p l ih=>
   simp only[List.map_cons,jH,iU,ih,List.mem_cons]
   by_cases h:s=p.1
   ·subst h;simp
   ·by_cases h2:s∈l.map (·.1)
    ·rw[if_neg h,if_pos h2,if_pos (Or.inr h2)]
    ·rw[if_neg h,if_neg h2,if_neg (fun e=>e.elim h h2)]
 funext s
 rw[this]
 split
 ·rfl
 ·rename_i h;exact(hf s h).symm
theorem Xr (n:Nat) (l:List (Nat×fv)):qD n l=true↔n∈l.map (·.1):=by
  induction l with
  |nil=>simp[qD]
  |cons p l ih=>
   simp only[qD,List.map_cons,List.mem_cons]
   cases h:Nat.beq n p.1 with
   |true=>simp[Nat.eq_of_beq_eq_true h]
   |false=>simp only[ih];constructor
           · exact .inr
           · rintro(rfl|h2)
             · rw[Nat.beq_refl] at h;cases h
             · exact h2
theorem amI (n:Nat) (l:List (Nat×fv)):Df l n=qD n l:=by
 induction l with
 |nil=>rfl
 |cons p l ih=>
  simp only[Df,qD,iU,ih]
  by_cases h:n=p.1
  ·subst h;simp[Nat.beq_refl]
  ·have:Nat.beq n p.1=false:=by
    cases hb:Nat.beq n p.1 with
    |true=>exact absurd (Nat.eq_of_beq_eq_true hb) h
    |false=>rfl
   simp[h,this]
theorem Ml {σ:aa} {hp:List (Nat×fv)}:∀{kh:List Nat},Ig σ hp kh=true->∀n∈kh,σ.used n=(Nat.ble aJ n||qD n hp)/\(qD n hp=false->σ.h n=none)
 |[],_,n,hn=>by cases hn
 |m::kh,h,n,hn=>by
  simp only[Ig,Bool.and_eq_true] at h
  rcases List.mem_cons.1 hn with e_|hn
  ·subst e_
   cases hh:qD n hp with
   |true=>
    rw[hh] at h
    have h1:σ.used n=true:=h.1
    exact⟨by rw[h1,Bool.or_true],fun e=>by cases e⟩
   |false=>
    rw[hh] at h
    simp only[Bool.and_eq_true,Option.isNone_iff_eq_none] at h
    refine⟨?_,fun _=>h.1.2⟩
    have h1:=h.1.1
    rw[Bool.or_false]
    cases hu:σ.used n with
    |true=>rw[hu] at h1;exact h1.symm
    |false=>rw[hu] at h1;simpa using h1.symm
  ·exact Ml h.2 n hn
theorem Vg {kh:List Nat}:∀{l:List (Nat×fv)},HU kh l=true->∀n∈l.map (·.1),n∈kh
 |[],_,n,hn=>by cases hn
 |p::l,h,n,hn=>by
  simp only[HU,Bool.and_eq_true] at h
  simp only[List.map_cons,List.mem_cons] at hn
  rcases hn with rfl|hn
  ·simpa using h.1
  ·exact Vg h.2 n hn
theorem jm.pf {ρ:Type} {sh:jm} {kh:List Nat} {σ:aa} {k:sh.L.D->Option ρ} {r:ρ} (h:sh.flat kh σ k=some r)
  (he:∀s,s∉sh.ke->σ.env s=.one .aX) (hh:∀n,n∉kh->σ.h n=none/\σ.used n=Nat.ble aJ n):∃x,σ=sh.un x/\k x=some r:=by
 unfold jm.flat at h
 have hc:=(bw h).1;replace h:=(bw h).2
 simp only[Bool.and_eq_true] at hc
 obtain⟨xe,e1,h⟩:=wX (L:=fun p:Nat×iZ=>p.2.L) (un:=fun p y=>(p.1,p.2.un (sv σ.h) y)) (fun a b k r h=>by
  unfold WU at h
  obtain⟨h1,h⟩:=aH h
  obtain⟨x,h2,h⟩:=iZ.pf _ _ _ _ h
  exact⟨x,Prod.ext h1 h2,h⟩) h
 obtain⟨xh,e2,h⟩:=wX (L:=fun p:Nat×fv=>p.2.L) (un:=fun p y=>(p.1,some (p.2.un (sv σ.h) y))) (fun a b k r h=>by
  unfold WV at h
  obtain⟨h1,h⟩:=aH h
  obtain⟨x,h2,h⟩:=fv.pf _ _ _ _ h
  exact⟨x,Prod.ext h1 h2,h⟩) h
 have rS:σ.env=k7 (KX (sv σ.h) sh.env xe):=by
  unfold KX
  rw[<-e1]
  exact(ac7 sh.env σ.env he).symm
 have BV:σ.h=jH (Ap (sv σ.h) sh.heap xh):=by
  unfold Ap
  rw[<-e2]
  refine(afB sh.heap σ.h fun n hn=>?_).symm
  by_cases hk:n∈kh
  ·refine(Ml hc.1 n hk).2 ?_
   cases hb:qD n sh.heap with
   |true=>exact absurd ((Xr n sh.heap).1 hb) hn
   |false=>rfl
  ·exact(hh n hk).1
 have afR:tT sh.heap xh=sv σ.h:=by
  rw[PL (sv σ.h),<-BV]
 have agj:σ.used=fun n=>Nat.ble aJ n||Df sh.heap n:=by
  funext n
  rw[amI]
  by_cases hk:n∈kh
  ·exact(Ml hc.1 n hk).1
  ·rw[(hh n hk).2]
   cases hb:qD n sh.heap with
   |true=>exact absurd (Vg hc.2 n ((Xr n sh.heap).1 hb)) hk
   |false=>rw[Bool.or_false]
 refine⟨LT.C4 sh.eL sh.hL xe xh,?_,h⟩
 have:sh.un (LT.C4 sh.eL sh.hL xe xh)={env:=k7 (KX (tT sh.heap xh) sh.env xe),h:=jH (Ap (tT sh.heap xh) sh.heap xh),used:=fun n=>Nat.ble aJ n||Df sh.heap n}:=by
  simp only[jm.un,LT.aaV]
 rw[this,afR,<-rS,<-BV,<-agj]
end Go.Am
