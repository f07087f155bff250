/- S5: shapes of states; loop heads of the typed evaluator. No condition. -/
import Derived.Test.YtfkfmbhknekkdaaS4
set_option linter.unusedVariables false
namespace Go.Am
inductive LT where
 |unit
 |ty (t:Ty)
 |dl (ts:List Ty)
 |nat
 |pair (a b:LT)
def LT.D:LT->Type
 |.unit=>Unit
 |.ty t=>t.D
 |.dl ts=>Ty.DL ts
 |.nat=>Nat
 |.pair a b=>a.D×b.D
def LT.z4 (a:LT):LT->LT
 |.unit=>a
 |.ty t=>.pair a (.ty t)
 |.dl ts=>.pair a (.dl ts)
 |.nat=>.pair a .nat
 |.pair x y=>.pair a (.pair x y)
def LT.sp:LT->LT->LT
 |.unit,b=>b
 |.ty t,b=>LT.z4 (.ty t) b
 |.dl ts,b=>LT.z4 (.dl ts) b
 |.nat,b=>LT.z4 .nat b
 |.pair x y,b=>LT.z4 (.pair x y) b
def LT.CY (a:LT):(b:LT)->(LT.z4 a b).D->a.D×b.D
 |.unit,x=>(x,())
 |.ty _,x=>x
 |.dl _,x=>x
 |.nat,x=>x
 |.pair _ _,x=>x
def LT.rD:(a b:LT)->(LT.sp a b).D->a.D×b.D
 |.unit,b,x=>((),x)
 |.ty t,b,x=>LT.CY (.ty t) b x
 |.dl ts,b,x=>LT.CY (.dl ts) b x
 |.nat,b,x=>LT.CY .nat b x
 |.pair x y,b,z=>LT.CY (.pair x y) b z
def LT.CX (a:LT):(b:LT)->a.D->b.D->(LT.z4 a b).D
 |.unit,x,_=>x
 |.ty _,x,y=>(x,y)
 |.dl _,x,y=>(x,y)
 |.nat,x,y=>(x,y)
 |.pair _ _,x,y=>(x,y)
def LT.z5:(a b:LT)->a.D->b.D->(LT.sp a b).D
 |.unit,b,_,y=>y
 |.ty t,b,x,y=>LT.CX (.ty t) b x y
 |.dl ts,b,x,y=>LT.CX (.dl ts) b x y
 |.nat,b,x,y=>LT.CX .nat b x y
 |.pair u v,b,x,y=>LT.CX (.pair u v) b x y
theorem LT.akK (a b:LT) (x:a.D) (y:b.D):LT.CY a b (LT.CX a b x y)=(x,y):=by cases b<;>rfl
theorem LT.YN (a b:LT) (x:a.D) (y:b.D):LT.rD a b (LT.z5 a b x y)=(x,y):=by
 cases a with
 |unit=>rfl
 |_=>exact LT.akK _ b x y
section
variable {α β:Type} {ρ:Type} {L:α->LT}
def LL (L:α->LT):List α->LT
 |[]=>.unit
 |a::l=>LT.sp (L a) (LL L l)
def nH (un:(a:α)->(L a).D->β):(l:List α)->(LL L l).D->List β
 |[],_=>[]
 |a::l,x=>un a (LT.rD (L a) (LL L l) x).1::nH un l (LT.rD (L a) (LL L l) x).2
def nY (flat:(a:α)->β->((L a).D->Option ρ)->Option ρ):(l:List α)->List β->((LL L l).D->Option ρ)->Option ρ
 |[],[],k=>k ()
 |a::l,b::bs,k=>flat a b fun x=>nY flat l bs fun y=>k (LT.z5 (L a) (LL L l) x y)
 |_,_,_=>none
theorem tP {flat:(a:α)->β->((L a).D->Option ρ)->Option ρ} {un:(a:α)->(L a).D->β}
  (hf:∀a b k r,flat a b k=some r->∃x,b=un a x/\k x=some r):∀{l:List α} {bs:List β} {k:(LL L l).D->Option ρ} {r:ρ},nY flat l bs k=some r->
  ∃x,bs=nH un l x/\k x=some r
 |[],[],k,r,h=>⟨(),rfl,h⟩
 |a::l,b::bs,k,r,h=>by
  simp only[nY] at h
  obtain⟨x,rfl,h2⟩:=hf _ _ _ _ h
  obtain⟨y,rfl,h4⟩:=tP hf h2
  exact⟨LT.z5 (L a) (LL L l) x y,by simp only[nH,LT.YN],h4⟩
 |[],_::_,k,r,h=>by simp[nY] at h
 |_::_,[],k,r,h=>by simp[nY] at h
end
inductive f9 where
 |v (t:Ty)
 |nil (ts:List Ty)
 |CG (n off:Nat)
 |ptr (n sz off:Nat)
 |bV (ts:List Ty) (off:Nat)
 |bD (ts:List Ty) (off j n sz:Nat)
 |full (n sz:Nat)
 |sl (n sz:Nat)
 |bj (n au off sz:Nat)
 |bg
inductive dE where
 |c (s:f9)
 |fn (f:FuncId) (bM:List f9)
inductive g7 where
 |one (c:dE)
 |agg (cs:List dE)
 |aY (xs:List (Bool×List dE))
inductive eX where
 |box (cs:List dE)
 |row (gr:Bool) (m:Mode) (ts:List Ty)
structure ir where
 env:List (Nat×g7)
 heap:List (Nat×eX)
abbrev ir.ke (sh:ir):List Nat:=sh.env.map (·.1)
def f9.L:f9->LT
 |.v t=>.ty t
 |.nil _=>.unit
 |.CG _ _=>.unit
 |.ptr _ _ _=>.nat
 |.bV ts _=>.dl ts
 |.bD ts _ _ _ _=>.dl ts
 |.full _ _=>.unit
 |.sl _ _=>.pair .nat .nat
 |.bj _ _ _ _=>.pair .nat .nat
 |.bg=>.unit
def f9.un (ln:Nat->Nat):(s:f9)->s.L.D->SC
 |.v t,x=>.v t x
 |.nil ts,_=>.nil ts
 |.CG n off,_=>.ptr n 0 0 off
 |.ptr n sz off,k=>.ptr n k sz off
 |.bV ts off,x=>.bV ts x off
 |.bD ts off j n sz,x=>.bD ts x off j n sz (ln n)
 |.full n sz,_=>.sl n sz 0 (ln n)
 |.sl n sz,x=>.sl n sz x.1 x.2
 |.bj n au off sz,x=>.bj n x.1 au off sz x.2
 |.bg,_=>.bg
section
variable {ρ:Type}
def f9.flat (ln:Nat->Nat) (s:f9) (c:SC) (k:s.L.D->Option ρ):Option ρ:=
 match s,c with
 |.v t,.v u x=>match Ty.cast u t x with
  |some y=>k y
  |none=>none
 |.nil ts,.nil us=>dQ (Ty.pd us ts) (k ())
 |.CG n off,.ptr n' kk sz pZ=>ci n' n (ci kk 0 (ci sz 0 (ci pZ off (k ()))))
 |.ptr n sz off,.ptr n' kk aC pZ=>ci n' n (ci aC sz (ci pZ off (k kk)))
 |.bV ts off,.bV us x pZ=>ci pZ off (match Ty.yc us ts x with
  |some y=>k y
  |none=>none)
 |.bD ts off j n sz,.bD us x pZ j' n' aC len=>ci pZ off (ci j' j (ci n' n (ci aC sz ((aI 0 len (ln n)).ah fun _=>match Ty.yc us ts x with
  |some y=>k y
  |none=>none))))
 |.full n sz,.sl n' aC lo len=>ci n' n (ci aC sz ((aI lo len (ln n)).ah fun _=>k ()))
 |.sl n sz,.sl n' aC lo len=>ci n' n (ci aC sz (k (lo,len)))
 |.bj n au off sz,.bj n' kk ajY pZ aC len=>ci n' n (ci ajY au (ci pZ off (ci aC sz (k (kk,len)))))
 |.bg,.bg=>k ()
 |_,_=>none
theorem Ty.cast_eq {t u:Ty} {x:t.D} {y:u.D} (h:Ty.cast t u x=some y):SC.v t x=SC.v u y:=by
 unfold Ty.cast at h
 split at h
 ·rename_i he
  have:=Ty.beq_eq he
  subst this
  injection h with h
  rw[<-h]
 ·cases h
theorem Ty.aau {ts us:List Ty} {x:Ty.DL ts} {y:Ty.DL us} (h:Ty.yc ts us x=some y) (off:Nat):SC.bV ts x off=SC.bV us y off:=by
 unfold Ty.yc at h
 split at h
 ·rename_i he
  have:=Ty.pf he
  subst this
  injection h with h
  rw[<-h]
 ·cases h
theorem Ty.aav {ts us:List Ty} {x:Ty.DL ts} {y:Ty.DL us} (h:Ty.yc ts us x=some y) (off j n sz len:Nat):SC.bD ts x off j n sz len=SC.bD us y off j n sz len:=by
 unfold Ty.yc at h
 split at h
 ·rename_i he
  have:=Ty.pf he
  subst this
  injection h with h
  rw[<-h]
 ·cases h
theorem f9.m6 {ln:Nat->Nat} (s:f9) (c:SC) (k:s.L.D->Option ρ) (r:ρ) (h:s.flat ln c k=some r):∃x,c=s.un ln x/\k x=some r:=by
 cases s with
 |v t=>
  cases c<;>simp only[f9.flat] at h<;>first|(cases h;done)|skip
  split at h
  ·rename_i y hy
   exact⟨y,Ty.cast_eq hy,h⟩
  ·cases h
 |nil ts=>
  cases c<;>simp only[f9.flat] at h<;>first|(cases h;done)|skip
  have h1:=(bQ h).1;replace h:=(bQ h).2
  exact⟨(),by rw[Ty.pf h1];rfl,h⟩
 |CG n off=>
  cases c<;>simp only[f9.flat] at h<;>first|(cases h;done)|skip
  have aS:=(aK h).1;replace h:=(aK h).2;subst aS
  have aS:=(aK h).1;replace h:=(aK h).2;subst aS
  have aS:=(aK h).1;replace h:=(aK h).2;subst aS
  have aS:=(aK h).1;replace h:=(aK h).2;subst aS
  exact⟨(),rfl,h⟩
 |ptr n sz off=>
  cases c<;>simp only[f9.flat] at h<;>first|(cases h;done)|skip
  have aS:=(aK h).1;replace h:=(aK h).2;subst aS
  have aS:=(aK h).1;replace h:=(aK h).2;subst aS
  have aS:=(aK h).1;replace h:=(aK h).2;subst aS
  exact⟨_,rfl,h⟩
 |bV ts off=>
  cases c<;>simp only[f9.flat] at h<;>first|(cases h;done)|skip
  have aS:=(aK h).1;replace h:=(aK h).2;subst aS
  split at h
  ·rename_i y hy
   exact⟨y,Ty.aau hy _,h⟩
  ·cases h
 |bD ts off j n sz=>
  cases c<;>simp only[f9.flat] at h<;>first|(cases h;done)|skip
  have aS:=(aK h).1;replace h:=(aK h).2;subst aS
  have aS:=(aK h).1;replace h:=(aK h).2;subst aS
  have aS:=(aK h).1;replace h:=(aK h).2;subst aS
  have aS:=(aK h).1;replace h:=(aK h).2;subst aS
  rw[dF] at h
  obtain⟨_,hf,h⟩:=h
  unfold aI at hf
  split at hf
  ·rename_i hc
   obtain⟨_,rfl⟩:=hc
   split at h
   ·rename_i y hy
    exact⟨y,Ty.aav hy _ _ _ _ _,h⟩
   ·cases h
  ·cases hf
 |full n sz=>
  cases c<;>simp only[f9.flat] at h<;>first|(cases h;done)|skip
  have aS:=(aK h).1;replace h:=(aK h).2;subst aS
  have aS:=(aK h).1;replace h:=(aK h).2;subst aS
  rw[dF] at h
  obtain⟨_,hf,h⟩:=h
  unfold aI at hf
  split at hf
  ·rename_i hc
   obtain⟨rfl,rfl⟩:=hc
   exact⟨(),rfl,h⟩
  ·cases hf
 |sl n sz=>
  cases c<;>simp only[f9.flat] at h<;>first|(cases h;done)|skip
  have aS:=(aK h).1;replace h:=(aK h).2;subst aS
  have aS:=(aK h).1;replace h:=(aK h).2;subst aS
  exact⟨_,rfl,h⟩
 |bj n au off sz=>
  cases c<;>simp only[f9.flat] at h<;>first|(cases h;done)|skip
  have aS:=(aK h).1;replace h:=(aK h).2;subst aS
  have aS:=(aK h).1;replace h:=(aK h).2;subst aS
  have aS:=(aK h).1;replace h:=(aK h).2;subst aS
  have aS:=(aK h).1;replace h:=(aK h).2;subst aS
  exact⟨_,rfl,h⟩
 |bg=>
  cases c<;>simp only[f9.flat] at h<;>first|(cases h;done)|skip
  exact⟨(),rfl,h⟩
def dE.L:dE->LT
 |.c s=>s.L
 |.fn _ bM=>LL f9.L bM
def dE.un (ln:Nat->Nat):(s:dE)->s.L.D->SC
 |.c s,x=>s.un ln x
 |.fn f bM,x=>.fn f (nH (f9.un ln) bM x)
def dE.flat (ln:Nat->Nat) (s:dE) (c:SC) (k:s.L.D->Option ρ):Option ρ:=
 match s,c with
 |.c s,c=>s.flat ln c k
 |.fn f bM,.fn f' cs=>ci f' f (nY (f9.flat ln) bM cs k)
 |_,_=>none
theorem dE.m6 {ln:Nat->Nat} (s:dE) (c:SC) (k:s.L.D->Option ρ) (r:ρ) (h:s.flat ln c k=some r):∃x,c=s.un ln x/\k x=some r:=by
 cases s with
 |c s=>exact s.m6 c k r (by cases c<;>exact h)
 |fn f bM=>
  cases c<;>simp only[dE.flat] at h<;>first|(cases h;done)|skip
  have aS:=(aK h).1;replace h:=(aK h).2;subst aS
  obtain⟨x,e_,h_⟩:=tP (un:=f9.un ln) (fun a b k r=>f9.m6 a b k r) h;subst e_;replace h:=h_
  exact⟨x,rfl,h⟩
def g7.L:g7->LT
 |.one c=>c.L
 |.agg cs=>LL dE.L cs
 |.aY xs=>LL (fun x:Bool×List dE=>LL dE.L x.2) xs
def g7.un (ln:Nat->Nat):(s:g7)->s.L.D->SV
 |.one c,x=>.one (c.un ln x)
 |.agg cs,x=>.agg (nH (dE.un ln) cs x)
 |.aY xs,x=>.aY (nH (L:=fun x:Bool×List dE=>LL dE.L x.2) (fun a y=>(a.1,nH (dE.un ln) a.2 y)) xs x)
def Th (ln:Nat->Nat) (a:Bool×List dE) (b:Bool×List SC) (k:(LL dE.L a.2).D->Option ρ):Option ρ:=
 dQ (a.1==b.1) (nY (dE.flat ln) a.2 b.2 k)
def g7.flat (ln:Nat->Nat) (s:g7) (v:SV) (k:s.L.D->Option ρ):Option ρ:=
 match s,v with
 |.one c,.one v=>c.flat ln v k
 |.agg cs,.agg vs=>nY (dE.flat ln) cs vs k
 |.aY xs,.aY vs=>nY (L:=fun x:Bool×List dE=>LL dE.L x.2) (Th ln) xs vs k
 |_,_=>none
theorem g7.m6 {ln:Nat->Nat} (s:g7) (v:SV) (k:s.L.D->Option ρ) (r:ρ) (h:s.flat ln v k=some r):∃x,v=s.un ln x/\k x=some r:=by
 cases s with
 |one c=>
  cases v<;>simp only[g7.flat] at h<;>first|(cases h;done)|skip
  obtain⟨x,e_,h_⟩:=dE.m6 _ _ _ _ h;subst e_;replace h:=h_
  exact⟨x,rfl,h⟩
 |agg cs=>
  cases v<;>simp only[g7.flat] at h<;>first|(cases h;done)|skip
  obtain⟨x,e_,h_⟩:=tP (un:=dE.un ln) (fun a b k r=>dE.m6 a b k r) h;subst e_;replace h:=h_
  exact⟨x,rfl,h⟩
 |aY xs=>
  cases v<;>simp only[g7.flat] at h<;>first|(cases h;done)|skip
  obtain⟨x,e_,h_⟩:=tP (L:=fun x:Bool×List dE=>LL dE.L x.2) (un:=fun a y=>(a.1,nH (dE.un ln) a.2 y)) (fun a b k r h=>by
   unfold Th at h
   have h1:=(bQ h).1;replace h:=(bQ h).2
   obtain⟨x,h2,h⟩:=tP (un:=dE.un ln) (fun a b k r=>dE.m6 a b k r) h
   exact⟨x,Prod.ext (eq_of_beq h1).symm h2,h⟩) h
  subst e_
  exact⟨x,rfl,h_⟩
def eX.L:eX->LT
 |.box cs=>LL dE.L cs
 |.row _ _ ts=>.ty (.list ts)
def eX.un (ln:Nat->Nat):(s:eX)->s.L.D->SB
 |.box cs,x=>.box (nH (dE.un ln) cs x)
 |.row gr m ts,x=>.row gr m ts x
def Mode.beq:Mode->Mode->Bool
 |.live,.live=>true
 |.aj,.aj=>true
 |.aF,.aF=>true
 |_,_=>false
theorem Mode.beq_eq {a b:Mode} (h:Mode.beq a b=true):a=b:=by cases a<;>cases b<;>first|rfl|cases h
def eX.flat (ln:Nat->Nat) (s:eX) (b:Option SB) (k:s.L.D->Option ρ):Option ρ:=
 match s,b with
 |.box cs,some (.box vs)=>nY (dE.flat ln) cs vs k
 |.row gr m ts,some (.row aU m' us xs)=>dQ (aU==gr) (dQ (Mode.beq m' m) (match tG us ts xs with
  |some y=>k y
  |none=>none))
 |_,_=>none
theorem ajV {us ts:List Ty} {xs:List (Ty.DL us)} {ys:List (Ty.DL ts)} (h:tG us ts xs=some ys) (gr:Bool) (m:Mode):SB.row gr m us xs=SB.row gr m ts ys:=by
 unfold tG at h
 split at h
 ·rename_i he
  have h2:=Ty.pf he
  subst h2
  injection h with h
  rw[<-h]
 ·cases h
theorem eX.m6 {ln:Nat->Nat} (s:eX) (b:Option SB) (k:s.L.D->Option ρ) (r:ρ) (h:s.flat ln b k=some r):∃x,b=some (s.un ln x)/\k x=some r:=by
 cases s with
 |box cs=>
  cases b with
  |none=>cases h
  |some b=>
   cases b<;>simp only[eX.flat] at h<;>first|(cases h;done)|skip
   obtain⟨x,e_,h_⟩:=tP (un:=dE.un ln) (fun a b k r=>dE.m6 a b k r) h;subst e_;replace h:=h_
   exact⟨x,rfl,h⟩
 |row gr m ts=>
  cases b with
  |none=>cases h
  |some b=>
   cases b<;>simp only[eX.flat] at h<;>first|(cases h;done)|skip
   have h1:=(bQ h).1;replace h:=(bQ h).2
   have h2:=(bQ h).1;replace h:=(bQ h).2
   split at h
   ·rename_i y hy
    refine⟨y,?_,h⟩
    rw[eq_of_beq h1,Mode.beq_eq h2,ajV hy]
    rfl
   ·cases h
end
def jX:List (Nat×SV)->Nat->SV
 |[]=>fun _=>.one .bg
 |p::l=>aq (jX l) p.1 p.2
def iJ:List (Nat×Option SB)->Nat->Option SB
 |[]=>fun _=>none
 |p::l=>aq (iJ l) p.1 p.2
def Ao:List (Nat×eX)->Nat->Bool
 |[]=>fun _=>false
 |p::l=>aq (Ao l) p.1 true
def qd (h:Nat->Option SB) (n:Nat):Nat:=
 match h n with
 |some (.row _ _ ts xs)=>aa (α:=Ty.DL ts) xs
 |_=>0
abbrev ir.eL (sh:ir):LT:=LL (fun p:Nat×g7=>p.2.L) sh.env
abbrev ir.hL (sh:ir):LT:=LL (fun p:Nat×eX=>p.2.L) sh.heap
def ir.L (sh:ir):LT:=LT.sp sh.eL sh.hL
def HB (ln:Nat->Nat) (l:List (Nat×g7)) (x:(LL (fun p:Nat×g7=>p.2.L) l).D):List (Nat×SV):=
 nH (L:=fun p:Nat×g7=>p.2.L) (fun p y=>(p.1,p.2.un ln y)) l x
def xt (ln:Nat->Nat) (l:List (Nat×eX)) (x:(LL (fun p:Nat×eX=>p.2.L) l).D):List (Nat×Option SB):=
 nH (L:=fun p:Nat×eX=>p.2.L) (fun p y=>(p.1,some (p.2.un ln y))) l x
def rl:(l:List (Nat×eX))->(LL (fun p:Nat×eX=>p.2.L) l).D->Nat->Nat
 |[],_=>fun _=>0
 |(n,.box cs)::l,x=>aq (rl l (LT.rD _ _ x).2) n 0
 |(n,.row gr m ts)::l,x=>aq (rl l (LT.rD (LT.ty (.list ts)) _ x).2) n (aa (α:=Ty.DL ts) (LT.rD (LT.ty (.list ts)) _ x).1)
theorem Mq (ln:Nat->Nat):∀(l:List (Nat×eX)) (x:(LL (fun p:Nat×eX=>p.2.L) l).D),rl l x=qd (iJ (xt ln l x))
 |[],_=>rfl
 |(n,.box cs)::l,x=>by
  funext m
  simp only[rl,xt,nH,iJ,qd]
  by_cases hm:m=n
  ·subst hm;simp only[bu];rfl
  ·simp only[cd _ _ _ _ hm]
   exact congrFun (Mq ln l _) m
 |(n,.row gr mo ts)::l,x=>by
  funext m
  simp only[rl,xt,nH,iJ,qd]
  by_cases hm:m=n
  ·subst hm;simp only[bu];rfl
  ·simp only[cd _ _ _ _ hm]
   exact congrFun (Mq ln l _) m
def ir.un (sh:ir) (x:sh.L.D):ab:=
 {env:=jX (HB (rl sh.heap (LT.rD sh.eL sh.hL x).2) sh.env (LT.rD sh.eL sh.hL x).1)
  h:=iJ (xt (rl sh.heap (LT.rD sh.eL sh.hL x).2) sh.heap (LT.rD sh.eL sh.hL x).2)
  used:=fun n=>Nat.ble aZ n||Ao sh.heap n}
def n5 (n:Nat):List (Nat×eX)->Bool
 |[]=>false
 |p::l=>match Nat.beq n p.1 with
  |true=>true
  |false=>n5 n l
section
variable {ρ:Type}
def Te (ln:Nat->Nat) (p:Nat×g7) (v:Nat×SV) (k:p.2.L.D->Option ρ):Option ρ:=ci v.1 p.1 (p.2.flat ln v.2 k)
def Tf (ln:Nat->Nat) (p:Nat×eX) (b:Nat×Option SB) (k:p.2.L.D->Option ρ):Option ρ:=ci b.1 p.1 (p.2.flat ln b.2 k)
def Ew (σ:ab) (hp:List (Nat×eX)):List Nat->Bool
 |[]=>true
 |n::kh=>(match n5 n hp with|true=>σ.used n|false=>(match σ.used n with|true=>Nat.ble aZ n|false=> !(Nat.ble aZ n))&&(σ.h n).isNone)&&Ew σ hp kh
def Ec (kh:List Nat):List (Nat×eX)->Bool
 |[]=>true
 |p::l=>kh.contains p.1&&Ec kh l
def ir.flat (sh:ir) (kh:List Nat) (σ:ab) (k:sh.L.D->Option ρ):Option ρ:=
 dQ (Ew σ sh.heap kh&&Ec kh sh.heap)
  (nY (Te (qd σ.h)) sh.env (sh.env.map fun p=>(p.1,σ.env p.1)) fun xe=>
   nY (Tf (qd σ.h)) sh.heap (sh.heap.map fun p=>(p.1,σ.h p.1)) fun xh=>k (LT.z5 sh.eL sh.hL xe xh))
end
theorem aba (l:List (Nat×g7)) (f:Nat->SV) (hf:∀s,s∉l.map (·.1)->f s=.one .bg):jX (l.map fun p=>(p.1,f p.1))=f:=by
 have:∀(l:List (Nat×g7)) s,jX (l.map fun p=>(p.1,f p.1)) s=if s∈l.map (·.1) then f s else .one .bg:=by
  intro l s
  induction l with
  |nil=>rfl
  |cons p l ih=>
   simp only[List.map_cons,jX,ik,ih,List.mem_cons]
   by_cases h:s=p.1
   ·subst h;simp
   ·by_cases h2:s∈l.map (·.1)
    ·rw[if_neg h,if_pos h2,if_pos (Or.inr h2)]
    ·rw[if_neg h,if_neg h2,if_neg (fun e=>e.elim h h2)]
 funext s
 rw[this]
 split
 ·rfl
 ·rename_i h;exact(hf s h).symm
theorem acU (l:List (Nat×eX)) (f:Nat->Option SB) (hf:∀s,s∉l.map (·.1)->f s=none):iJ (l.map fun p=>(p.1,f p.1))=f:=by
 have:∀(l:List (Nat×eX)) s,iJ (l.map fun p=>(p.1,f p.1)) s=if s∈l.map (·.1) then f s else none:=by
  intro l s
  induction l with
  |nil=>rfl
  |cons p l ih=>
   simp only[List.map_cons,iJ,ik,ih,List.mem_cons]
   by_cases h:s=p.1
   ·subst h;simp
   ·by_cases h2:s∈l.map (·.1)
    ·rw[if_neg h,if_pos h2,if_pos (Or.inr h2)]
    ·rw[if_neg h,if_neg h2,if_neg (fun e=>e.elim h h2)]
 funext s
 rw[this]
 split
 ·rfl
 ·rename_i h;exact(hf s h).symm
theorem TP (n:Nat) (l:List (Nat×eX)):n5 n l=true↔n∈l.map (·.1):=by
  induction l with
  |nil=>simp[n5]
  |cons p l ih=>
   simp only[n5,List.map_cons,List.mem_cons]
   cases h:Nat.beq n p.1 with
   |true=>simp[Nat.eq_of_beq_eq_true h]
   |false=>simp only[ih];constructor
           · exact .inr
           · rintro(rfl|h2)
             · rw[Nat.beq_refl] at h;cases h
             · exact h2
theorem alm (n:Nat) (l:List (Nat×eX)):Ao l n=n5 n l:=by
 induction l with
 |nil=>rfl
 |cons p l ih=>
  simp only[Ao,n5,ik,ih]
  by_cases h:n=p.1
  ·subst h;simp[Nat.beq_refl]
  ·have:Nat.beq n p.1=false:=by
    cases hb:Nat.beq n p.1 with
    |true=>exact absurd (Nat.eq_of_beq_eq_true hb) h
    |false=>rfl
   simp[h,this]
theorem I2 {σ:ab} {hp:List (Nat×eX)}:∀{kh:List Nat},Ew σ hp kh=true->∀n∈kh,σ.used n=(Nat.ble aZ n||n5 n hp)/\(n5 n hp=false->σ.h n=none)
 |[],_,n,hn=>by cases hn
 |m::kh,h,n,hn=>by
  simp only[Ew,Bool.and_eq_true] at h
  rcases List.mem_cons.1 hn with e_|hn
  ·subst e_
   cases hh:n5 n hp with
   |true=>
    rw[hh] at h
    have h1:σ.used n=true:=h.1
    exact⟨by rw[h1,Bool.or_true],fun e=>by cases e⟩
   |false=>
    rw[hh] at h
    simp only[Bool.and_eq_true,Option.isNone_iff_eq_none] at h
    refine⟨?_,fun _=>h.1.2⟩
    have h1:=h.1.1
    rw[Bool.or_false]
    cases hu:σ.used n with
    |true=>rw[hu] at h1;exact h1.symm
    |false=>rw[hu] at h1;simpa using h1.symm
  ·exact I2 h.2 n hn
theorem Q6 {kh:List Nat}:∀{l:List (Nat×eX)},Ec kh l=true->∀n∈l.map (·.1),n∈kh
 |[],_,n,hn=>by cases hn
 |p::l,h,n,hn=>by
  simp only[Ec,Bool.and_eq_true] at h
  simp only[List.map_cons,List.mem_cons] at hn
  rcases hn with rfl|hn
  ·simpa using h.1
  ·exact Q6 h.2 n hn
theorem ir.m6 {ρ:Type} {sh:ir} {kh:List Nat} {σ:ab} {k:sh.L.D->Option ρ} {r:ρ} (h:sh.flat kh σ k=some r)
  (he:∀s,s∉sh.ke->σ.env s=.one .bg) (hh:∀n,n∉kh->σ.h n=none/\σ.used n=Nat.ble aZ n):∃x,σ=sh.un x/\k x=some r:=by
 unfold ir.flat at h
 have hc:=(bQ h).1;replace h:=(bQ h).2
 simp only[Bool.and_eq_true] at hc
 obtain⟨xe,e1,h⟩:=tP (L:=fun p:Nat×g7=>p.2.L) (un:=fun p y=>(p.1,p.2.un (qd σ.h) y)) (fun a b k r h=>by
  unfold Te at h
  obtain⟨h1,h⟩:=aK h
  obtain⟨x,h2,h⟩:=g7.m6 _ _ _ _ h
  exact⟨x,Prod.ext h1 h2,h⟩) h
 obtain⟨xh,e2,h⟩:=tP (L:=fun p:Nat×eX=>p.2.L) (un:=fun p y=>(p.1,some (p.2.un (qd σ.h) y))) (fun a b k r h=>by
  unfold Tf at h
  obtain⟨h1,h⟩:=aK h
  obtain⟨x,h2,h⟩:=eX.m6 _ _ _ _ h
  exact⟨x,Prod.ext h1 h2,h⟩) h
 have wg:σ.env=jX (HB (qd σ.h) sh.env xe):=by
  unfold HB
  rw[<-e1]
  exact(aba sh.env σ.env he).symm
 have yN:σ.h=iJ (xt (qd σ.h) sh.heap xh):=by
  unfold xt
  rw[<-e2]
  refine(acU sh.heap σ.h fun n hn=>?_).symm
  by_cases hk:n∈kh
  ·refine(I2 hc.1 n hk).2 ?_
   cases hb:n5 n sh.heap with
   |true=>exact absurd ((TP n sh.heap).1 hb) hn
   |false=>rfl
  ·exact(hh n hk).1
 have ac6:rl sh.heap xh=qd σ.h:=by
  rw[Mq (qd σ.h),<-yN]
 have adw:σ.used=fun n=>Nat.ble aZ n||Ao sh.heap n:=by
  funext n
  rw[alm]
  by_cases hk:n∈kh
  ·exact(I2 hc.1 n hk).1
  ·rw[(hh n hk).2]
   cases hb:n5 n sh.heap with
   |true=>exact absurd (Q6 hc.2 n ((TP n sh.heap).1 hb)) hk
   |false=>rw[Bool.or_false]
 refine⟨LT.z5 sh.eL sh.hL xe xh,?_,h⟩
 have:sh.un (LT.z5 sh.eL sh.hL xe xh)={env:=jX (HB (rl sh.heap xh) sh.env xe),h:=iJ (xt (rl sh.heap xh) sh.heap xh),used:=fun n=>Nat.ble aZ n||Ao sh.heap n}:=by
  simp only[ir.un,LT.YN]
 rw[this,ac6,<-wg,<-yN,<-adw]
end Go.Am
