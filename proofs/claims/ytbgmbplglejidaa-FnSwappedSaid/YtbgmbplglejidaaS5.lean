/- S5: shapes of states; loop heads of the typed evaluator. No condition. -/
import Derived.Test.YtbgmbplglejidaaS4
set_option linter.unusedVariables false
namespace Go.Am
inductive LT where
 |unit
 |ty (t:Ty)
 |dl (ts:List Ty)
 |nat
 |pair (a b:LT)
def LT.D:LT->Type
 |.unit=>Unit
 |.ty t=>t.D
 |.dl ts=>Ty.DL ts
 |.nat=>Nat
 |.pair a b=>a.D×b.D
def LT.Dy (a:LT):LT->LT
 |.unit=>a
 |.ty t=>.pair a (.ty t)
 |.dl ts=>.pair a (.dl ts)
 |.nat=>.pair a .nat
 |.pair x y=>.pair a (.pair x y)
def LT.sp:LT->LT->LT
 |.unit,b=>b
 |.ty t,b=>LT.Dy (.ty t) b
 |.dl ts,b=>LT.Dy (.dl ts) b
 |.nat,b=>LT.Dy .nat b
 |.pair x y,b=>LT.Dy (.pair x y) b
def LT.Gw (a:LT):(b:LT)->(LT.Dy a b).D->a.D×b.D
 |.unit,x=>(x,())
 |.ty _,x=>x
 |.dl _,x=>x
 |.nat,x=>x
 |.pair _ _,x=>x
def LT.t9:(a b:LT)->(LT.sp a b).D->a.D×b.D
 |.unit,b,x=>((),x)
 |.ty t,b,x=>LT.Gw (.ty t) b x
 |.dl ts,b,x=>LT.Gw (.dl ts) b x
 |.nat,b,x=>LT.Gw .nat b x
 |.pair x y,b,z=>LT.Gw (.pair x y) b z
def LT.Gv (a:LT):(b:LT)->a.D->b.D->(LT.Dy a b).D
 |.unit,x,_=>x
 |.ty _,x,y=>(x,y)
 |.dl _,x,y=>(x,y)
 |.nat,x,y=>(x,y)
 |.pair _ _,x,y=>(x,y)
def LT.Dz:(a b:LT)->a.D->b.D->(LT.sp a b).D
 |.unit,b,_,y=>y
 |.ty t,b,x,y=>LT.Gv (.ty t) b x y
 |.dl ts,b,x,y=>LT.Gv (.dl ts) b x y
 |.nat,b,x,y=>LT.Gv .nat b x y
 |.pair u v,b,x,y=>LT.Gv (.pair u v) b x y
theorem LT.ash (a b:LT) (x:a.D) (y:b.D):LT.Gw a b (LT.Gv a b x y)=(x,y):=by cases b<;>rfl
theorem LT.adZ (a b:LT) (x:a.D) (y:b.D):LT.t9 a b (LT.Dz a b x y)=(x,y):=by
 cases a with
 |unit=>rfl
 |_=>exact LT.ash _ b x y
section
variable {α β:Type} {ρ:Type} {L:α->LT}
def LL (L:α->LT):List α->LT
 |[]=>.unit
 |a::l=>LT.sp (L a) (LL L l)
def qu (un:(a:α)->(L a).D->β):(l:List α)->(LL L l).D->List β
 |[],_=>[]
 |a::l,x=>un a (LT.t9 (L a) (LL L l) x).1::qu un l (LT.t9 (L a) (LL L l) x).2
def qN (flat:(a:α)->β->((L a).D->Option ρ)->Option ρ):(l:List α)->List β->((LL L l).D->Option ρ)->Option ρ
 |[],[],k=>k ()
 |a::l,b::bs,k=>flat a b fun x=>qN flat l bs fun y=>k (LT.Dz (L a) (LL L l) x y)
 |_,_,_=>none
theorem wK {flat:(a:α)->β->((L a).D->Option ρ)->Option ρ} {un:(a:α)->(L a).D->β}
  (hf:∀a b k r,flat a b k=some r->∃x,b=un a x/\k x=some r):∀{l:List α} {bs:List β} {k:(LL L l).D->Option ρ} {r:ρ},qN flat l bs k=some r->
  ∃x,bs=qu un l x/\k x=some r
 |[],[],k,r,h=>⟨(),rfl,h⟩
 |a::l,b::bs,k,r,h=>by
  simp only[qN] at h
  obtain⟨x,rfl,h2⟩:=hf _ _ _ _ h
  obtain⟨y,rfl,h4⟩:=wK hf h2
  exact⟨LT.Dz (L a) (LL L l) x y,by simp only[qu,LT.adZ],h4⟩
 |[],_::_,k,r,h=>by simp[qN] at h
 |_::_,[],k,r,h=>by simp[qN] at h
end
inductive iJ where
 |v (t:Ty)
 |nil (ts:List Ty)
 |F7 (n off:Nat)
 |ptr (n sz off:Nat)
 |cH (ts:List Ty) (off:Nat)
 |full (n sz:Nat)
 |sl (n sz:Nat)
 |bE (n aE off sz:Nat)
 |bq
inductive dZ where
 |c (s:iJ)
 |fn (f:FuncId) (cF:List iJ)
inductive jv where
 |one (c:dZ)
 |agg (cs:List dZ)
 |br (xs:List (Bool×List dZ))
inductive fL where
 |box (cs:List dZ)
 |row (gr:Bool) (m:Mode) (ts:List Ty)
structure jN where
 env:List (Nat×jv)
 heap:List (Nat×fL)
abbrev jN.ke (sh:jN):List Nat:=sh.env.map (·.1)
def iJ.L:iJ->LT
 |.v t=>.ty t
 |.nil _=>.unit
 |.F7 _ _=>.unit
 |.ptr _ _ _=>.nat
 |.cH ts _=>.dl ts
 |.full _ _=>.unit
 |.sl _ _=>.pair .nat .nat
 |.bE _ _ _ _=>.pair .nat .nat
 |.bq=>.unit
def iJ.un (ln:Nat->Nat):(s:iJ)->s.L.D->SC
 |.v t,x=>.v t x
 |.nil ts,_=>.nil ts
 |.F7 n off,_=>.ptr n 0 0 off
 |.ptr n sz off,k=>.ptr n k sz off
 |.cH ts off,x=>.cH ts x off
 |.full n sz,_=>.sl n sz 0 (ln n)
 |.sl n sz,x=>.sl n sz x.1 x.2
 |.bE n aE off sz,x=>.bE n x.1 aE off sz x.2
 |.bq,_=>.bq
section
variable {ρ:Type}
def iJ.flat (ln:Nat->Nat) (s:iJ) (c:SC) (k:s.L.D->Option ρ):Option ρ:=
 match s,c with
 |.v t,.v u x=>match Ty.cast u t x with
  |some y=>k y
  |none=>none
 |.nil ts,.nil us=>fi (Ty.rQ us ts) (k ())
 |.F7 n off,.ptr n' kk sz z8=>cW n' n (cW kk 0 (cW sz 0 (cW z8 off (k ()))))
 |.ptr n sz off,.ptr n' kk aJ z8=>cW n' n (cW aJ sz (cW z8 off (k kk)))
 |.cH ts off,.cH us x z8=>cW z8 off (match Ty.Ns us ts x with
  |some y=>k y
  |none=>none)
 |.full n sz,.sl n' aJ lo len=>cW n' n (cW aJ sz ((ai lo len (ln n)).ab fun _=>k ()))
 |.sl n sz,.sl n' aJ lo len=>cW n' n (cW aJ sz (k (lo,len)))
 |.bE n aE off sz,.bE n' kk arb z8 aJ len=>cW n' n (cW arb aE (cW z8 off (cW aJ sz (k (kk,len)))))
 |.bq,.bq=>k ()
 |_,_=>none
theorem Ty.cast_eq {t u:Ty} {x:t.D} {y:u.D} (h:Ty.cast t u x=some y):SC.v t x=SC.v u y:=by
 unfold Ty.cast at h
 split at h
 ·rename_i he
  have:=Ty.beq_eq he
  subst this
  injection h with h
  rw[<-h]
 ·cases h
theorem Ty.afI {ts us:List Ty} {x:Ty.DL ts} {y:Ty.DL us} (h:Ty.Ns ts us x=some y) (off:Nat):SC.cH ts x off=SC.cH us y off:=by
 unfold Ty.Ns at h
 split at h
 ·rename_i he
  have:=Ty.s6 he
  subst this
  injection h with h
  rw[<-h]
 ·cases h
theorem iJ.pH {ln:Nat->Nat} (s:iJ) (c:SC) (k:s.L.D->Option ρ) (r:ρ) (h:s.flat ln c k=some r):∃x,c=s.un ln x/\k x=some r:=by
 cases s with
 |v t=>
  cases c<;>simp only[iJ.flat] at h<;>first|(cases h;done)|skip
  split at h
  ·rename_i y hy
   exact⟨y,Ty.cast_eq hy,h⟩
  ·cases h
 |nil ts=>
  cases c<;>simp only[iJ.flat] at h<;>first|(cases h;done)|skip
  have h1:=(cB h).1;replace h:=(cB h).2
  exact⟨(),by rw[Ty.s6 h1];rfl,h⟩
 |F7 n off=>
  cases c<;>simp only[iJ.flat] at h<;>first|(cases h;done)|skip
  have bw:=(bi h).1;replace h:=(bi h).2;subst bw
  have bw:=(bi h).1;replace h:=(bi h).2;subst bw
  have bw:=(bi h).1;replace h:=(bi h).2;subst bw
  have bw:=(bi h).1;replace h:=(bi h).2;subst bw
  exact⟨(),rfl,h⟩
 |ptr n sz off=>
  cases c<;>simp only[iJ.flat] at h<;>first|(cases h;done)|skip
  have bw:=(bi h).1;replace h:=(bi h).2;subst bw
  have bw:=(bi h).1;replace h:=(bi h).2;subst bw
  have bw:=(bi h).1;replace h:=(bi h).2;subst bw
  exact⟨_,rfl,h⟩
 |cH ts off=>
  cases c<;>simp only[iJ.flat] at h<;>first|(cases h;done)|skip
  have bw:=(bi h).1;replace h:=(bi h).2;subst bw
  split at h
  ·rename_i y hy
   exact⟨y,Ty.afI hy _,h⟩
  ·cases h
 |full n sz=>
  cases c<;>simp only[iJ.flat] at h<;>first|(cases h;done)|skip
  have bw:=(bi h).1;replace h:=(bi h).2;subst bw
  have bw:=(bi h).1;replace h:=(bi h).2;subst bw
  rw[eZ] at h
  obtain⟨_,hf,h⟩:=h
  unfold ai at hf
  split at hf
  ·rename_i hc
   obtain⟨rfl,rfl⟩:=hc
   exact⟨(),rfl,h⟩
  ·cases hf
 |sl n sz=>
  cases c<;>simp only[iJ.flat] at h<;>first|(cases h;done)|skip
  have bw:=(bi h).1;replace h:=(bi h).2;subst bw
  have bw:=(bi h).1;replace h:=(bi h).2;subst bw
  exact⟨_,rfl,h⟩
 |bE n aE off sz=>
  cases c<;>simp only[iJ.flat] at h<;>first|(cases h;done)|skip
  have bw:=(bi h).1;replace h:=(bi h).2;subst bw
  have bw:=(bi h).1;replace h:=(bi h).2;subst bw
  have bw:=(bi h).1;replace h:=(bi h).2;subst bw
  have bw:=(bi h).1;replace h:=(bi h).2;subst bw
  exact⟨_,rfl,h⟩
 |bq=>
  cases c<;>simp only[iJ.flat] at h<;>first|(cases h;done)|skip
  exact⟨(),rfl,h⟩
def dZ.L:dZ->LT
 |.c s=>s.L
 |.fn _ cF=>LL iJ.L cF
def dZ.un (ln:Nat->Nat):(s:dZ)->s.L.D->SC
 |.c s,x=>s.un ln x
 |.fn f cF,x=>.fn f (qu (iJ.un ln) cF x)
def dZ.flat (ln:Nat->Nat) (s:dZ) (c:SC) (k:s.L.D->Option ρ):Option ρ:=
 match s,c with
 |.c s,c=>s.flat ln c k
 |.fn f cF,.fn f' cs=>cW f' f (qN (iJ.flat ln) cF cs k)
 |_,_=>none
theorem dZ.pH {ln:Nat->Nat} (s:dZ) (c:SC) (k:s.L.D->Option ρ) (r:ρ) (h:s.flat ln c k=some r):∃x,c=s.un ln x/\k x=some r:=by
 cases s with
 |c s=>exact s.pH c k r (by cases c<;>exact h)
 |fn f cF=>
  cases c<;>simp only[dZ.flat] at h<;>first|(cases h;done)|skip
  have bw:=(bi h).1;replace h:=(bi h).2;subst bw
  obtain⟨x,e_,h_⟩:=wK (un:=iJ.un ln) (fun a b k r=>iJ.pH a b k r) h;subst e_;replace h:=h_
  exact⟨x,rfl,h⟩
def jv.L:jv->LT
 |.one c=>c.L
 |.agg cs=>LL dZ.L cs
 |.br xs=>LL (fun x:Bool×List dZ=>LL dZ.L x.2) xs
def jv.un (ln:Nat->Nat):(s:jv)->s.L.D->SV
 |.one c,x=>.one (c.un ln x)
 |.agg cs,x=>.agg (qu (dZ.un ln) cs x)
 |.br xs,x=>.br (qu (L:=fun x:Bool×List dZ=>LL dZ.L x.2) (fun a y=>(a.1,qu (dZ.un ln) a.2 y)) xs x)
def ZR (ln:Nat->Nat) (a:Bool×List dZ) (b:Bool×List SC) (k:(LL dZ.L a.2).D->Option ρ):Option ρ:=
 fi (a.1==b.1) (qN (dZ.flat ln) a.2 b.2 k)
def jv.flat (ln:Nat->Nat) (s:jv) (v:SV) (k:s.L.D->Option ρ):Option ρ:=
 match s,v with
 |.one c,.one v=>c.flat ln v k
 |.agg cs,.agg vs=>qN (dZ.flat ln) cs vs k
 |.br xs,.br vs=>qN (L:=fun x:Bool×List dZ=>LL dZ.L x.2) (ZR ln) xs vs k
 |_,_=>none
theorem jv.pH {ln:Nat->Nat} (s:jv) (v:SV) (k:s.L.D->Option ρ) (r:ρ) (h:s.flat ln v k=some r):∃x,v=s.un ln x/\k x=some r:=by
 cases s with
 |one c=>
  cases v<;>simp only[jv.flat] at h<;>first|(cases h;done)|skip
  obtain⟨x,e_,h_⟩:=dZ.pH _ _ _ _ h;subst e_;replace h:=h_
  exact⟨x,rfl,h⟩
 |agg cs=>
  cases v<;>simp only[jv.flat] at h<;>first|(cases h;done)|skip
  obtain⟨x,e_,h_⟩:=wK (un:=dZ.un ln) (fun a b k r=>dZ.pH a b k r) h;subst e_;replace h:=h_
  exact⟨x,rfl,h⟩
 |br xs=>
  cases v<;>simp only[jv.flat] at h<;>first|(cases h;done)|skip
  obtain⟨x,e_,h_⟩:=wK (L:=fun x:Bool×List dZ=>LL dZ.L x.2) (un:=fun a y=>(a.1,qu (dZ.un ln) a.2 y)) (fun a b k r h=>by
   unfold ZR at h
   have h1:=(cB h).1;replace h:=(cB h).2
   obtain⟨x,h2,h⟩:=wK (un:=dZ.un ln) (fun a b k r=>dZ.pH a b k r) h
   exact⟨x,Prod.ext (eq_of_beq h1).symm h2,h⟩) h
  subst e_
  exact⟨x,rfl,h_⟩
def fL.L:fL->LT
 |.box cs=>LL dZ.L cs
 |.row _ _ ts=>.ty (.list ts)
def fL.un (ln:Nat->Nat):(s:fL)->s.L.D->SB
 |.box cs,x=>.box (qu (dZ.un ln) cs x)
 |.row gr m ts,x=>.row gr m ts x
def Mode.beq:Mode->Mode->Bool
 |.live,.live=>true
 |.ae,.ae=>true
 |.aG,.aG=>true
 |_,_=>false
theorem Mode.beq_eq {a b:Mode} (h:Mode.beq a b=true):a=b:=by cases a<;>cases b<;>first|rfl|cases h
def fL.flat (ln:Nat->Nat) (s:fL) (b:Option SB) (k:s.L.D->Option ρ):Option ρ:=
 match s,b with
 |.box cs,some (.box vs)=>qN (dZ.flat ln) cs vs k
 |.row gr m ts,some (.row bo m' us xs)=>fi (bo==gr) (fi (Mode.beq m' m) (match wz us ts xs with
  |some y=>k y
  |none=>none))
 |_,_=>none
theorem aq5 {us ts:List Ty} {xs:List (Ty.DL us)} {ys:List (Ty.DL ts)} (h:wz us ts xs=some ys) (gr:Bool) (m:Mode):SB.row gr m us xs=SB.row gr m ts ys:=by
 unfold wz at h
 split at h
 ·rename_i he
  have h2:=Ty.s6 he
  subst h2
  injection h with h
  rw[<-h]
 ·cases h
theorem fL.pH {ln:Nat->Nat} (s:fL) (b:Option SB) (k:s.L.D->Option ρ) (r:ρ) (h:s.flat ln b k=some r):∃x,b=some (s.un ln x)/\k x=some r:=by
 cases s with
 |box cs=>
  cases b with
  |none=>cases h
  |some b=>
   cases b<;>simp only[fL.flat] at h<;>first|(cases h;done)|skip
   obtain⟨x,e_,h_⟩:=wK (un:=dZ.un ln) (fun a b k r=>dZ.pH a b k r) h;subst e_;replace h:=h_
   exact⟨x,rfl,h⟩
 |row gr m ts=>
  cases b with
  |none=>cases h
  |some b=>
   cases b<;>simp only[fL.flat] at h<;>first|(cases h;done)|skip
   have h1:=(cB h).1;replace h:=(cB h).2
   have h2:=(cB h).1;replace h:=(cB h).2
   split at h
   ·rename_i y hy
    refine⟨y,?_,h⟩
    rw[eq_of_beq h1,Mode.beq_eq h2,aq5 hy]
    rfl
   ·cases h
end
def mE:List (Nat×SV)->Nat->SV
 |[]=>fun _=>.one .bq
 |p::l=>aA (mE l) p.1 p.2
def kt:List (Nat×Option SB)->Nat->Option SB
 |[]=>fun _=>none
 |p::l=>aA (kt l) p.1 p.2
def DN:List (Nat×fL)->Nat->Bool
 |[]=>fun _=>false
 |p::l=>aA (DN l) p.1 true
def sH (h:Nat->Option SB) (n:Nat):Nat:=
 match h n with
 |some (.row _ _ ts xs)=>aa (α:=Ty.DL ts) xs
 |_=>0
abbrev jN.eL (sh:jN):LT:=LL (fun p:Nat×jv=>p.2.L) sh.env
abbrev jN.hL (sh:jN):LT:=LL (fun p:Nat×fL=>p.2.L) sh.heap
def jN.L (sh:jN):LT:=LT.sp sh.eL sh.hL
def LY (ln:Nat->Nat) (l:List (Nat×jv)) (x:(LL (fun p:Nat×jv=>p.2.L) l).D):List (Nat×SV):=
 qu (L:=fun p:Nat×jv=>p.2.L) (fun p y=>(p.1,p.2.un ln y)) l x
def AG (ln:Nat->Nat) (l:List (Nat×fL)) (x:(LL (fun p:Nat×fL=>p.2.L) l).D):List (Nat×Option SB):=
 qu (L:=fun p:Nat×fL=>p.2.L) (fun p y=>(p.1,some (p.2.un ln y))) l x
def tR:(l:List (Nat×fL))->(LL (fun p:Nat×fL=>p.2.L) l).D->Nat->Nat
 |[],_=>fun _=>0
 |(n,.box cs)::l,x=>aA (tR l (LT.t9 _ _ x).2) n 0
 |(n,.row gr m ts)::l,x=>aA (tR l (LT.t9 (LT.ty (.list ts)) _ x).2) n (aa (α:=Ty.DL ts) (LT.t9 (LT.ty (.list ts)) _ x).1)
theorem Rp (ln:Nat->Nat):∀(l:List (Nat×fL)) (x:(LL (fun p:Nat×fL=>p.2.L) l).D),tR l x=sH (kt (AG ln l x))
 |[],_=>rfl
 |(n,.box cs)::l,x=>by
  funext m
  simp only[tR,AG,qu,kt,sH]
  by_cases hm:m=n
  ·subst hm;simp only[bN];rfl
  ·simp only[cE _ _ _ _ hm]
   exact congrFun (Rp ln l _) m
 |(n,.row gr mo ts)::l,x=>by
  funext m
  simp only[tR,AG,qu,kt,sH]
  by_cases hm:m=n
  ·subst hm;simp only[bN];rfl
  ·simp only[cE _ _ _ _ hm]
   exact congrFun (Rp ln l _) m
def jN.un (sh:jN) (x:sh.L.D):ah:=
 {env:=mE (LY (tR sh.heap (LT.t9 sh.eL sh.hL x).2) sh.env (LT.t9 sh.eL sh.hL x).1)
  h:=kt (AG (tR sh.heap (LT.t9 sh.eL sh.hL x).2) sh.heap (LT.t9 sh.eL sh.hL x).2)
  used:=fun n=>Nat.ble aK n||DN sh.heap n}
def qQ (n:Nat):List (Nat×fL)->Bool
 |[]=>false
 |p::l=>match Nat.beq n p.1 with
  |true=>true
  |false=>qQ n l
section
variable {ρ:Type}
def ZO (ln:Nat->Nat) (p:Nat×jv) (v:Nat×SV) (k:p.2.L.D->Option ρ):Option ρ:=cW v.1 p.1 (p.2.flat ln v.2 k)
def ZP (ln:Nat->Nat) (p:Nat×fL) (b:Nat×Option SB) (k:p.2.L.D->Option ρ):Option ρ:=cW b.1 p.1 (p.2.flat ln b.2 k)
def Je (σ:ah) (hp:List (Nat×fL)):List Nat->Bool
 |[]=>true
 |n::kh=>(match qQ n hp with|true=>σ.used n|false=>(match σ.used n with|true=>Nat.ble aK n|false=> !(Nat.ble aK n))&&(σ.h n).isNone)&&Je σ hp kh
def IX (kh:List Nat):List (Nat×fL)->Bool
 |[]=>true
 |p::l=>kh.contains p.1&&IX kh l
def jN.flat (sh:jN) (kh:List Nat) (σ:ah) (k:sh.L.D->Option ρ):Option ρ:=
 fi (Je σ sh.heap kh&&IX kh sh.heap)
  (qN (ZO (sH σ.h)) sh.env (sh.env.map fun p=>(p.1,σ.env p.1)) fun xe=>
   qN (ZP (sH σ.h)) sh.heap (sh.heap.map fun p=>(p.1,σ.h p.1)) fun xh=>k (LT.Dz sh.eL sh.hL xe xh))
end
theorem agt (l:List (Nat×jv)) (f:Nat->SV) (hf:∀s,s∉l.map (·.1)->f s=.one .bq):mE (l.map fun p=>(p.1,f p.1))=f:=by
 have:∀(l:List (Nat×jv)) s,mE (l.map fun p=>(p.1,f p.1)) s=if s∈l.map (·.1) then f s else .one .bq:=by
  intro l s
  induction l with
  |nil=>rfl
  |cons p l ih=>
   simp only[List.map_cons,mE,jr,ih,List.mem_cons]
   by_cases h:s=p.1
   ·subst h;simp
   ·by_cases h2:s∈l.map (·.1)
    ·rw[if_neg h,if_pos h2,if_pos (Or.inr h2)]
    ·rw[if_neg h,if_neg h2,if_neg (fun e=>e.elim h h2)]
 funext s
 rw[this]
 split
 ·rfl
 ·rename_i h;exact(hf s h).symm
theorem aiT (l:List (Nat×fL)) (f:Nat->Option SB) (hf:∀s,s∉l.map (·.1)->f s=none):kt (l.map fun p=>(p.1,f p.1))=f:=by
 have:∀(l:List (Nat×fL)) s,kt (l.map fun p=>(p.1,f p.1)) s=if s∈l.map (·.1) then f s else none:=by
  intro l s
  induction l with
  |nil=>rfl
  |cons p l ih=>
   simp only[List.map_cons,kt,jr,ih,List.mem_cons]
   by_cases h:s=p.1
   ·subst h;simp
   ·by_cases h2:s∈l.map (·.1)
    ·rw[if_neg h,if_pos h2,if_pos (Or.inr h2)]
    ·rw[if_neg h,if_neg h2,if_neg (fun e=>e.elim h h2)]
 funext s
 rw[this]
 split
 ·rfl
 ·rename_i h;exact(hf s h).symm
theorem aai (n:Nat) (l:List (Nat×fL)):qQ n l=true↔n∈l.map (·.1):=by
  induction l with
  |nil=>simp[qQ]
  |cons p l ih=>
   simp only[qQ,List.map_cons,List.mem_cons]
   cases h:Nat.beq n p.1 with
   |true=>simp[Nat.eq_of_beq_eq_true h]
   |false=>simp only[ih];constructor
           · exact .inr
           · rintro(rfl|h2)
             · rw[Nat.beq_refl] at h;cases h
             · exact h2
theorem as1 (n:Nat) (l:List (Nat×fL)):DN l n=qQ n l:=by
 induction l with
 |nil=>rfl
 |cons p l ih=>
  simp only[DN,qQ,jr,ih]
  by_cases h:n=p.1
  ·subst h;simp[Nat.beq_refl]
  ·have:Nat.beq n p.1=false:=by
    cases hb:Nat.beq n p.1 with
    |true=>exact absurd (Nat.eq_of_beq_eq_true hb) h
    |false=>rfl
   simp[h,this]
theorem NB {σ:ah} {hp:List (Nat×fL)}:∀{kh:List Nat},Je σ hp kh=true->∀n∈kh,σ.used n=(Nat.ble aK n||qQ n hp)/\(qQ n hp=false->σ.h n=none)
 |[],_,n,hn=>by cases hn
 |m::kh,h,n,hn=>by
  simp only[Je,Bool.and_eq_true] at h
  rcases List.mem_cons.1 hn with e_|hn
  ·subst e_
   cases hh:qQ n hp with
   |true=>
    rw[hh] at h
    have h1:σ.used n=true:=h.1
    exact⟨by rw[h1,Bool.or_true],fun e=>by cases e⟩
   |false=>
    rw[hh] at h
    simp only[Bool.and_eq_true,Option.isNone_iff_eq_none] at h
    refine⟨?_,fun _=>h.1.2⟩
    have h1:=h.1.1
    rw[Bool.or_false]
    cases hu:σ.used n with
    |true=>rw[hu] at h1;exact h1.symm
    |false=>rw[hu] at h1;simpa using h1.symm
  ·exact NB h.2 n hn
theorem XW {kh:List Nat}:∀{l:List (Nat×fL)},IX kh l=true->∀n∈l.map (·.1),n∈kh
 |[],_,n,hn=>by cases hn
 |p::l,h,n,hn=>by
  simp only[IX,Bool.and_eq_true] at h
  simp only[List.map_cons,List.mem_cons] at hn
  rcases hn with rfl|hn
  ·simpa using h.1
  ·exact XW h.2 n hn
theorem jN.pH {ρ:Type} {sh:jN} {kh:List Nat} {σ:ah} {k:sh.L.D->Option ρ} {r:ρ} (h:sh.flat kh σ k=some r)
  (he:∀s,s∉sh.ke->σ.env s=.one .bq) (hh:∀n,n∉kh->σ.h n=none/\σ.used n=Nat.ble aK n):∃x,σ=sh.un x/\k x=some r:=by
 unfold jN.flat at h
 have hc:=(cB h).1;replace h:=(cB h).2
 simp only[Bool.and_eq_true] at hc
 obtain⟨xe,e1,h⟩:=wK (L:=fun p:Nat×jv=>p.2.L) (un:=fun p y=>(p.1,p.2.un (sH σ.h) y)) (fun a b k r h=>by
  unfold ZO at h
  obtain⟨h1,h⟩:=bi h
  obtain⟨x,h2,h⟩:=jv.pH _ _ _ _ h
  exact⟨x,Prod.ext h1 h2,h⟩) h
 obtain⟨xh,e2,h⟩:=wK (L:=fun p:Nat×fL=>p.2.L) (un:=fun p y=>(p.1,some (p.2.un (sH σ.h) y))) (fun a b k r h=>by
  unfold ZP at h
  obtain⟨h1,h⟩:=bi h
  obtain⟨x,h2,h⟩:=fL.pH _ _ _ _ h
  exact⟨x,Prod.ext h1 h2,h⟩) h
 have zd:σ.env=mE (LY (sH σ.h) sh.env xe):=by
  unfold LY
  rw[<-e1]
  exact(agt sh.env σ.env he).symm
 have B7:σ.h=kt (AG (sH σ.h) sh.heap xh):=by
  unfold AG
  rw[<-e2]
  refine(aiT sh.heap σ.h fun n hn=>?_).symm
  by_cases hk:n∈kh
  ·refine(NB hc.1 n hk).2 ?_
   cases hb:qQ n sh.heap with
   |true=>exact absurd ((aai n sh.heap).1 hb) hn
   |false=>rfl
  ·exact(hh n hk).1
 have ai6:tR sh.heap xh=sH σ.h:=by
  rw[Rp (sH σ.h),<-B7]
 have ajy:σ.used=fun n=>Nat.ble aK n||DN sh.heap n:=by
  funext n
  rw[as1]
  by_cases hk:n∈kh
  ·exact(NB hc.1 n hk).1
  ·rw[(hh n hk).2]
   cases hb:qQ n sh.heap with
   |true=>exact absurd (XW hc.2 n ((aai n sh.heap).1 hb)) hk
   |false=>rw[Bool.or_false]
 refine⟨LT.Dz sh.eL sh.hL xe xh,?_,h⟩
 have:sh.un (LT.Dz sh.eL sh.hL xe xh)={env:=mE (LY (tR sh.heap xh) sh.env xe),h:=kt (AG (tR sh.heap xh) sh.heap xh),used:=fun n=>Nat.ble aK n||DN sh.heap n}:=by
  simp only[jN.un,LT.adZ]
 rw[this,ai6,<-zd,<-B7,<-ajy]
end Go.Am
