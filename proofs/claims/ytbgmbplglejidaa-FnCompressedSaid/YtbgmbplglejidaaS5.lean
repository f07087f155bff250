/- S5: shapes of states; loop heads of the typed evaluator. No condition. -/
import Derived.Test.YtbgmbplglejidaaS4
set_option linter.unusedVariables false
namespace Go.Am
inductive LT where
 |unit
 |ty (t:Ty)
 |dl (ts:List Ty)
 |nat
 |pair (a b:LT)
def LT.D:LT->Type
 |.unit=>Unit
 |.ty t=>t.D
 |.dl ts=>Ty.DL ts
 |.nat=>Nat
 |.pair a b=>a.D×b.D
def LT.CP (a:LT):LT->LT
 |.unit=>a
 |.ty t=>.pair a (.ty t)
 |.dl ts=>.pair a (.dl ts)
 |.nat=>.pair a .nat
 |.pair x y=>.pair a (.pair x y)
def LT.sp:LT->LT->LT
 |.unit,b=>b
 |.ty t,b=>LT.CP (.ty t) b
 |.dl ts,b=>LT.CP (.dl ts) b
 |.nat,b=>LT.CP .nat b
 |.pair x y,b=>LT.CP (.pair x y) b
def LT.FR (a:LT):(b:LT)->(LT.CP a b).D->a.D×b.D
 |.unit,x=>(x,())
 |.ty _,x=>x
 |.dl _,x=>x
 |.nat,x=>x
 |.pair _ _,x=>x
def LT.tI:(a b:LT)->(LT.sp a b).D->a.D×b.D
 |.unit,b,x=>((),x)
 |.ty t,b,x=>LT.FR (.ty t) b x
 |.dl ts,b,x=>LT.FR (.dl ts) b x
 |.nat,b,x=>LT.FR .nat b x
 |.pair x y,b,z=>LT.FR (.pair x y) b z
def LT.FQ (a:LT):(b:LT)->a.D->b.D->(LT.CP a b).D
 |.unit,x,_=>x
 |.ty _,x,y=>(x,y)
 |.dl _,x,y=>(x,y)
 |.nat,x,y=>(x,y)
 |.pair _ _,x,y=>(x,y)
def LT.CQ:(a b:LT)->a.D->b.D->(LT.sp a b).D
 |.unit,b,_,y=>y
 |.ty t,b,x,y=>LT.FQ (.ty t) b x y
 |.dl ts,b,x,y=>LT.FQ (.dl ts) b x y
 |.nat,b,x,y=>LT.FQ .nat b x y
 |.pair u v,b,x,y=>LT.FQ (.pair u v) b x y
theorem LT.apd (a b:LT) (x:a.D) (y:b.D):LT.FR a b (LT.FQ a b x y)=(x,y):=by cases b<;>rfl
theorem LT.ac3 (a b:LT) (x:a.D) (y:b.D):LT.tI a b (LT.CQ a b x y)=(x,y):=by
 cases a with
 |unit=>rfl
 |_=>exact LT.apd _ b x y
section
variable {α β:Type} {ρ:Type} {L:α->LT}
def LL (L:α->LT):List α->LT
 |[]=>.unit
 |a::l=>LT.sp (L a) (LL L l)
def qj (un:(a:α)->(L a).D->β):(l:List α)->(LL L l).D->List β
 |[],_=>[]
 |a::l,x=>un a (LT.tI (L a) (LL L l) x).1::qj un l (LT.tI (L a) (LL L l) x).2
def qH (flat:(a:α)->β->((L a).D->Option ρ)->Option ρ):(l:List α)->List β->((LL L l).D->Option ρ)->Option ρ
 |[],[],k=>k ()
 |a::l,b::bs,k=>flat a b fun x=>qH flat l bs fun y=>k (LT.CQ (L a) (LL L l) x y)
 |_,_,_=>none
theorem v9 {flat:(a:α)->β->((L a).D->Option ρ)->Option ρ} {un:(a:α)->(L a).D->β}
  (hf:∀a b k r,flat a b k=some r->∃x,b=un a x/\k x=some r):∀{l:List α} {bs:List β} {k:(LL L l).D->Option ρ} {r:ρ},qH flat l bs k=some r->
  ∃x,bs=qj un l x/\k x=some r
 |[],[],k,r,h=>⟨(),rfl,h⟩
 |a::l,b::bs,k,r,h=>by
  simp only[qH] at h
  obtain⟨x,rfl,h2⟩:=hf _ _ _ _ h
  obtain⟨y,rfl,h4⟩:=v9 hf h2
  exact⟨LT.CQ (L a) (LL L l) x y,by simp only[qj,LT.ac3],h4⟩
 |[],_::_,k,r,h=>by simp[qH] at h
 |_::_,[],k,r,h=>by simp[qH] at h
end
inductive iz where
 |v (t:Ty)
 |nil (ts:List Ty)
 |Fs (n off:Nat)
 |ptr (n sz off:Nat)
 |cB (ts:List Ty) (off:Nat)
 |full (n sz:Nat)
 |sl (n sz:Nat)
 |bx (n aA off sz:Nat)
 |bn
inductive dY where
 |c (s:iz)
 |fn (f:FuncId) (cA:List iz)
inductive jc where
 |one (c:dY)
 |agg (cs:List dY)
 |bq (xs:List (Bool×List dY))
inductive fB where
 |box (cs:List dY)
 |row (gr:Bool) (m:Mode) (ts:List Ty)
structure jz where
 env:List (Nat×jc)
 heap:List (Nat×fB)
abbrev jz.ke (sh:jz):List Nat:=sh.env.map (·.1)
def iz.L:iz->LT
 |.v t=>.ty t
 |.nil _=>.unit
 |.Fs _ _=>.unit
 |.ptr _ _ _=>.nat
 |.cB ts _=>.dl ts
 |.full _ _=>.unit
 |.sl _ _=>.pair .nat .nat
 |.bx _ _ _ _=>.pair .nat .nat
 |.bn=>.unit
def iz.un (ln:Nat->Nat):(s:iz)->s.L.D->SC
 |.v t,x=>.v t x
 |.nil ts,_=>.nil ts
 |.Fs n off,_=>.ptr n 0 0 off
 |.ptr n sz off,k=>.ptr n k sz off
 |.cB ts off,x=>.cB ts x off
 |.full n sz,_=>.sl n sz 0 (ln n)
 |.sl n sz,x=>.sl n sz x.1 x.2
 |.bx n aA off sz,x=>.bx n x.1 aA off sz x.2
 |.bn,_=>.bn
section
variable {ρ:Type}
def iz.flat (ln:Nat->Nat) (s:iz) (c:SC) (k:s.L.D->Option ρ):Option ρ:=
 match s,c with
 |.v t,.v u x=>match Ty.cast u t x with
  |some y=>k y
  |none=>none
 |.nil ts,.nil us=>fb (Ty.rM us ts) (k ())
 |.Fs n off,.ptr n' kk sz zt=>cP n' n (cP kk 0 (cP sz 0 (cP zt off (k ()))))
 |.ptr n sz off,.ptr n' kk aJ zt=>cP n' n (cP aJ sz (cP zt off (k kk)))
 |.cB ts off,.cB us x zt=>cP zt off (match Ty.MT us ts x with
  |some y=>k y
  |none=>none)
 |.full n sz,.sl n' aJ lo len=>cP n' n (cP aJ sz ((ai lo len (ln n)).aa fun _=>k ()))
 |.sl n sz,.sl n' aJ lo len=>cP n' n (cP aJ sz (k (lo,len)))
 |.bx n aA off sz,.bx n' kk aod zt aJ len=>cP n' n (cP aod aA (cP zt off (cP aJ sz (k (kk,len)))))
 |.bn,.bn=>k ()
 |_,_=>none
theorem Ty.cast_eq {t u:Ty} {x:t.D} {y:u.D} (h:Ty.cast t u x=some y):SC.v t x=SC.v u y:=by
 unfold Ty.cast at h
 split at h
 ·rename_i he
  have:=Ty.beq_eq he
  subst this
  injection h with h
  rw[<-h]
 ·cases h
theorem Ty.aeK {ts us:List Ty} {x:Ty.DL ts} {y:Ty.DL us} (h:Ty.MT ts us x=some y) (off:Nat):SC.cB ts x off=SC.cB us y off:=by
 unfold Ty.MT at h
 split at h
 ·rename_i he
  have:=Ty.sR he
  subst this
  injection h with h
  rw[<-h]
 ·cases h
theorem iz.pw {ln:Nat->Nat} (s:iz) (c:SC) (k:s.L.D->Option ρ) (r:ρ) (h:s.flat ln c k=some r):∃x,c=s.un ln x/\k x=some r:=by
 cases s with
 |v t=>
  cases c<;>simp only[iz.flat] at h<;>first|(cases h;done)|skip
  split at h
  ·rename_i y hy
   exact⟨y,Ty.cast_eq hy,h⟩
  ·cases h
 |nil ts=>
  cases c<;>simp only[iz.flat] at h<;>first|(cases h;done)|skip
  have h1:=(cv h).1;replace h:=(cv h).2
  exact⟨(),by rw[Ty.sR h1];rfl,h⟩
 |Fs n off=>
  cases c<;>simp only[iz.flat] at h<;>first|(cases h;done)|skip
  have bu:=(bi h).1;replace h:=(bi h).2;subst bu
  have bu:=(bi h).1;replace h:=(bi h).2;subst bu
  have bu:=(bi h).1;replace h:=(bi h).2;subst bu
  have bu:=(bi h).1;replace h:=(bi h).2;subst bu
  exact⟨(),rfl,h⟩
 |ptr n sz off=>
  cases c<;>simp only[iz.flat] at h<;>first|(cases h;done)|skip
  have bu:=(bi h).1;replace h:=(bi h).2;subst bu
  have bu:=(bi h).1;replace h:=(bi h).2;subst bu
  have bu:=(bi h).1;replace h:=(bi h).2;subst bu
  exact⟨_,rfl,h⟩
 |cB ts off=>
  cases c<;>simp only[iz.flat] at h<;>first|(cases h;done)|skip
  have bu:=(bi h).1;replace h:=(bi h).2;subst bu
  split at h
  ·rename_i y hy
   exact⟨y,Ty.aeK hy _,h⟩
  ·cases h
 |full n sz=>
  cases c<;>simp only[iz.flat] at h<;>first|(cases h;done)|skip
  have bu:=(bi h).1;replace h:=(bi h).2;subst bu
  have bu:=(bi h).1;replace h:=(bi h).2;subst bu
  rw[eT] at h
  obtain⟨_,hf,h⟩:=h
  unfold ai at hf
  split at hf
  ·rename_i hc
   obtain⟨rfl,rfl⟩:=hc
   exact⟨(),rfl,h⟩
  ·cases hf
 |sl n sz=>
  cases c<;>simp only[iz.flat] at h<;>first|(cases h;done)|skip
  have bu:=(bi h).1;replace h:=(bi h).2;subst bu
  have bu:=(bi h).1;replace h:=(bi h).2;subst bu
  exact⟨_,rfl,h⟩
 |bx n aA off sz=>
  cases c<;>simp only[iz.flat] at h<;>first|(cases h;done)|skip
  have bu:=(bi h).1;replace h:=(bi h).2;subst bu
  have bu:=(bi h).1;replace h:=(bi h).2;subst bu
  have bu:=(bi h).1;replace h:=(bi h).2;subst bu
  have bu:=(bi h).1;replace h:=(bi h).2;subst bu
  exact⟨_,rfl,h⟩
 |bn=>
  cases c<;>simp only[iz.flat] at h<;>first|(cases h;done)|skip
  exact⟨(),rfl,h⟩
def dY.L:dY->LT
 |.c s=>s.L
 |.fn _ cA=>LL iz.L cA
def dY.un (ln:Nat->Nat):(s:dY)->s.L.D->SC
 |.c s,x=>s.un ln x
 |.fn f cA,x=>.fn f (qj (iz.un ln) cA x)
def dY.flat (ln:Nat->Nat) (s:dY) (c:SC) (k:s.L.D->Option ρ):Option ρ:=
 match s,c with
 |.c s,c=>s.flat ln c k
 |.fn f cA,.fn f' cs=>cP f' f (qH (iz.flat ln) cA cs k)
 |_,_=>none
theorem dY.pw {ln:Nat->Nat} (s:dY) (c:SC) (k:s.L.D->Option ρ) (r:ρ) (h:s.flat ln c k=some r):∃x,c=s.un ln x/\k x=some r:=by
 cases s with
 |c s=>exact s.pw c k r (by cases c<;>exact h)
 |fn f cA=>
  cases c<;>simp only[dY.flat] at h<;>first|(cases h;done)|skip
  have bu:=(bi h).1;replace h:=(bi h).2;subst bu
  obtain⟨x,e_,h_⟩:=v9 (un:=iz.un ln) (fun a b k r=>iz.pw a b k r) h;subst e_;replace h:=h_
  exact⟨x,rfl,h⟩
def jc.L:jc->LT
 |.one c=>c.L
 |.agg cs=>LL dY.L cs
 |.bq xs=>LL (fun x:Bool×List dY=>LL dY.L x.2) xs
def jc.un (ln:Nat->Nat):(s:jc)->s.L.D->SV
 |.one c,x=>.one (c.un ln x)
 |.agg cs,x=>.agg (qj (dY.un ln) cs x)
 |.bq xs,x=>.bq (qj (L:=fun x:Bool×List dY=>LL dY.L x.2) (fun a y=>(a.1,qj (dY.un ln) a.2 y)) xs x)
def YL (ln:Nat->Nat) (a:Bool×List dY) (b:Bool×List SC) (k:(LL dY.L a.2).D->Option ρ):Option ρ:=
 fb (a.1==b.1) (qH (dY.flat ln) a.2 b.2 k)
def jc.flat (ln:Nat->Nat) (s:jc) (v:SV) (k:s.L.D->Option ρ):Option ρ:=
 match s,v with
 |.one c,.one v=>c.flat ln v k
 |.agg cs,.agg vs=>qH (dY.flat ln) cs vs k
 |.bq xs,.bq vs=>qH (L:=fun x:Bool×List dY=>LL dY.L x.2) (YL ln) xs vs k
 |_,_=>none
theorem jc.pw {ln:Nat->Nat} (s:jc) (v:SV) (k:s.L.D->Option ρ) (r:ρ) (h:s.flat ln v k=some r):∃x,v=s.un ln x/\k x=some r:=by
 cases s with
 |one c=>
  cases v<;>simp only[jc.flat] at h<;>first|(cases h;done)|skip
  obtain⟨x,e_,h_⟩:=dY.pw _ _ _ _ h;subst e_;replace h:=h_
  exact⟨x,rfl,h⟩
 |agg cs=>
  cases v<;>simp only[jc.flat] at h<;>first|(cases h;done)|skip
  obtain⟨x,e_,h_⟩:=v9 (un:=dY.un ln) (fun a b k r=>dY.pw a b k r) h;subst e_;replace h:=h_
  exact⟨x,rfl,h⟩
 |bq xs=>
  cases v<;>simp only[jc.flat] at h<;>first|(cases h;done)|skip
  obtain⟨x,e_,h_⟩:=v9 (L:=fun x:Bool×List dY=>LL dY.L x.2) (un:=fun a y=>(a.1,qj (dY.un ln) a.2 y)) (fun a b k r h=>by
   unfold YL at h
   have h1:=(cv h).1;replace h:=(cv h).2
   obtain⟨x,h2,h⟩:=v9 (un:=dY.un ln) (fun a b k r=>dY.pw a b k r) h
   exact⟨x,Prod.ext (eq_of_beq h1).symm h2,h⟩) h
  subst e_
  exact⟨x,rfl,h_⟩
def fB.L:fB->LT
 |.box cs=>LL dY.L cs
 |.row _ _ ts=>.ty (.list ts)
def fB.un (ln:Nat->Nat):(s:fB)->s.L.D->SB
 |.box cs,x=>.box (qj (dY.un ln) cs x)
 |.row gr m ts,x=>.row gr m ts x
def Mode.beq:Mode->Mode->Bool
 |.live,.live=>true
 |.ab,.ab=>true
 |.aF,.aF=>true
 |_,_=>false
theorem Mode.beq_eq {a b:Mode} (h:Mode.beq a b=true):a=b:=by cases a<;>cases b<;>first|rfl|cases h
def fB.flat (ln:Nat->Nat) (s:fB) (b:Option SB) (k:s.L.D->Option ρ):Option ρ:=
 match s,b with
 |.box cs,some (.box vs)=>qH (dY.flat ln) cs vs k
 |.row gr m ts,some (.row bm m' us xs)=>fb (bm==gr) (fb (Mode.beq m' m) (match vV us ts xs with
  |some y=>k y
  |none=>none))
 |_,_=>none
theorem an8 {us ts:List Ty} {xs:List (Ty.DL us)} {ys:List (Ty.DL ts)} (h:vV us ts xs=some ys) (gr:Bool) (m:Mode):SB.row gr m us xs=SB.row gr m ts ys:=by
 unfold vV at h
 split at h
 ·rename_i he
  have h2:=Ty.sR he
  subst h2
  injection h with h
  rw[<-h]
 ·cases h
theorem fB.pw {ln:Nat->Nat} (s:fB) (b:Option SB) (k:s.L.D->Option ρ) (r:ρ) (h:s.flat ln b k=some r):∃x,b=some (s.un ln x)/\k x=some r:=by
 cases s with
 |box cs=>
  cases b with
  |none=>cases h
  |some b=>
   cases b<;>simp only[fB.flat] at h<;>first|(cases h;done)|skip
   obtain⟨x,e_,h_⟩:=v9 (un:=dY.un ln) (fun a b k r=>dY.pw a b k r) h;subst e_;replace h:=h_
   exact⟨x,rfl,h⟩
 |row gr m ts=>
  cases b with
  |none=>cases h
  |some b=>
   cases b<;>simp only[fB.flat] at h<;>first|(cases h;done)|skip
   have h1:=(cv h).1;replace h:=(cv h).2
   have h2:=(cv h).1;replace h:=(cv h).2
   split at h
   ·rename_i y hy
    refine⟨y,?_,h⟩
    rw[eq_of_beq h1,Mode.beq_eq h2,an8 hy]
    rfl
   ·cases h
end
def mg:List (Nat×SV)->Nat->SV
 |[]=>fun _=>.one .bn
 |p::l=>av (mg l) p.1 p.2
def jX:List (Nat×Option SB)->Nat->Option SB
 |[]=>fun _=>none
 |p::l=>av (jX l) p.1 p.2
def C3:List (Nat×fB)->Nat->Bool
 |[]=>fun _=>false
 |p::l=>av (C3 l) p.1 true
def sC (h:Nat->Option SB) (n:Nat):Nat:=
 match h n with
 |some (.row _ _ ts xs)=>J (α:=Ty.DL ts) xs
 |_=>0
abbrev jz.eL (sh:jz):LT:=LL (fun p:Nat×jc=>p.2.L) sh.env
abbrev jz.hL (sh:jz):LT:=LL (fun p:Nat×fB=>p.2.L) sh.heap
def jz.L (sh:jz):LT:=LT.sp sh.eL sh.hL
def Lp (ln:Nat->Nat) (l:List (Nat×jc)) (x:(LL (fun p:Nat×jc=>p.2.L) l).D):List (Nat×SV):=
 qj (L:=fun p:Nat×jc=>p.2.L) (fun p y=>(p.1,p.2.un ln y)) l x
def zU (ln:Nat->Nat) (l:List (Nat×fB)) (x:(LL (fun p:Nat×fB=>p.2.L) l).D):List (Nat×Option SB):=
 qj (L:=fun p:Nat×fB=>p.2.L) (fun p y=>(p.1,some (p.2.un ln y))) l x
def tA:(l:List (Nat×fB))->(LL (fun p:Nat×fB=>p.2.L) l).D->Nat->Nat
 |[],_=>fun _=>0
 |(n,.box cs)::l,x=>av (tA l (LT.tI _ _ x).2) n 0
 |(n,.row gr m ts)::l,x=>av (tA l (LT.tI (LT.ty (.list ts)) _ x).2) n (J (α:=Ty.DL ts) (LT.tI (LT.ty (.list ts)) _ x).1)
theorem Qz (ln:Nat->Nat):∀(l:List (Nat×fB)) (x:(LL (fun p:Nat×fB=>p.2.L) l).D),tA l x=sC (jX (zU ln l x))
 |[],_=>rfl
 |(n,.box cs)::l,x=>by
  funext m
  simp only[tA,zU,qj,jX,sC]
  by_cases hm:m=n
  ·subst hm;simp only[bG];rfl
  ·simp only[cz _ _ _ _ hm]
   exact congrFun (Qz ln l _) m
 |(n,.row gr mo ts)::l,x=>by
  funext m
  simp only[tA,zU,qj,jX,sC]
  by_cases hm:m=n
  ·subst hm;simp only[bG];rfl
  ·simp only[cz _ _ _ _ hm]
   exact congrFun (Qz ln l _) m
def jz.un (sh:jz) (x:sh.L.D):af:=
 {env:=mg (Lp (tA sh.heap (LT.tI sh.eL sh.hL x).2) sh.env (LT.tI sh.eL sh.hL x).1)
  h:=jX (zU (tA sh.heap (LT.tI sh.eL sh.hL x).2) sh.heap (LT.tI sh.eL sh.hL x).2)
  used:=fun n=>Nat.ble aK n||C3 sh.heap n}
def qL (n:Nat):List (Nat×fB)->Bool
 |[]=>false
 |p::l=>match Nat.beq n p.1 with
  |true=>true
  |false=>qL n l
section
variable {ρ:Type}
def YI (ln:Nat->Nat) (p:Nat×jc) (v:Nat×SV) (k:p.2.L.D->Option ρ):Option ρ:=cP v.1 p.1 (p.2.flat ln v.2 k)
def YJ (ln:Nat->Nat) (p:Nat×fB) (b:Nat×Option SB) (k:p.2.L.D->Option ρ):Option ρ:=cP b.1 p.1 (p.2.flat ln b.2 k)
def Iv (σ:af) (hp:List (Nat×fB)):List Nat->Bool
 |[]=>true
 |n::kh=>(match qL n hp with|true=>σ.used n|false=>(match σ.used n with|true=>Nat.ble aK n|false=> !(Nat.ble aK n))&&(σ.h n).isNone)&&Iv σ hp kh
def Ia (kh:List Nat):List (Nat×fB)->Bool
 |[]=>true
 |p::l=>kh.contains p.1&&Ia kh l
def jz.flat (sh:jz) (kh:List Nat) (σ:af) (k:sh.L.D->Option ρ):Option ρ:=
 fb (Iv σ sh.heap kh&&Ia kh sh.heap)
  (qH (YI (sC σ.h)) sh.env (sh.env.map fun p=>(p.1,σ.env p.1)) fun xe=>
   qH (YJ (sC σ.h)) sh.heap (sh.heap.map fun p=>(p.1,σ.h p.1)) fun xh=>k (LT.CQ sh.eL sh.hL xe xh))
end
theorem afz (l:List (Nat×jc)) (f:Nat->SV) (hf:∀s,s∉l.map (·.1)->f s=.one .bn):mg (l.map fun p=>(p.1,f p.1))=f:=by
 have:∀(l:List (Nat×jc)) s,mg (l.map fun p=>(p.1,f p.1)) s=if s∈l.map (·.1) then f s else .one .bn:=by
  intro l s
  induction l with
  |nil=>rfl
  |cons p l ih=>
   simp only[List.map_cons,mg,iY,ih,List.mem_cons]
   by_cases h:s=p.1
   ·subst h;simp
   ·by_cases h2:s∈l.map (·.1)
    ·rw[if_neg h,if_pos h2,if_pos (Or.inr h2)]
    ·rw[if_neg h,if_neg h2,if_neg (fun e=>e.elim h h2)]
 funext s
 rw[this]
 split
 ·rfl
 ·rename_i h;exact(hf s h).symm
theorem ahN (l:List (Nat×fB)) (f:Nat->Option SB) (hf:∀s,s∉l.map (·.1)->f s=none):jX (l.map fun p=>(p.1,f p.1))=f:=by
 have:∀(l:List (Nat×fB)) s,jX (l.map fun p=>(p.1,f p.1)) s=if s∈l.map (·.1) then f s else none:=by
  intro l s
  induction l with
  |nil=>rfl
  |cons p l ih=>
   simp only[List.map_cons,jX,iY,ih,List.mem_cons]
   by_cases h:s=p.1
   ·subst h;simp
   ·by_cases h2:s∈l.map (·.1)
    ·rw[if_neg h,if_pos h2,if_pos (Or.inr h2)]
    ·rw[if_neg h,if_neg h2,if_neg (fun e=>e.elim h h2)]
 funext s
 rw[this]
 split
 ·rfl
 ·rename_i h;exact(hf s h).symm
theorem Zh (n:Nat) (l:List (Nat×fB)):qL n l=true↔n∈l.map (·.1):=by
  induction l with
  |nil=>simp[qL]
  |cons p l ih=>
   simp only[qL,List.map_cons,List.mem_cons]
   cases h:Nat.beq n p.1 with
   |true=>simp[Nat.eq_of_beq_eq_true h]
   |false=>simp only[ih];constructor
           · exact .inr
           · rintro(rfl|h2)
             · rw[Nat.beq_refl] at h;cases h
             · exact h2
theorem apV (n:Nat) (l:List (Nat×fB)):C3 l n=qL n l:=by
 induction l with
 |nil=>rfl
 |cons p l ih=>
  simp only[C3,qL,iY,ih]
  by_cases h:n=p.1
  ·subst h;simp[Nat.beq_refl]
  ·have:Nat.beq n p.1=false:=by
    cases hb:Nat.beq n p.1 with
    |true=>exact absurd (Nat.eq_of_beq_eq_true hb) h
    |false=>rfl
   simp[h,this]
theorem M6 {σ:af} {hp:List (Nat×fB)}:∀{kh:List Nat},Iv σ hp kh=true->∀n∈kh,σ.used n=(Nat.ble aK n||qL n hp)/\(qL n hp=false->σ.h n=none)
 |[],_,n,hn=>by cases hn
 |m::kh,h,n,hn=>by
  simp only[Iv,Bool.and_eq_true] at h
  rcases List.mem_cons.1 hn with e_|hn
  ·subst e_
   cases hh:qL n hp with
   |true=>
    rw[hh] at h
    have h1:σ.used n=true:=h.1
    exact⟨by rw[h1,Bool.or_true],fun e=>by cases e⟩
   |false=>
    rw[hh] at h
    simp only[Bool.and_eq_true,Option.isNone_iff_eq_none] at h
    refine⟨?_,fun _=>h.1.2⟩
    have h1:=h.1.1
    rw[Bool.or_false]
    cases hu:σ.used n with
    |true=>rw[hu] at h1;exact h1.symm
    |false=>rw[hu] at h1;simpa using h1.symm
  ·exact M6 h.2 n hn
theorem WL {kh:List Nat}:∀{l:List (Nat×fB)},Ia kh l=true->∀n∈l.map (·.1),n∈kh
 |[],_,n,hn=>by cases hn
 |p::l,h,n,hn=>by
  simp only[Ia,Bool.and_eq_true] at h
  simp only[List.map_cons,List.mem_cons] at hn
  rcases hn with rfl|hn
  ·simpa using h.1
  ·exact WL h.2 n hn
theorem jz.pw {ρ:Type} {sh:jz} {kh:List Nat} {σ:af} {k:sh.L.D->Option ρ} {r:ρ} (h:sh.flat kh σ k=some r)
  (he:∀s,s∉sh.ke->σ.env s=.one .bn) (hh:∀n,n∉kh->σ.h n=none/\σ.used n=Nat.ble aK n):∃x,σ=sh.un x/\k x=some r:=by
 unfold jz.flat at h
 have hc:=(cv h).1;replace h:=(cv h).2
 simp only[Bool.and_eq_true] at hc
 obtain⟨xe,e1,h⟩:=v9 (L:=fun p:Nat×jc=>p.2.L) (un:=fun p y=>(p.1,p.2.un (sC σ.h) y)) (fun a b k r h=>by
  unfold YI at h
  obtain⟨h1,h⟩:=bi h
  obtain⟨x,h2,h⟩:=jc.pw _ _ _ _ h
  exact⟨x,Prod.ext h1 h2,h⟩) h
 obtain⟨xh,e2,h⟩:=v9 (L:=fun p:Nat×fB=>p.2.L) (un:=fun p y=>(p.1,some (p.2.un (sC σ.h) y))) (fun a b k r h=>by
  unfold YJ at h
  obtain⟨h1,h⟩:=bi h
  obtain⟨x,h2,h⟩:=fB.pw _ _ _ _ h
  exact⟨x,Prod.ext h1 h2,h⟩) h
 have yC:σ.env=mg (Lp (sC σ.h) sh.env xe):=by
  unfold Lp
  rw[<-e1]
  exact(afz sh.env σ.env he).symm
 have Bv:σ.h=jX (zU (sC σ.h) sh.heap xh):=by
  unfold zU
  rw[<-e2]
  refine(ahN sh.heap σ.h fun n hn=>?_).symm
  by_cases hk:n∈kh
  ·refine(M6 hc.1 n hk).2 ?_
   cases hb:qL n sh.heap with
   |true=>exact absurd ((Zh n sh.heap).1 hb) hn
   |false=>rfl
  ·exact(hh n hk).1
 have ahY:tA sh.heap xh=sC σ.h:=by
  rw[Qz (sC σ.h),<-Bv]
 have ain:σ.used=fun n=>Nat.ble aK n||C3 sh.heap n:=by
  funext n
  rw[apV]
  by_cases hk:n∈kh
  ·exact(M6 hc.1 n hk).1
  ·rw[(hh n hk).2]
   cases hb:qL n sh.heap with
   |true=>exact absurd (WL hc.2 n ((Zh n sh.heap).1 hb)) hk
   |false=>rw[Bool.or_false]
 refine⟨LT.CQ sh.eL sh.hL xe xh,?_,h⟩
 have:sh.un (LT.CQ sh.eL sh.hL xe xh)={env:=mg (Lp (tA sh.heap xh) sh.env xe),h:=jX (zU (tA sh.heap xh) sh.heap xh),used:=fun n=>Nat.ble aK n||C3 sh.heap n}:=by
  simp only[jz.un,LT.ac3]
 rw[this,ahY,<-yC,<-Bv,<-ain]
end Go.Am
