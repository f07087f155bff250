/- S5: shapes of states; loop heads of the typed evaluator. No condition. -/
import Derived.Test.YtbgmbplglejidaaS4
set_option linter.unusedVariables false
namespace Go.Am
inductive LT where
 |unit
 |ty (t:Ty)
 |dl (ts:List Ty)
 |nat
 |pair (a b:LT)
def LT.D:LT->Type
 |.unit=>Unit
 |.ty t=>t.D
 |.dl ts=>Ty.DL ts
 |.nat=>Nat
 |.pair a b=>a.D×b.D
def LT.Ci (a:LT):LT->LT
 |.unit=>a
 |.ty t=>.pair a (.ty t)
 |.dl ts=>.pair a (.dl ts)
 |.nat=>.pair a .nat
 |.pair x y=>.pair a (.pair x y)
def LT.sp:LT->LT->LT
 |.unit,b=>b
 |.ty t,b=>LT.Ci (.ty t) b
 |.dl ts,b=>LT.Ci (.dl ts) b
 |.nat,b=>LT.Ci .nat b
 |.pair x y,b=>LT.Ci (.pair x y) b
def LT.E8 (a:LT):(b:LT)->(LT.Ci a b).D->a.D×b.D
 |.unit,x=>(x,())
 |.ty _,x=>x
 |.dl _,x=>x
 |.nat,x=>x
 |.pair _ _,x=>x
def LT.tg:(a b:LT)->(LT.sp a b).D->a.D×b.D
 |.unit,b,x=>((),x)
 |.ty t,b,x=>LT.E8 (.ty t) b x
 |.dl ts,b,x=>LT.E8 (.dl ts) b x
 |.nat,b,x=>LT.E8 .nat b x
 |.pair x y,b,z=>LT.E8 (.pair x y) b z
def LT.E7 (a:LT):(b:LT)->a.D->b.D->(LT.Ci a b).D
 |.unit,x,_=>x
 |.ty _,x,y=>(x,y)
 |.dl _,x,y=>(x,y)
 |.nat,x,y=>(x,y)
 |.pair _ _,x,y=>(x,y)
def LT.Cj:(a b:LT)->a.D->b.D->(LT.sp a b).D
 |.unit,b,_,y=>y
 |.ty t,b,x,y=>LT.E7 (.ty t) b x y
 |.dl ts,b,x,y=>LT.E7 (.dl ts) b x y
 |.nat,b,x,y=>LT.E7 .nat b x y
 |.pair u v,b,x,y=>LT.E7 (.pair u v) b x y
theorem LT.aoM (a b:LT) (x:a.D) (y:b.D):LT.E8 a b (LT.E7 a b x y)=(x,y):=by cases b<;>rfl
theorem LT.ach (a b:LT) (x:a.D) (y:b.D):LT.tg a b (LT.Cj a b x y)=(x,y):=by
 cases a with
 |unit=>rfl
 |_=>exact LT.aoM _ b x y
section
variable {α β:Type} {ρ:Type} {L:α->LT}
def LL (L:α->LT):List α->LT
 |[]=>.unit
 |a::l=>LT.sp (L a) (LL L l)
def pJ (un:(a:α)->(L a).D->β):(l:List α)->(LL L l).D->List β
 |[],_=>[]
 |a::l,x=>un a (LT.tg (L a) (LL L l) x).1::pJ un l (LT.tg (L a) (LL L l) x).2
def p9 (flat:(a:α)->β->((L a).D->Option ρ)->Option ρ):(l:List α)->List β->((LL L l).D->Option ρ)->Option ρ
 |[],[],k=>k ()
 |a::l,b::bs,k=>flat a b fun x=>p9 flat l bs fun y=>k (LT.Cj (L a) (LL L l) x y)
 |_,_,_=>none
theorem vN {flat:(a:α)->β->((L a).D->Option ρ)->Option ρ} {un:(a:α)->(L a).D->β}
  (hf:∀a b k r,flat a b k=some r->∃x,b=un a x/\k x=some r):∀{l:List α} {bs:List β} {k:(LL L l).D->Option ρ} {r:ρ},p9 flat l bs k=some r->
  ∃x,bs=pJ un l x/\k x=some r
 |[],[],k,r,h=>⟨(),rfl,h⟩
 |a::l,b::bs,k,r,h=>by
  simp only[p9] at h
  obtain⟨x,rfl,h2⟩:=hf _ _ _ _ h
  obtain⟨y,rfl,h4⟩:=vN hf h2
  exact⟨LT.Cj (L a) (LL L l) x y,by simp only[pJ,LT.ach],h4⟩
 |[],_::_,k,r,h=>by simp[p9] at h
 |_::_,[],k,r,h=>by simp[p9] at h
end
inductive ik where
 |v (t:Ty)
 |nil (ts:List Ty)
 |EK (n off:Nat)
 |ptr (n sz off:Nat)
 |cu (ts:List Ty) (off:Nat)
 |full (n sz:Nat)
 |sl (n sz:Nat)
 |bz (n az off sz:Nat)
 |bm
inductive dV where
 |c (s:ik)
 |fn (f:FuncId) (cr:List ik)
inductive iU where
 |one (c:dV)
 |agg (cs:List dV)
 |bn (xs:List (Bool×List dV))
inductive fB where
 |box (cs:List dV)
 |row (gr:Bool) (m:Mode) (ts:List Ty)
structure jp where
 env:List (Nat×iU)
 heap:List (Nat×fB)
abbrev jp.ke (sh:jp):List Nat:=sh.env.map (·.1)
def ik.L:ik->LT
 |.v t=>.ty t
 |.nil _=>.unit
 |.EK _ _=>.unit
 |.ptr _ _ _=>.nat
 |.cu ts _=>.dl ts
 |.full _ _=>.unit
 |.sl _ _=>.pair .nat .nat
 |.bz _ _ _ _=>.pair .nat .nat
 |.bm=>.unit
def ik.un (ln:Nat->Nat):(s:ik)->s.L.D->SC
 |.v t,x=>.v t x
 |.nil ts,_=>.nil ts
 |.EK n off,_=>.ptr n 0 0 off
 |.ptr n sz off,k=>.ptr n k sz off
 |.cu ts off,x=>.cu ts x off
 |.full n sz,_=>.sl n sz 0 (ln n)
 |.sl n sz,x=>.sl n sz x.1 x.2
 |.bz n az off sz,x=>.bz n x.1 az off sz x.2
 |.bm,_=>.bm
section
variable {ρ:Type}
def ik.flat (ln:Nat->Nat) (s:ik) (c:SC) (k:s.L.D->Option ρ):Option ρ:=
 match s,c with
 |.v t,.v u x=>match Ty.cast u t x with
  |some y=>k y
  |none=>none
 |.nil ts,.nil us=>e7 (Ty.q8 us ts) (k ())
 |.EK n off,.ptr n' kk sz yY=>cJ n' n (cJ kk 0 (cJ sz 0 (cJ yY off (k ()))))
 |.ptr n sz off,.ptr n' kk aJ yY=>cJ n' n (cJ aJ sz (cJ yY off (k kk)))
 |.cu ts off,.cu us x yY=>cJ yY off (match Ty.L5 us ts x with
  |some y=>k y
  |none=>none)
 |.full n sz,.sl n' aJ lo len=>cJ n' n (cJ aJ sz ((ai lo len (ln n)).aa fun _=>k ()))
 |.sl n sz,.sl n' aJ lo len=>cJ n' n (cJ aJ sz (k (lo,len)))
 |.bz n az off sz,.bz n' kk anL yY aJ len=>cJ n' n (cJ anL az (cJ yY off (cJ aJ sz (k (kk,len)))))
 |.bm,.bm=>k ()
 |_,_=>none
theorem Ty.cast_eq {t u:Ty} {x:t.D} {y:u.D} (h:Ty.cast t u x=some y):SC.v t x=SC.v u y:=by
 unfold Ty.cast at h
 split at h
 ·rename_i he
  have:=Ty.beq_eq he
  subst this
  injection h with h
  rw[<-h]
 ·cases h
theorem Ty.adV {ts us:List Ty} {x:Ty.DL ts} {y:Ty.DL us} (h:Ty.L5 ts us x=some y) (off:Nat):SC.cu ts x off=SC.cu us y off:=by
 unfold Ty.L5 at h
 split at h
 ·rename_i he
  have:=Ty.si he
  subst this
  injection h with h
  rw[<-h]
 ·cases h
theorem ik.oL {ln:Nat->Nat} (s:ik) (c:SC) (k:s.L.D->Option ρ) (r:ρ) (h:s.flat ln c k=some r):∃x,c=s.un ln x/\k x=some r:=by
 cases s with
 |v t=>
  cases c<;>simp only[ik.flat] at h<;>first|(cases h;done)|skip
  split at h
  ·rename_i y hy
   exact⟨y,Ty.cast_eq hy,h⟩
  ·cases h
 |nil ts=>
  cases c<;>simp only[ik.flat] at h<;>first|(cases h;done)|skip
  have h1:=(cm h).1;replace h:=(cm h).2
  exact⟨(),by rw[Ty.si h1];rfl,h⟩
 |EK n off=>
  cases c<;>simp only[ik.flat] at h<;>first|(cases h;done)|skip
  have bq:=(bg h).1;replace h:=(bg h).2;subst bq
  have bq:=(bg h).1;replace h:=(bg h).2;subst bq
  have bq:=(bg h).1;replace h:=(bg h).2;subst bq
  have bq:=(bg h).1;replace h:=(bg h).2;subst bq
  exact⟨(),rfl,h⟩
 |ptr n sz off=>
  cases c<;>simp only[ik.flat] at h<;>first|(cases h;done)|skip
  have bq:=(bg h).1;replace h:=(bg h).2;subst bq
  have bq:=(bg h).1;replace h:=(bg h).2;subst bq
  have bq:=(bg h).1;replace h:=(bg h).2;subst bq
  exact⟨_,rfl,h⟩
 |cu ts off=>
  cases c<;>simp only[ik.flat] at h<;>first|(cases h;done)|skip
  have bq:=(bg h).1;replace h:=(bg h).2;subst bq
  split at h
  ·rename_i y hy
   exact⟨y,Ty.adV hy _,h⟩
  ·cases h
 |full n sz=>
  cases c<;>simp only[ik.flat] at h<;>first|(cases h;done)|skip
  have bq:=(bg h).1;replace h:=(bg h).2;subst bq
  have bq:=(bg h).1;replace h:=(bg h).2;subst bq
  rw[eP] at h
  obtain⟨_,hf,h⟩:=h
  unfold ai at hf
  split at hf
  ·rename_i hc
   obtain⟨rfl,rfl⟩:=hc
   exact⟨(),rfl,h⟩
  ·cases hf
 |sl n sz=>
  cases c<;>simp only[ik.flat] at h<;>first|(cases h;done)|skip
  have bq:=(bg h).1;replace h:=(bg h).2;subst bq
  have bq:=(bg h).1;replace h:=(bg h).2;subst bq
  exact⟨_,rfl,h⟩
 |bz n az off sz=>
  cases c<;>simp only[ik.flat] at h<;>first|(cases h;done)|skip
  have bq:=(bg h).1;replace h:=(bg h).2;subst bq
  have bq:=(bg h).1;replace h:=(bg h).2;subst bq
  have bq:=(bg h).1;replace h:=(bg h).2;subst bq
  have bq:=(bg h).1;replace h:=(bg h).2;subst bq
  exact⟨_,rfl,h⟩
 |bm=>
  cases c<;>simp only[ik.flat] at h<;>first|(cases h;done)|skip
  exact⟨(),rfl,h⟩
def dV.L:dV->LT
 |.c s=>s.L
 |.fn _ cr=>LL ik.L cr
def dV.un (ln:Nat->Nat):(s:dV)->s.L.D->SC
 |.c s,x=>s.un ln x
 |.fn f cr,x=>.fn f (pJ (ik.un ln) cr x)
def dV.flat (ln:Nat->Nat) (s:dV) (c:SC) (k:s.L.D->Option ρ):Option ρ:=
 match s,c with
 |.c s,c=>s.flat ln c k
 |.fn f cr,.fn f' cs=>cJ f' f (p9 (ik.flat ln) cr cs k)
 |_,_=>none
theorem dV.oL {ln:Nat->Nat} (s:dV) (c:SC) (k:s.L.D->Option ρ) (r:ρ) (h:s.flat ln c k=some r):∃x,c=s.un ln x/\k x=some r:=by
 cases s with
 |c s=>exact s.oL c k r (by cases c<;>exact h)
 |fn f cr=>
  cases c<;>simp only[dV.flat] at h<;>first|(cases h;done)|skip
  have bq:=(bg h).1;replace h:=(bg h).2;subst bq
  obtain⟨x,e_,h_⟩:=vN (un:=ik.un ln) (fun a b k r=>ik.oL a b k r) h;subst e_;replace h:=h_
  exact⟨x,rfl,h⟩
def iU.L:iU->LT
 |.one c=>c.L
 |.agg cs=>LL dV.L cs
 |.bn xs=>LL (fun x:Bool×List dV=>LL dV.L x.2) xs
def iU.un (ln:Nat->Nat):(s:iU)->s.L.D->SV
 |.one c,x=>.one (c.un ln x)
 |.agg cs,x=>.agg (pJ (dV.un ln) cs x)
 |.bn xs,x=>.bn (pJ (L:=fun x:Bool×List dV=>LL dV.L x.2) (fun a y=>(a.1,pJ (dV.un ln) a.2 y)) xs x)
def XY (ln:Nat->Nat) (a:Bool×List dV) (b:Bool×List SC) (k:(LL dV.L a.2).D->Option ρ):Option ρ:=
 e7 (a.1==b.1) (p9 (dV.flat ln) a.2 b.2 k)
def iU.flat (ln:Nat->Nat) (s:iU) (v:SV) (k:s.L.D->Option ρ):Option ρ:=
 match s,v with
 |.one c,.one v=>c.flat ln v k
 |.agg cs,.agg vs=>p9 (dV.flat ln) cs vs k
 |.bn xs,.bn vs=>p9 (L:=fun x:Bool×List dV=>LL dV.L x.2) (XY ln) xs vs k
 |_,_=>none
theorem iU.oL {ln:Nat->Nat} (s:iU) (v:SV) (k:s.L.D->Option ρ) (r:ρ) (h:s.flat ln v k=some r):∃x,v=s.un ln x/\k x=some r:=by
 cases s with
 |one c=>
  cases v<;>simp only[iU.flat] at h<;>first|(cases h;done)|skip
  obtain⟨x,e_,h_⟩:=dV.oL _ _ _ _ h;subst e_;replace h:=h_
  exact⟨x,rfl,h⟩
 |agg cs=>
  cases v<;>simp only[iU.flat] at h<;>first|(cases h;done)|skip
  obtain⟨x,e_,h_⟩:=vN (un:=dV.un ln) (fun a b k r=>dV.oL a b k r) h;subst e_;replace h:=h_
  exact⟨x,rfl,h⟩
 |bn xs=>
  cases v<;>simp only[iU.flat] at h<;>first|(cases h;done)|skip
  obtain⟨x,e_,h_⟩:=vN (L:=fun x:Bool×List dV=>LL dV.L x.2) (un:=fun a y=>(a.1,pJ (dV.un ln) a.2 y)) (fun a b k r h=>by
   unfold XY at h
   have h1:=(cm h).1;replace h:=(cm h).2
   obtain⟨x,h2,h⟩:=vN (un:=dV.un ln) (fun a b k r=>dV.oL a b k r) h
   exact⟨x,Prod.ext (eq_of_beq h1).symm h2,h⟩) h
  subst e_
  exact⟨x,rfl,h_⟩
def fB.L:fB->LT
 |.box cs=>LL dV.L cs
 |.row _ _ ts=>.ty (.list ts)
def fB.un (ln:Nat->Nat):(s:fB)->s.L.D->SB
 |.box cs,x=>.box (pJ (dV.un ln) cs x)
 |.row gr m ts,x=>.row gr m ts x
def Mode.beq:Mode->Mode->Bool
 |.live,.live=>true
 |.ae,.ae=>true
 |.aD,.aD=>true
 |_,_=>false
theorem Mode.beq_eq {a b:Mode} (h:Mode.beq a b=true):a=b:=by cases a<;>cases b<;>first|rfl|cases h
def fB.flat (ln:Nat->Nat) (s:fB) (b:Option SB) (k:s.L.D->Option ρ):Option ρ:=
 match s,b with
 |.box cs,some (.box vs)=>p9 (dV.flat ln) cs vs k
 |.row gr m ts,some (.row bk m' us xs)=>e7 (bk==gr) (e7 (Mode.beq m' m) (match vF us ts xs with
  |some y=>k y
  |none=>none))
 |_,_=>none
theorem anG {us ts:List Ty} {xs:List (Ty.DL us)} {ys:List (Ty.DL ts)} (h:vF us ts xs=some ys) (gr:Bool) (m:Mode):SB.row gr m us xs=SB.row gr m ts ys:=by
 unfold vF at h
 split at h
 ·rename_i he
  have h2:=Ty.si he
  subst h2
  injection h with h
  rw[<-h]
 ·cases h
theorem fB.oL {ln:Nat->Nat} (s:fB) (b:Option SB) (k:s.L.D->Option ρ) (r:ρ) (h:s.flat ln b k=some r):∃x,b=some (s.un ln x)/\k x=some r:=by
 cases s with
 |box cs=>
  cases b with
  |none=>cases h
  |some b=>
   cases b<;>simp only[fB.flat] at h<;>first|(cases h;done)|skip
   obtain⟨x,e_,h_⟩:=vN (un:=dV.un ln) (fun a b k r=>dV.oL a b k r) h;subst e_;replace h:=h_
   exact⟨x,rfl,h⟩
 |row gr m ts=>
  cases b with
  |none=>cases h
  |some b=>
   cases b<;>simp only[fB.flat] at h<;>first|(cases h;done)|skip
   have h1:=(cm h).1;replace h:=(cm h).2
   have h2:=(cm h).1;replace h:=(cm h).2
   split at h
   ·rename_i y hy
    refine⟨y,?_,h⟩
    rw[eq_of_beq h1,Mode.beq_eq h2,anG hy]
    rfl
   ·cases h
end
def lC:List (Nat×SV)->Nat->SV
 |[]=>fun _=>.one .bm
 |p::l=>au (lC l) p.1 p.2
def jP:List (Nat×Option SB)->Nat->Option SB
 |[]=>fun _=>none
 |p::l=>au (jP l) p.1 p.2
def Cw:List (Nat×fB)->Nat->Bool
 |[]=>fun _=>false
 |p::l=>au (Cw l) p.1 true
def rV (h:Nat->Option SB) (n:Nat):Nat:=
 match h n with
 |some (.row _ _ ts xs)=>J (α:=Ty.DL ts) xs
 |_=>0
abbrev jp.eL (sh:jp):LT:=LL (fun p:Nat×iU=>p.2.L) sh.env
abbrev jp.hL (sh:jp):LT:=LL (fun p:Nat×fB=>p.2.L) sh.heap
def jp.L (sh:jp):LT:=LT.sp sh.eL sh.hL
def KA (ln:Nat->Nat) (l:List (Nat×iU)) (x:(LL (fun p:Nat×iU=>p.2.L) l).D):List (Nat×SV):=
 pJ (L:=fun p:Nat×iU=>p.2.L) (fun p y=>(p.1,p.2.un ln y)) l x
def zv (ln:Nat->Nat) (l:List (Nat×fB)) (x:(LL (fun p:Nat×fB=>p.2.L) l).D):List (Nat×Option SB):=
 pJ (L:=fun p:Nat×fB=>p.2.L) (fun p y=>(p.1,some (p.2.un ln y))) l x
def s7:(l:List (Nat×fB))->(LL (fun p:Nat×fB=>p.2.L) l).D->Nat->Nat
 |[],_=>fun _=>0
 |(n,.box cs)::l,x=>au (s7 l (LT.tg _ _ x).2) n 0
 |(n,.row gr m ts)::l,x=>au (s7 l (LT.tg (LT.ty (.list ts)) _ x).2) n (J (α:=Ty.DL ts) (LT.tg (LT.ty (.list ts)) _ x).1)
theorem PI (ln:Nat->Nat):∀(l:List (Nat×fB)) (x:(LL (fun p:Nat×fB=>p.2.L) l).D),s7 l x=rV (jP (zv ln l x))
 |[],_=>rfl
 |(n,.box cs)::l,x=>by
  funext m
  simp only[s7,zv,pJ,jP,rV]
  by_cases hm:m=n
  ·subst hm;simp only[bF];rfl
  ·simp only[cq _ _ _ _ hm]
   exact congrFun (PI ln l _) m
 |(n,.row gr mo ts)::l,x=>by
  funext m
  simp only[s7,zv,pJ,jP,rV]
  by_cases hm:m=n
  ·subst hm;simp only[bF];rfl
  ·simp only[cq _ _ _ _ hm]
   exact congrFun (PI ln l _) m
def jp.un (sh:jp) (x:sh.L.D):af:=
 {env:=lC (KA (s7 sh.heap (LT.tg sh.eL sh.hL x).2) sh.env (LT.tg sh.eL sh.hL x).1)
  h:=jP (zv (s7 sh.heap (LT.tg sh.eL sh.hL x).2) sh.heap (LT.tg sh.eL sh.hL x).2)
  used:=fun n=>Nat.ble aK n||Cw sh.heap n}
def qb (n:Nat):List (Nat×fB)->Bool
 |[]=>false
 |p::l=>match Nat.beq n p.1 with
  |true=>true
  |false=>qb n l
section
variable {ρ:Type}
def XV (ln:Nat->Nat) (p:Nat×iU) (v:Nat×SV) (k:p.2.L.D->Option ρ):Option ρ:=cJ v.1 p.1 (p.2.flat ln v.2 k)
def XW (ln:Nat->Nat) (p:Nat×fB) (b:Nat×Option SB) (k:p.2.L.D->Option ρ):Option ρ:=cJ b.1 p.1 (p.2.flat ln b.2 k)
def HJ (σ:af) (hp:List (Nat×fB)):List Nat->Bool
 |[]=>true
 |n::kh=>(match qb n hp with|true=>σ.used n|false=>(match σ.used n with|true=>Nat.ble aK n|false=> !(Nat.ble aK n))&&(σ.h n).isNone)&&HJ σ hp kh
def Hp (kh:List Nat):List (Nat×fB)->Bool
 |[]=>true
 |p::l=>kh.contains p.1&&Hp kh l
def jp.flat (sh:jp) (kh:List Nat) (σ:af) (k:sh.L.D->Option ρ):Option ρ:=
 e7 (HJ σ sh.heap kh&&Hp kh sh.heap)
  (p9 (XV (rV σ.h)) sh.env (sh.env.map fun p=>(p.1,σ.env p.1)) fun xe=>
   p9 (XW (rV σ.h)) sh.heap (sh.heap.map fun p=>(p.1,σ.h p.1)) fun xh=>k (LT.Cj sh.eL sh.hL xe xh))
end
theorem aeL (l:List (Nat×iU)) (f:Nat->SV) (hf:∀s,s∉l.map (·.1)->f s=.one .bm):lC (l.map fun p=>(p.1,f p.1))=f:=by
 have:∀(l:List (Nat×iU)) s,lC (l.map fun p=>(p.1,f p.1)) s=if s∈l.map (·.1) then f s else .one .bm:=by
  intro l s
  induction l with
  |nil=>rfl
  |cons p l ih=>
   simp only[List.map_cons,lC,iP,ih,List.mem_cons]
   by_cases h:s=p.1
   ·subst h;simp
   ·by_cases h2:s∈l.map (·.1)
    ·rw[if_neg h,if_pos h2,if_pos (Or.inr h2)]
    ·rw[if_neg h,if_neg h2,if_neg (fun e=>e.elim h h2)]
 funext s
 rw[this]
 split
 ·rfl
 ·rename_i h;exact(hf s h).symm
theorem ag4 (l:List (Nat×fB)) (f:Nat->Option SB) (hf:∀s,s∉l.map (·.1)->f s=none):jP (l.map fun p=>(p.1,f p.1))=f:=by
 have:∀(l:List (Nat×fB)) s,jP (l.map fun p=>(p.1,f p.1)) s=if s∈l.map (·.1) then f s else none:=by
  intro l s
  induction l with
  |nil=>rfl
  |cons p l ih=>
   simp only[List.map_cons,jP,iP,ih,List.mem_cons]
   by_cases h:s=p.1
   ·subst h;simp
   ·by_cases h2:s∈l.map (·.1)
    ·rw[if_neg h,if_pos h2,if_pos (Or.inr h2)]
    ·rw[if_neg h,if_neg h2,if_neg (fun e=>e.elim h h2)]
 funext s
 rw[this]
 split
 ·rfl
 ·rename_i h;exact(hf s h).symm
theorem Yw (n:Nat) (l:List (Nat×fB)):qb n l=true↔n∈l.map (·.1):=by
  induction l with
  |nil=>simp[qb]
  |cons p l ih=>
   simp only[qb,List.map_cons,List.mem_cons]
   cases h:Nat.beq n p.1 with
   |true=>simp[Nat.eq_of_beq_eq_true h]
   |false=>simp only[ih];constructor
           · exact .inr
           · rintro(rfl|h2)
             · rw[Nat.beq_refl] at h;cases h
             · exact h2
theorem apw (n:Nat) (l:List (Nat×fB)):Cw l n=qb n l:=by
 induction l with
 |nil=>rfl
 |cons p l ih=>
  simp only[Cw,qb,iP,ih]
  by_cases h:n=p.1
  ·subst h;simp[Nat.beq_refl]
  ·have:Nat.beq n p.1=false:=by
    cases hb:Nat.beq n p.1 with
    |true=>exact absurd (Nat.eq_of_beq_eq_true hb) h
    |false=>rfl
   simp[h,this]
theorem Md {σ:af} {hp:List (Nat×fB)}:∀{kh:List Nat},HJ σ hp kh=true->∀n∈kh,σ.used n=(Nat.ble aK n||qb n hp)/\(qb n hp=false->σ.h n=none)
 |[],_,n,hn=>by cases hn
 |m::kh,h,n,hn=>by
  simp only[HJ,Bool.and_eq_true] at h
  rcases List.mem_cons.1 hn with e_|hn
  ·subst e_
   cases hh:qb n hp with
   |true=>
    rw[hh] at h
    have h1:σ.used n=true:=h.1
    exact⟨by rw[h1,Bool.or_true],fun e=>by cases e⟩
   |false=>
    rw[hh] at h
    simp only[Bool.and_eq_true,Option.isNone_iff_eq_none] at h
    refine⟨?_,fun _=>h.1.2⟩
    have h1:=h.1.1
    rw[Bool.or_false]
    cases hu:σ.used n with
    |true=>rw[hu] at h1;exact h1.symm
    |false=>rw[hu] at h1;simpa using h1.symm
  ·exact Md h.2 n hn
theorem V2 {kh:List Nat}:∀{l:List (Nat×fB)},Hp kh l=true->∀n∈l.map (·.1),n∈kh
 |[],_,n,hn=>by cases hn
 |p::l,h,n,hn=>by
  simp only[Hp,Bool.and_eq_true] at h
  simp only[List.map_cons,List.mem_cons] at hn
  rcases hn with rfl|hn
  ·simpa using h.1
  ·exact V2 h.2 n hn
theorem jp.oL {ρ:Type} {sh:jp} {kh:List Nat} {σ:af} {k:sh.L.D->Option ρ} {r:ρ} (h:sh.flat kh σ k=some r)
  (he:∀s,s∉sh.ke->σ.env s=.one .bm) (hh:∀n,n∉kh->σ.h n=none/\σ.used n=Nat.ble aK n):∃x,σ=sh.un x/\k x=some r:=by
 unfold jp.flat at h
 have hc:=(cm h).1;replace h:=(cm h).2
 simp only[Bool.and_eq_true] at hc
 obtain⟨xe,e1,h⟩:=vN (L:=fun p:Nat×iU=>p.2.L) (un:=fun p y=>(p.1,p.2.un (rV σ.h) y)) (fun a b k r h=>by
  unfold XV at h
  obtain⟨h1,h⟩:=bg h
  obtain⟨x,h2,h⟩:=iU.oL _ _ _ _ h
  exact⟨x,Prod.ext h1 h2,h⟩) h
 obtain⟨xh,e2,h⟩:=vN (L:=fun p:Nat×fB=>p.2.L) (un:=fun p y=>(p.1,some (p.2.un (rV σ.h) y))) (fun a b k r h=>by
  unfold XW at h
  obtain⟨h1,h⟩:=bg h
  obtain⟨x,h2,h⟩:=fB.oL _ _ _ _ h
  exact⟨x,Prod.ext h1 h2,h⟩) h
 have yh:σ.env=lC (KA (rV σ.h) sh.env xe):=by
  unfold KA
  rw[<-e1]
  exact(aeL sh.env σ.env he).symm
 have AY:σ.h=jP (zv (rV σ.h) sh.heap xh):=by
  unfold zv
  rw[<-e2]
  refine(ag4 sh.heap σ.h fun n hn=>?_).symm
  by_cases hk:n∈kh
  ·refine(Md hc.1 n hk).2 ?_
   cases hb:qb n sh.heap with
   |true=>exact absurd ((Yw n sh.heap).1 hb) hn
   |false=>rfl
  ·exact(hh n hk).1
 have ahg:s7 sh.heap xh=rV σ.h:=by
  rw[PI (rV σ.h),<-AY]
 have ahE:σ.used=fun n=>Nat.ble aK n||Cw sh.heap n:=by
  funext n
  rw[apw]
  by_cases hk:n∈kh
  ·exact(Md hc.1 n hk).1
  ·rw[(hh n hk).2]
   cases hb:qb n sh.heap with
   |true=>exact absurd (V2 hc.2 n ((Yw n sh.heap).1 hb)) hk
   |false=>rw[Bool.or_false]
 refine⟨LT.Cj sh.eL sh.hL xe xh,?_,h⟩
 have:sh.un (LT.Cj sh.eL sh.hL xe xh)={env:=lC (KA (s7 sh.heap xh) sh.env xe),h:=jP (zv (s7 sh.heap xh) sh.heap xh),used:=fun n=>Nat.ble aK n||Cw sh.heap n}:=by
  simp only[jp.un,LT.ach]
 rw[this,ahg,<-yh,<-AY,<-ahE]
end Go.Am
