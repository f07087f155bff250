/- S5: shapes of states; loop heads of the typed evaluator. No condition. -/
import Derived.Test.YtifmggmhdcdgbaaS4
set_option linter.unusedVariables false
namespace Go.Am
inductive LT where
 |unit
 |ty (t:Ty)
 |dl (ts:List Ty)
 |nat
 |pair (a b:LT)
def LT.D:LT->Type
 |.unit=>Unit
 |.ty t=>t.D
 |.dl ts=>Ty.DL ts
 |.nat=>Nat
 |.pair a b=>a.D×b.D
def LT.Br (a:LT):LT->LT
 |.unit=>a
 |.ty t=>.pair a (.ty t)
 |.dl ts=>.pair a (.dl ts)
 |.nat=>.pair a .nat
 |.pair x y=>.pair a (.pair x y)
def LT.sp:LT->LT->LT
 |.unit,b=>b
 |.ty t,b=>LT.Br (.ty t) b
 |.dl ts,b=>LT.Br (.dl ts) b
 |.nat,b=>LT.Br .nat b
 |.pair x y,b=>LT.Br (.pair x y) b
def LT.D9 (a:LT):(b:LT)->(LT.Br a b).D->a.D×b.D
 |.unit,x=>(x,())
 |.ty _,x=>x
 |.dl _,x=>x
 |.nat,x=>x
 |.pair _ _,x=>x
def LT.sZ:(a b:LT)->(LT.sp a b).D->a.D×b.D
 |.unit,b,x=>((),x)
 |.ty t,b,x=>LT.D9 (.ty t) b x
 |.dl ts,b,x=>LT.D9 (.dl ts) b x
 |.nat,b,x=>LT.D9 .nat b x
 |.pair x y,b,z=>LT.D9 (.pair x y) b z
def LT.D8 (a:LT):(b:LT)->a.D->b.D->(LT.Br a b).D
 |.unit,x,_=>x
 |.ty _,x,y=>(x,y)
 |.dl _,x,y=>(x,y)
 |.nat,x,y=>(x,y)
 |.pair _ _,x,y=>(x,y)
def LT.Bt:(a b:LT)->a.D->b.D->(LT.sp a b).D
 |.unit,b,_,y=>y
 |.ty t,b,x,y=>LT.D8 (.ty t) b x y
 |.dl ts,b,x,y=>LT.D8 (.dl ts) b x y
 |.nat,b,x,y=>LT.D8 .nat b x y
 |.pair u v,b,x,y=>LT.D8 (.pair u v) b x y
theorem LT.akB (a b:LT) (x:a.D) (y:b.D):LT.D9 a b (LT.D8 a b x y)=(x,y):=by cases b<;>rfl
theorem LT.Zw (a b:LT) (x:a.D) (y:b.D):LT.sZ a b (LT.Bt a b x y)=(x,y):=by
 cases a with
 |unit=>rfl
 |_=>exact LT.akB _ b x y
section
variable {α β:Type} {ρ:Type} {L:α->LT}
def LL (L:α->LT):List α->LT
 |[]=>.unit
 |a::l=>LT.sp (L a) (LL L l)
def pH (un:(a:α)->(L a).D->β):(l:List α)->(LL L l).D->List β
 |[],_=>[]
 |a::l,x=>un a (LT.sZ (L a) (LL L l) x).1::pH un l (LT.sZ (L a) (LL L l) x).2
def pS (flat:(a:α)->β->((L a).D->Option ρ)->Option ρ):(l:List α)->List β->((LL L l).D->Option ρ)->Option ρ
 |[],[],k=>k ()
 |a::l,b::bs,k=>flat a b fun x=>pS flat l bs fun y=>k (LT.Bt (L a) (LL L l) x y)
 |_,_,_=>none
theorem vq {flat:(a:α)->β->((L a).D->Option ρ)->Option ρ} {un:(a:α)->(L a).D->β}
  (hf:∀a b k r,flat a b k=some r->∃x,b=un a x/\k x=some r):∀{l:List α} {bs:List β} {k:(LL L l).D->Option ρ} {r:ρ},pS flat l bs k=some r->
  ∃x,bs=pH un l x/\k x=some r
 |[],[],k,r,h=>⟨(),rfl,h⟩
 |a::l,b::bs,k,r,h=>by
  simp only[pS] at h
  obtain⟨x,rfl,h2⟩:=hf _ _ _ _ h
  obtain⟨y,rfl,h4⟩:=vq hf h2
  exact⟨LT.Bt (L a) (LL L l) x y,by simp only[pH,LT.Zw],h4⟩
 |[],_::_,k,r,h=>by simp[pS] at h
 |_::_,[],k,r,h=>by simp[pS] at h
end
inductive iq where
 |v (t:Ty)
 |nil (ts:List Ty)
 |DJ (n off:Nat)
 |ptr (n sz off:Nat)
 |cf (ts:List Ty) (off:Nat)
 |full (n sz:Nat)
 |sl (n sz:Nat)
 |bt (n ax off sz:Nat)
 |bj
inductive dH where
 |c (s:iq)
 |fn (f:FuncId) (ca:List iq)
inductive iZ where
 |one (c:dH)
 |agg (cs:List dH)
 |bk (xs:List (Bool×List dH))
inductive fj where
 |box (cs:List dH)
 |row (gr:Bool) (m:Mode) (ts:List Ty)
structure ju where
 env:List (Nat×iZ)
 heap:List (Nat×fj)
abbrev ju.ke (sh:ju):List Nat:=sh.env.map (·.1)
def iq.L:iq->LT
 |.v t=>.ty t
 |.nil _=>.unit
 |.DJ _ _=>.unit
 |.ptr _ _ _=>.nat
 |.cf ts _=>.dl ts
 |.full _ _=>.unit
 |.sl _ _=>.pair .nat .nat
 |.bt _ _ _ _=>.pair .nat .nat
 |.bj=>.unit
def iq.un (ln:Nat->Nat):(s:iq)->s.L.D->SC
 |.v t,x=>.v t x
 |.nil ts,_=>.nil ts
 |.DJ n off,_=>.ptr n 0 0 off
 |.ptr n sz off,k=>.ptr n k sz off
 |.cf ts off,x=>.cf ts x off
 |.full n sz,_=>.sl n sz 0 (ln n)
 |.sl n sz,x=>.sl n sz x.1 x.2
 |.bt n ax off sz,x=>.bt n x.1 ax off sz x.2
 |.bj,_=>.bj
section
variable {ρ:Type}
def iq.flat (ln:Nat->Nat) (s:iq) (c:SC) (k:s.L.D->Option ρ):Option ρ:=
 match s,c with
 |.v t,.v u x=>match Ty.cast u t x with
  |some y=>k y
  |none=>none
 |.nil ts,.nil us=>eS (Ty.qO us ts) (k ())
 |.DJ n off,.ptr n' kk sz yu=>cC n' n (cC kk 0 (cC sz 0 (cC yu off (k ()))))
 |.ptr n sz off,.ptr n' kk aK yu=>cC n' n (cC aK sz (cC yu off (k kk)))
 |.cf ts off,.cf us x yu=>cC yu off (match Ty.KG us ts x with
  |some y=>k y
  |none=>none)
 |.full n sz,.sl n' aK lo len=>cC n' n (cC aK sz ((ae lo len (ln n)).U fun _=>k ()))
 |.sl n sz,.sl n' aK lo len=>cC n' n (cC aK sz (k (lo,len)))
 |.bt n ax off sz,.bt n' kk ajW yu aK len=>cC n' n (cC ajW ax (cC yu off (cC aK sz (k (kk,len)))))
 |.bj,.bj=>k ()
 |_,_=>none
theorem Ty.cast_eq {t u:Ty} {x:t.D} {y:u.D} (h:Ty.cast t u x=some y):SC.v t x=SC.v u y:=by
 unfold Ty.cast at h
 split at h
 ·rename_i he
  have:=Ty.beq_eq he
  subst this
  injection h with h
  rw[<-h]
 ·cases h
theorem Ty.aaX {ts us:List Ty} {x:Ty.DL ts} {y:Ty.DL us} (h:Ty.KG ts us x=some y) (off:Nat):SC.cf ts x off=SC.cf us y off:=by
 unfold Ty.KG at h
 split at h
 ·rename_i he
  have:=Ty.rW he
  subst this
  injection h with h
  rw[<-h]
 ·cases h
theorem iq.oR {ln:Nat->Nat} (s:iq) (c:SC) (k:s.L.D->Option ρ) (r:ρ) (h:s.flat ln c k=some r):∃x,c=s.un ln x/\k x=some r:=by
 cases s with
 |v t=>
  cases c<;>simp only[iq.flat] at h<;>first|(cases h;done)|skip
  split at h
  ·rename_i y hy
   exact⟨y,Ty.cast_eq hy,h⟩
  ·cases h
 |nil ts=>
  cases c<;>simp only[iq.flat] at h<;>first|(cases h;done)|skip
  have h1:=(bY h).1;replace h:=(bY h).2
  exact⟨(),by rw[Ty.rW h1];rfl,h⟩
 |DJ n off=>
  cases c<;>simp only[iq.flat] at h<;>first|(cases h;done)|skip
  have bm:=(ba h).1;replace h:=(ba h).2;subst bm
  have bm:=(ba h).1;replace h:=(ba h).2;subst bm
  have bm:=(ba h).1;replace h:=(ba h).2;subst bm
  have bm:=(ba h).1;replace h:=(ba h).2;subst bm
  exact⟨(),rfl,h⟩
 |ptr n sz off=>
  cases c<;>simp only[iq.flat] at h<;>first|(cases h;done)|skip
  have bm:=(ba h).1;replace h:=(ba h).2;subst bm
  have bm:=(ba h).1;replace h:=(ba h).2;subst bm
  have bm:=(ba h).1;replace h:=(ba h).2;subst bm
  exact⟨_,rfl,h⟩
 |cf ts off=>
  cases c<;>simp only[iq.flat] at h<;>first|(cases h;done)|skip
  have bm:=(ba h).1;replace h:=(ba h).2;subst bm
  split at h
  ·rename_i y hy
   exact⟨y,Ty.aaX hy _,h⟩
  ·cases h
 |full n sz=>
  cases c<;>simp only[iq.flat] at h<;>first|(cases h;done)|skip
  have bm:=(ba h).1;replace h:=(ba h).2;subst bm
  have bm:=(ba h).1;replace h:=(ba h).2;subst bm
  rw[eY] at h
  obtain⟨_,hf,h⟩:=h
  unfold ae at hf
  split at hf
  ·rename_i hc
   obtain⟨rfl,rfl⟩:=hc
   exact⟨(),rfl,h⟩
  ·cases hf
 |sl n sz=>
  cases c<;>simp only[iq.flat] at h<;>first|(cases h;done)|skip
  have bm:=(ba h).1;replace h:=(ba h).2;subst bm
  have bm:=(ba h).1;replace h:=(ba h).2;subst bm
  exact⟨_,rfl,h⟩
 |bt n ax off sz=>
  cases c<;>simp only[iq.flat] at h<;>first|(cases h;done)|skip
  have bm:=(ba h).1;replace h:=(ba h).2;subst bm
  have bm:=(ba h).1;replace h:=(ba h).2;subst bm
  have bm:=(ba h).1;replace h:=(ba h).2;subst bm
  have bm:=(ba h).1;replace h:=(ba h).2;subst bm
  exact⟨_,rfl,h⟩
 |bj=>
  cases c<;>simp only[iq.flat] at h<;>first|(cases h;done)|skip
  exact⟨(),rfl,h⟩
def dH.L:dH->LT
 |.c s=>s.L
 |.fn _ ca=>LL iq.L ca
def dH.un (ln:Nat->Nat):(s:dH)->s.L.D->SC
 |.c s,x=>s.un ln x
 |.fn f ca,x=>.fn f (pH (iq.un ln) ca x)
def dH.flat (ln:Nat->Nat) (s:dH) (c:SC) (k:s.L.D->Option ρ):Option ρ:=
 match s,c with
 |.c s,c=>s.flat ln c k
 |.fn f ca,.fn f' cs=>cC f' f (pS (iq.flat ln) ca cs k)
 |_,_=>none
theorem dH.oR {ln:Nat->Nat} (s:dH) (c:SC) (k:s.L.D->Option ρ) (r:ρ) (h:s.flat ln c k=some r):∃x,c=s.un ln x/\k x=some r:=by
 cases s with
 |c s=>exact s.oR c k r (by cases c<;>exact h)
 |fn f ca=>
  cases c<;>simp only[dH.flat] at h<;>first|(cases h;done)|skip
  have bm:=(ba h).1;replace h:=(ba h).2;subst bm
  obtain⟨x,e_,h_⟩:=vq (un:=iq.un ln) (fun a b k r=>iq.oR a b k r) h;subst e_;replace h:=h_
  exact⟨x,rfl,h⟩
def iZ.L:iZ->LT
 |.one c=>c.L
 |.agg cs=>LL dH.L cs
 |.bk xs=>LL (fun x:Bool×List dH=>LL dH.L x.2) xs
def iZ.un (ln:Nat->Nat):(s:iZ)->s.L.D->SV
 |.one c,x=>.one (c.un ln x)
 |.agg cs,x=>.agg (pH (dH.un ln) cs x)
 |.bk xs,x=>.bk (pH (L:=fun x:Bool×List dH=>LL dH.L x.2) (fun a y=>(a.1,pH (dH.un ln) a.2 y)) xs x)
def Vp (ln:Nat->Nat) (a:Bool×List dH) (b:Bool×List SC) (k:(LL dH.L a.2).D->Option ρ):Option ρ:=
 eS (a.1==b.1) (pS (dH.flat ln) a.2 b.2 k)
def iZ.flat (ln:Nat->Nat) (s:iZ) (v:SV) (k:s.L.D->Option ρ):Option ρ:=
 match s,v with
 |.one c,.one v=>c.flat ln v k
 |.agg cs,.agg vs=>pS (dH.flat ln) cs vs k
 |.bk xs,.bk vs=>pS (L:=fun x:Bool×List dH=>LL dH.L x.2) (Vp ln) xs vs k
 |_,_=>none
theorem iZ.oR {ln:Nat->Nat} (s:iZ) (v:SV) (k:s.L.D->Option ρ) (r:ρ) (h:s.flat ln v k=some r):∃x,v=s.un ln x/\k x=some r:=by
 cases s with
 |one c=>
  cases v<;>simp only[iZ.flat] at h<;>first|(cases h;done)|skip
  obtain⟨x,e_,h_⟩:=dH.oR _ _ _ _ h;subst e_;replace h:=h_
  exact⟨x,rfl,h⟩
 |agg cs=>
  cases v<;>simp only[iZ.flat] at h<;>first|(cases h;done)|skip
  obtain⟨x,e_,h_⟩:=vq (un:=dH.un ln) (fun a b k r=>dH.oR a b k r) h;subst e_;replace h:=h_
  exact⟨x,rfl,h⟩
 |bk xs=>
  cases v<;>simp only[iZ.flat] at h<;>first|(cases h;done)|skip
  obtain⟨x,e_,h_⟩:=vq (L:=fun x:Bool×List dH=>LL dH.L x.2) (un:=fun a y=>(a.1,pH (dH.un ln) a.2 y)) (fun a b k r h=>by
   unfold Vp at h
   have h1:=(bY h).1;replace h:=(bY h).2
   obtain⟨x,h2,h⟩:=vq (un:=dH.un ln) (fun a b k r=>dH.oR a b k r) h
   exact⟨x,Prod.ext (eq_of_beq h1).symm h2,h⟩) h
  subst e_
  exact⟨x,rfl,h_⟩
def fj.L:fj->LT
 |.box cs=>LL dH.L cs
 |.row _ _ ts=>.ty (.list ts)
def fj.un (ln:Nat->Nat):(s:fj)->s.L.D->SB
 |.box cs,x=>.box (pH (dH.un ln) cs x)
 |.row gr m ts,x=>.row gr m ts x
def Mode.beq:Mode->Mode->Bool
 |.live,.live=>true
 |.aa,.aa=>true
 |.aF,.aF=>true
 |_,_=>false
theorem Mode.beq_eq {a b:Mode} (h:Mode.beq a b=true):a=b:=by cases a<;>cases b<;>first|rfl|cases h
def fj.flat (ln:Nat->Nat) (s:fj) (b:Option SB) (k:s.L.D->Option ρ):Option ρ:=
 match s,b with
 |.box cs,some (.box vs)=>pS (dH.flat ln) cs vs k
 |.row gr m ts,some (.row bi m' us xs)=>eS (bi==gr) (eS (Mode.beq m' m) (match vi us ts xs with
  |some y=>k y
  |none=>none))
 |_,_=>none
theorem ajT {us ts:List Ty} {xs:List (Ty.DL us)} {ys:List (Ty.DL ts)} (h:vi us ts xs=some ys) (gr:Bool) (m:Mode):SB.row gr m us xs=SB.row gr m ts ys:=by
 unfold vi at h
 split at h
 ·rename_i he
  have h2:=Ty.rW he
  subst h2
  injection h with h
  rw[<-h]
 ·cases h
theorem fj.oR {ln:Nat->Nat} (s:fj) (b:Option SB) (k:s.L.D->Option ρ) (r:ρ) (h:s.flat ln b k=some r):∃x,b=some (s.un ln x)/\k x=some r:=by
 cases s with
 |box cs=>
  cases b with
  |none=>cases h
  |some b=>
   cases b<;>simp only[fj.flat] at h<;>first|(cases h;done)|skip
   obtain⟨x,e_,h_⟩:=vq (un:=dH.un ln) (fun a b k r=>dH.oR a b k r) h;subst e_;replace h:=h_
   exact⟨x,rfl,h⟩
 |row gr m ts=>
  cases b with
  |none=>cases h
  |some b=>
   cases b<;>simp only[fj.flat] at h<;>first|(cases h;done)|skip
   have h1:=(bY h).1;replace h:=(bY h).2
   have h2:=(bY h).1;replace h:=(bY h).2
   split at h
   ·rename_i y hy
    refine⟨y,?_,h⟩
    rw[eq_of_beq h1,Mode.beq_eq h2,ajT hy]
    rfl
   ·cases h
end
def lH:List (Nat×SV)->Nat->SV
 |[]=>fun _=>.one .bj
 |p::l=>av (lH l) p.1 p.2
def jX:List (Nat×Option SB)->Nat->Option SB
 |[]=>fun _=>none
 |p::l=>av (jX l) p.1 p.2
def BG:List (Nat×fj)->Nat->Bool
 |[]=>fun _=>false
 |p::l=>av (BG l) p.1 true
def rA (h:Nat->Option SB) (n:Nat):Nat:=
 match h n with
 |some (.row _ _ ts xs)=>J (α:=Ty.DL ts) xs
 |_=>0
abbrev ju.eL (sh:ju):LT:=LL (fun p:Nat×iZ=>p.2.L) sh.env
abbrev ju.hL (sh:ju):LT:=LL (fun p:Nat×fj=>p.2.L) sh.heap
def ju.L (sh:ju):LT:=LT.sp sh.eL sh.hL
def Js (ln:Nat->Nat) (l:List (Nat×iZ)) (x:(LL (fun p:Nat×iZ=>p.2.L) l).D):List (Nat×SV):=
 pH (L:=fun p:Nat×iZ=>p.2.L) (fun p y=>(p.1,p.2.un ln y)) l x
def yL (ln:Nat->Nat) (l:List (Nat×fj)) (x:(LL (fun p:Nat×fj=>p.2.L) l).D):List (Nat×Option SB):=
 pH (L:=fun p:Nat×fj=>p.2.L) (fun p y=>(p.1,some (p.2.un ln y))) l x
def sO:(l:List (Nat×fj))->(LL (fun p:Nat×fj=>p.2.L) l).D->Nat->Nat
 |[],_=>fun _=>0
 |(n,.box cs)::l,x=>av (sO l (LT.sZ _ _ x).2) n 0
 |(n,.row gr m ts)::l,x=>av (sO l (LT.sZ (LT.ty (.list ts)) _ x).2) n (J (α:=Ty.DL ts) (LT.sZ (LT.ty (.list ts)) _ x).1)
theorem N8 (ln:Nat->Nat):∀(l:List (Nat×fj)) (x:(LL (fun p:Nat×fj=>p.2.L) l).D),sO l x=rA (jX (yL ln l x))
 |[],_=>rfl
 |(n,.box cs)::l,x=>by
  funext m
  simp only[sO,yL,pH,jX,rA]
  by_cases hm:m=n
  ·subst hm;simp only[bD];rfl
  ·simp only[cd _ _ _ _ hm]
   exact congrFun (N8 ln l _) m
 |(n,.row gr mo ts)::l,x=>by
  funext m
  simp only[sO,yL,pH,jX,rA]
  by_cases hm:m=n
  ·subst hm;simp only[bD];rfl
  ·simp only[cd _ _ _ _ hm]
   exact congrFun (N8 ln l _) m
def ju.un (sh:ju) (x:sh.L.D):af:=
 {env:=lH (Js (sO sh.heap (LT.sZ sh.eL sh.hL x).2) sh.env (LT.sZ sh.eL sh.hL x).1)
  h:=jX (yL (sO sh.heap (LT.sZ sh.eL sh.hL x).2) sh.heap (LT.sZ sh.eL sh.hL x).2)
  used:=fun n=>Nat.ble aI n||BG sh.heap n}
def pU (n:Nat):List (Nat×fj)->Bool
 |[]=>false
 |p::l=>match Nat.beq n p.1 with
  |true=>true
  |false=>pU n l
section
variable {ρ:Type}
def Vm (ln:Nat->Nat) (p:Nat×iZ) (v:Nat×SV) (k:p.2.L.D->Option ρ):Option ρ:=cC v.1 p.1 (p.2.flat ln v.2 k)
def Vn (ln:Nat->Nat) (p:Nat×fj) (b:Nat×Option SB) (k:p.2.L.D->Option ρ):Option ρ:=cC b.1 p.1 (p.2.flat ln b.2 k)
def Gr (σ:af) (hp:List (Nat×fj)):List Nat->Bool
 |[]=>true
 |n::kh=>(match pU n hp with|true=>σ.used n|false=>(match σ.used n with|true=>Nat.ble aI n|false=> !(Nat.ble aI n))&&(σ.h n).isNone)&&Gr σ hp kh
def F9 (kh:List Nat):List (Nat×fj)->Bool
 |[]=>true
 |p::l=>kh.contains p.1&&F9 kh l
def ju.flat (sh:ju) (kh:List Nat) (σ:af) (k:sh.L.D->Option ρ):Option ρ:=
 eS (Gr σ sh.heap kh&&F9 kh sh.heap)
  (pS (Vm (rA σ.h)) sh.env (sh.env.map fun p=>(p.1,σ.env p.1)) fun xe=>
   pS (Vn (rA σ.h)) sh.heap (sh.heap.map fun p=>(p.1,σ.h p.1)) fun xh=>k (LT.Bt sh.eL sh.hL xe xh))
end
theorem aby (l:List (Nat×iZ)) (f:Nat->SV) (hf:∀s,s∉l.map (·.1)->f s=.one .bj):lH (l.map fun p=>(p.1,f p.1))=f:=by
 have:∀(l:List (Nat×iZ)) s,lH (l.map fun p=>(p.1,f p.1)) s=if s∈l.map (·.1) then f s else .one .bj:=by
  intro l s
  induction l with
  |nil=>rfl
  |cons p l ih=>
   simp only[List.map_cons,lH,jp,ih,List.mem_cons]
   by_cases h:s=p.1
   ·subst h;simp
   ·by_cases h2:s∈l.map (·.1)
    ·rw[if_neg h,if_pos h2,if_pos (Or.inr h2)]
    ·rw[if_neg h,if_neg h2,if_neg (fun e=>e.elim h h2)]
 funext s
 rw[this]
 split
 ·rfl
 ·rename_i h;exact(hf s h).symm
theorem adQ (l:List (Nat×fj)) (f:Nat->Option SB) (hf:∀s,s∉l.map (·.1)->f s=none):jX (l.map fun p=>(p.1,f p.1))=f:=by
 have:∀(l:List (Nat×fj)) s,jX (l.map fun p=>(p.1,f p.1)) s=if s∈l.map (·.1) then f s else none:=by
  intro l s
  induction l with
  |nil=>rfl
  |cons p l ih=>
   simp only[List.map_cons,jX,jp,ih,List.mem_cons]
   by_cases h:s=p.1
   ·subst h;simp
   ·by_cases h2:s∈l.map (·.1)
    ·rw[if_neg h,if_pos h2,if_pos (Or.inr h2)]
    ·rw[if_neg h,if_neg h2,if_neg (fun e=>e.elim h h2)]
 funext s
 rw[this]
 split
 ·rfl
 ·rename_i h;exact(hf s h).symm
theorem VQ (n:Nat) (l:List (Nat×fj)):pU n l=true↔n∈l.map (·.1):=by
  induction l with
  |nil=>simp[pU]
  |cons p l ih=>
   simp only[pU,List.map_cons,List.mem_cons]
   cases h:Nat.beq n p.1 with
   |true=>simp[Nat.eq_of_beq_eq_true h]
   |false=>simp only[ih];constructor
           · exact .inr
           · rintro(rfl|h2)
             · rw[Nat.beq_refl] at h;cases h
             · exact h2
theorem ala (n:Nat) (l:List (Nat×fj)):BG l n=pU n l:=by
 induction l with
 |nil=>rfl
 |cons p l ih=>
  simp only[BG,pU,jp,ih]
  by_cases h:n=p.1
  ·subst h;simp[Nat.beq_refl]
  ·have:Nat.beq n p.1=false:=by
    cases hb:Nat.beq n p.1 with
    |true=>exact absurd (Nat.eq_of_beq_eq_true hb) h
    |false=>rfl
   simp[h,this]
theorem KK {σ:af} {hp:List (Nat×fj)}:∀{kh:List Nat},Gr σ hp kh=true->∀n∈kh,σ.used n=(Nat.ble aI n||pU n hp)/\(pU n hp=false->σ.h n=none)
 |[],_,n,hn=>by cases hn
 |m::kh,h,n,hn=>by
  simp only[Gr,Bool.and_eq_true] at h
  rcases List.mem_cons.1 hn with e_|hn
  ·subst e_
   cases hh:pU n hp with
   |true=>
    rw[hh] at h
    have h1:σ.used n=true:=h.1
    exact⟨by rw[h1,Bool.or_true],fun e=>by cases e⟩
   |false=>
    rw[hh] at h
    simp only[Bool.and_eq_true,Option.isNone_iff_eq_none] at h
    refine⟨?_,fun _=>h.1.2⟩
    have h1:=h.1.1
    rw[Bool.or_false]
    cases hu:σ.used n with
    |true=>rw[hu] at h1;exact h1.symm
    |false=>rw[hu] at h1;simpa using h1.symm
  ·exact KK h.2 n hn
theorem TU {kh:List Nat}:∀{l:List (Nat×fj)},F9 kh l=true->∀n∈l.map (·.1),n∈kh
 |[],_,n,hn=>by cases hn
 |p::l,h,n,hn=>by
  simp only[F9,Bool.and_eq_true] at h
  simp only[List.map_cons,List.mem_cons] at hn
  rcases hn with rfl|hn
  ·simpa using h.1
  ·exact TU h.2 n hn
theorem ju.oR {ρ:Type} {sh:ju} {kh:List Nat} {σ:af} {k:sh.L.D->Option ρ} {r:ρ} (h:sh.flat kh σ k=some r)
  (he:∀s,s∉sh.ke->σ.env s=.one .bj) (hh:∀n,n∉kh->σ.h n=none/\σ.used n=Nat.ble aI n):∃x,σ=sh.un x/\k x=some r:=by
 unfold ju.flat at h
 have hc:=(bY h).1;replace h:=(bY h).2
 simp only[Bool.and_eq_true] at hc
 obtain⟨xe,e1,h⟩:=vq (L:=fun p:Nat×iZ=>p.2.L) (un:=fun p y=>(p.1,p.2.un (rA σ.h) y)) (fun a b k r h=>by
  unfold Vm at h
  obtain⟨h1,h⟩:=ba h
  obtain⟨x,h2,h⟩:=iZ.oR _ _ _ _ h
  exact⟨x,Prod.ext h1 h2,h⟩) h
 obtain⟨xh,e2,h⟩:=vq (L:=fun p:Nat×fj=>p.2.L) (un:=fun p y=>(p.1,some (p.2.un (rA σ.h) y))) (fun a b k r h=>by
  unfold Vn at h
  obtain⟨h1,h⟩:=ba h
  obtain⟨x,h2,h⟩:=fj.oR _ _ _ _ h
  exact⟨x,Prod.ext h1 h2,h⟩) h
 have xK:σ.env=lH (Js (rA σ.h) sh.env xe):=by
  unfold Js
  rw[<-e1]
  exact(aby sh.env σ.env he).symm
 have zS:σ.h=jX (yL (rA σ.h) sh.heap xh):=by
  unfold yL
  rw[<-e2]
  refine(adQ sh.heap σ.h fun n hn=>?_).symm
  by_cases hk:n∈kh
  ·refine(KK hc.1 n hk).2 ?_
   cases hb:pU n sh.heap with
   |true=>exact absurd ((VQ n sh.heap).1 hb) hn
   |false=>rfl
  ·exact(hh n hk).1
 have ad0:sO sh.heap xh=rA σ.h:=by
  rw[N8 (rA σ.h),<-zS]
 have aep:σ.used=fun n=>Nat.ble aI n||BG sh.heap n:=by
  funext n
  rw[ala]
  by_cases hk:n∈kh
  ·exact(KK hc.1 n hk).1
  ·rw[(hh n hk).2]
   cases hb:pU n sh.heap with
   |true=>exact absurd (TU hc.2 n ((VQ n sh.heap).1 hb)) hk
   |false=>rw[Bool.or_false]
 refine⟨LT.Bt sh.eL sh.hL xe xh,?_,h⟩
 have:sh.un (LT.Bt sh.eL sh.hL xe xh)={env:=lH (Js (sO sh.heap xh) sh.env xe),h:=jX (yL (sO sh.heap xh) sh.heap xh),used:=fun n=>Nat.ble aI n||BG sh.heap n}:=by
  simp only[ju.un,LT.Zw]
 rw[this,ad0,<-xK,<-zS,<-aep]
end Go.Am
