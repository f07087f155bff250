/- S5: shapes of states; loop heads of the typed evaluator. No condition. -/
import Derived.Test.YtifmggmhdcdgbaaS4
set_option linter.unusedVariables false
namespace Go.Am
inductive LT where
 |unit
 |ty (t:Ty)
 |dl (ts:List Ty)
 |nat
 |pair (a b:LT)
def LT.D:LT->Type
 |.unit=>Unit
 |.ty t=>t.D
 |.dl ts=>Ty.DL ts
 |.nat=>Nat
 |.pair a b=>a.D×b.D
def LT.Cr (a:LT):LT->LT
 |.unit=>a
 |.ty t=>.pair a (.ty t)
 |.dl ts=>.pair a (.dl ts)
 |.nat=>.pair a .nat
 |.pair x y=>.pair a (.pair x y)
def LT.sp:LT->LT->LT
 |.unit,b=>b
 |.ty t,b=>LT.Cr (.ty t) b
 |.dl ts,b=>LT.Cr (.dl ts) b
 |.nat,b=>LT.Cr .nat b
 |.pair x y,b=>LT.Cr (.pair x y) b
def LT.Fq (a:LT):(b:LT)->(LT.Cr a b).D->a.D×b.D
 |.unit,x=>(x,())
 |.ty _,x=>x
 |.dl _,x=>x
 |.nat,x=>x
 |.pair _ _,x=>x
def LT.tJ:(a b:LT)->(LT.sp a b).D->a.D×b.D
 |.unit,b,x=>((),x)
 |.ty t,b,x=>LT.Fq (.ty t) b x
 |.dl ts,b,x=>LT.Fq (.dl ts) b x
 |.nat,b,x=>LT.Fq .nat b x
 |.pair x y,b,z=>LT.Fq (.pair x y) b z
def LT.Fp (a:LT):(b:LT)->a.D->b.D->(LT.Cr a b).D
 |.unit,x,_=>x
 |.ty _,x,y=>(x,y)
 |.dl _,x,y=>(x,y)
 |.nat,x,y=>(x,y)
 |.pair _ _,x,y=>(x,y)
def LT.Cs:(a b:LT)->a.D->b.D->(LT.sp a b).D
 |.unit,b,_,y=>y
 |.ty t,b,x,y=>LT.Fp (.ty t) b x y
 |.dl ts,b,x,y=>LT.Fp (.dl ts) b x y
 |.nat,b,x,y=>LT.Fp .nat b x y
 |.pair u v,b,x,y=>LT.Fp (.pair u v) b x y
theorem LT.an6 (a b:LT) (x:a.D) (y:b.D):LT.Fq a b (LT.Fp a b x y)=(x,y):=by cases b<;>rfl
theorem LT.abR (a b:LT) (x:a.D) (y:b.D):LT.tJ a b (LT.Cs a b x y)=(x,y):=by
 cases a with
 |unit=>rfl
 |_=>exact LT.an6 _ b x y
section
variable {α β:Type} {ρ:Type} {L:α->LT}
def LL (L:α->LT):List α->LT
 |[]=>.unit
 |a::l=>LT.sp (L a) (LL L l)
def pk (un:(a:α)->(L a).D->β):(l:List α)->(LL L l).D->List β
 |[],_=>[]
 |a::l,x=>un a (LT.tJ (L a) (LL L l) x).1::pk un l (LT.tJ (L a) (LL L l) x).2
def pG (flat:(a:α)->β->((L a).D->Option ρ)->Option ρ):(l:List α)->List β->((LL L l).D->Option ρ)->Option ρ
 |[],[],k=>k ()
 |a::l,b::bs,k=>flat a b fun x=>pG flat l bs fun y=>k (LT.Cs (L a) (LL L l) x y)
 |_,_,_=>none
theorem v9 {flat:(a:α)->β->((L a).D->Option ρ)->Option ρ} {un:(a:α)->(L a).D->β}
  (hf:∀a b k r,flat a b k=some r->∃x,b=un a x/\k x=some r):∀{l:List α} {bs:List β} {k:(LL L l).D->Option ρ} {r:ρ},pG flat l bs k=some r->
  ∃x,bs=pk un l x/\k x=some r
 |[],[],k,r,h=>⟨(),rfl,h⟩
 |a::l,b::bs,k,r,h=>by
  simp only[pG] at h
  obtain⟨x,rfl,h2⟩:=hf _ _ _ _ h
  obtain⟨y,rfl,h4⟩:=v9 hf h2
  exact⟨LT.Cs (L a) (LL L l) x y,by simp only[pk,LT.abR],h4⟩
 |[],_::_,k,r,h=>by simp[pG] at h
 |_::_,[],k,r,h=>by simp[pG] at h
end
inductive g8 where
 |v (t:Ty)
 |nil (ts:List Ty)
 |E2 (n off:Nat)
 |ptr (n sz off:Nat)
 |ca (ts:List Ty) (off:Nat)
 |full (n sz:Nat)
 |sl (n sz:Nat)
 |bx (n az off sz:Nat)
 |bh
inductive dF where
 |c (s:g8)
 |fn (f:FuncId) (bW:List g8)
inductive iP where
 |one (c:dF)
 |agg (cs:List dF)
 |bn (xs:List (Bool×List dF))
inductive ff where
 |box (cs:List dF)
 |row (gr:Bool) (m:Mode) (ts:List Ty)
structure jk where
 env:List (Nat×iP)
 heap:List (Nat×ff)
abbrev jk.ke (sh:jk):List Nat:=sh.env.map (·.1)
def g8.L:g8->LT
 |.v t=>.ty t
 |.nil _=>.unit
 |.E2 _ _=>.unit
 |.ptr _ _ _=>.nat
 |.ca ts _=>.dl ts
 |.full _ _=>.unit
 |.sl _ _=>.pair .nat .nat
 |.bx _ _ _ _=>.pair .nat .nat
 |.bh=>.unit
def g8.un (ln:Nat->Nat):(s:g8)->s.L.D->SC
 |.v t,x=>.v t x
 |.nil ts,_=>.nil ts
 |.E2 n off,_=>.ptr n 0 0 off
 |.ptr n sz off,k=>.ptr n k sz off
 |.ca ts off,x=>.ca ts x off
 |.full n sz,_=>.sl n sz 0 (ln n)
 |.sl n sz,x=>.sl n sz x.1 x.2
 |.bx n az off sz,x=>.bx n x.1 az off sz x.2
 |.bh,_=>.bh
section
variable {ρ:Type}
def g8.flat (ln:Nat->Nat) (s:g8) (c:SC) (k:s.L.D->Option ρ):Option ρ:=
 match s,c with
 |.v t,.v u x=>match Ty.cast u t x with
  |some y=>k y
  |none=>none
 |.nil ts,.nil us=>eH (Ty.qP us ts) (k ())
 |.E2 n off,.ptr n' kk sz zd=>cF n' n (cF kk 0 (cF sz 0 (cF zd off (k ()))))
 |.ptr n sz off,.ptr n' kk aK zd=>cF n' n (cF aK sz (cF zd off (k kk)))
 |.ca ts off,.ca us x zd=>cF zd off (match Ty.Mm us ts x with
  |some y=>k y
  |none=>none)
 |.full n sz,.sl n' aK lo len=>cF n' n (cF aK sz ((ae lo len (ln n)).aa fun _=>k ()))
 |.sl n sz,.sl n' aK lo len=>cF n' n (cF aK sz (k (lo,len)))
 |.bx n az off sz,.bx n' kk ann zd aK len=>cF n' n (cF ann az (cF zd off (cF aK sz (k (kk,len)))))
 |.bh,.bh=>k ()
 |_,_=>none
theorem Ty.cast_eq {t u:Ty} {x:t.D} {y:u.D} (h:Ty.cast t u x=some y):SC.v t x=SC.v u y:=by
 unfold Ty.cast at h
 split at h
 ·rename_i he
  have:=Ty.beq_eq he
  subst this
  injection h with h
  rw[<-h]
 ·cases h
theorem Ty.adu {ts us:List Ty} {x:Ty.DL ts} {y:Ty.DL us} (h:Ty.Mm ts us x=some y) (off:Nat):SC.ca ts x off=SC.ca us y off:=by
 unfold Ty.Mm at h
 split at h
 ·rename_i he
  have:=Ty.sa he
  subst this
  injection h with h
  rw[<-h]
 ·cases h
theorem g8.oK {ln:Nat->Nat} (s:g8) (c:SC) (k:s.L.D->Option ρ) (r:ρ) (h:s.flat ln c k=some r):∃x,c=s.un ln x/\k x=some r:=by
 cases s with
 |v t=>
  cases c<;>simp only[g8.flat] at h<;>first|(cases h;done)|skip
  split at h
  ·rename_i y hy
   exact⟨y,Ty.cast_eq hy,h⟩
  ·cases h
 |nil ts=>
  cases c<;>simp only[g8.flat] at h<;>first|(cases h;done)|skip
  have h1:=(bT h).1;replace h:=(bT h).2
  exact⟨(),by rw[Ty.sa h1];rfl,h⟩
 |E2 n off=>
  cases c<;>simp only[g8.flat] at h<;>first|(cases h;done)|skip
  have bo:=(bc h).1;replace h:=(bc h).2;subst bo
  have bo:=(bc h).1;replace h:=(bc h).2;subst bo
  have bo:=(bc h).1;replace h:=(bc h).2;subst bo
  have bo:=(bc h).1;replace h:=(bc h).2;subst bo
  exact⟨(),rfl,h⟩
 |ptr n sz off=>
  cases c<;>simp only[g8.flat] at h<;>first|(cases h;done)|skip
  have bo:=(bc h).1;replace h:=(bc h).2;subst bo
  have bo:=(bc h).1;replace h:=(bc h).2;subst bo
  have bo:=(bc h).1;replace h:=(bc h).2;subst bo
  exact⟨_,rfl,h⟩
 |ca ts off=>
  cases c<;>simp only[g8.flat] at h<;>first|(cases h;done)|skip
  have bo:=(bc h).1;replace h:=(bc h).2;subst bo
  split at h
  ·rename_i y hy
   exact⟨y,Ty.adu hy _,h⟩
  ·cases h
 |full n sz=>
  cases c<;>simp only[g8.flat] at h<;>first|(cases h;done)|skip
  have bo:=(bc h).1;replace h:=(bc h).2;subst bo
  have bo:=(bc h).1;replace h:=(bc h).2;subst bo
  rw[eR] at h
  obtain⟨_,hf,h⟩:=h
  unfold ae at hf
  split at hf
  ·rename_i hc
   obtain⟨rfl,rfl⟩:=hc
   exact⟨(),rfl,h⟩
  ·cases hf
 |sl n sz=>
  cases c<;>simp only[g8.flat] at h<;>first|(cases h;done)|skip
  have bo:=(bc h).1;replace h:=(bc h).2;subst bo
  have bo:=(bc h).1;replace h:=(bc h).2;subst bo
  exact⟨_,rfl,h⟩
 |bx n az off sz=>
  cases c<;>simp only[g8.flat] at h<;>first|(cases h;done)|skip
  have bo:=(bc h).1;replace h:=(bc h).2;subst bo
  have bo:=(bc h).1;replace h:=(bc h).2;subst bo
  have bo:=(bc h).1;replace h:=(bc h).2;subst bo
  have bo:=(bc h).1;replace h:=(bc h).2;subst bo
  exact⟨_,rfl,h⟩
 |bh=>
  cases c<;>simp only[g8.flat] at h<;>first|(cases h;done)|skip
  exact⟨(),rfl,h⟩
def dF.L:dF->LT
 |.c s=>s.L
 |.fn _ bW=>LL g8.L bW
def dF.un (ln:Nat->Nat):(s:dF)->s.L.D->SC
 |.c s,x=>s.un ln x
 |.fn f bW,x=>.fn f (pk (g8.un ln) bW x)
def dF.flat (ln:Nat->Nat) (s:dF) (c:SC) (k:s.L.D->Option ρ):Option ρ:=
 match s,c with
 |.c s,c=>s.flat ln c k
 |.fn f bW,.fn f' cs=>cF f' f (pG (g8.flat ln) bW cs k)
 |_,_=>none
theorem dF.oK {ln:Nat->Nat} (s:dF) (c:SC) (k:s.L.D->Option ρ) (r:ρ) (h:s.flat ln c k=some r):∃x,c=s.un ln x/\k x=some r:=by
 cases s with
 |c s=>exact s.oK c k r (by cases c<;>exact h)
 |fn f bW=>
  cases c<;>simp only[dF.flat] at h<;>first|(cases h;done)|skip
  have bo:=(bc h).1;replace h:=(bc h).2;subst bo
  obtain⟨x,e_,h_⟩:=v9 (un:=g8.un ln) (fun a b k r=>g8.oK a b k r) h;subst e_;replace h:=h_
  exact⟨x,rfl,h⟩
def iP.L:iP->LT
 |.one c=>c.L
 |.agg cs=>LL dF.L cs
 |.bn xs=>LL (fun x:Bool×List dF=>LL dF.L x.2) xs
def iP.un (ln:Nat->Nat):(s:iP)->s.L.D->SV
 |.one c,x=>.one (c.un ln x)
 |.agg cs,x=>.agg (pk (dF.un ln) cs x)
 |.bn xs,x=>.bn (pk (L:=fun x:Bool×List dF=>LL dF.L x.2) (fun a y=>(a.1,pk (dF.un ln) a.2 y)) xs x)
def Xj (ln:Nat->Nat) (a:Bool×List dF) (b:Bool×List SC) (k:(LL dF.L a.2).D->Option ρ):Option ρ:=
 eH (a.1==b.1) (pG (dF.flat ln) a.2 b.2 k)
def iP.flat (ln:Nat->Nat) (s:iP) (v:SV) (k:s.L.D->Option ρ):Option ρ:=
 match s,v with
 |.one c,.one v=>c.flat ln v k
 |.agg cs,.agg vs=>pG (dF.flat ln) cs vs k
 |.bn xs,.bn vs=>pG (L:=fun x:Bool×List dF=>LL dF.L x.2) (Xj ln) xs vs k
 |_,_=>none
theorem iP.oK {ln:Nat->Nat} (s:iP) (v:SV) (k:s.L.D->Option ρ) (r:ρ) (h:s.flat ln v k=some r):∃x,v=s.un ln x/\k x=some r:=by
 cases s with
 |one c=>
  cases v<;>simp only[iP.flat] at h<;>first|(cases h;done)|skip
  obtain⟨x,e_,h_⟩:=dF.oK _ _ _ _ h;subst e_;replace h:=h_
  exact⟨x,rfl,h⟩
 |agg cs=>
  cases v<;>simp only[iP.flat] at h<;>first|(cases h;done)|skip
  obtain⟨x,e_,h_⟩:=v9 (un:=dF.un ln) (fun a b k r=>dF.oK a b k r) h;subst e_;replace h:=h_
  exact⟨x,rfl,h⟩
 |bn xs=>
  cases v<;>simp only[iP.flat] at h<;>first|(cases h;done)|skip
  obtain⟨x,e_,h_⟩:=v9 (L:=fun x:Bool×List dF=>LL dF.L x.2) (un:=fun a y=>(a.1,pk (dF.un ln) a.2 y)) (fun a b k r h=>by
   unfold Xj at h
   have h1:=(bT h).1;replace h:=(bT h).2
   obtain⟨x,h2,h⟩:=v9 (un:=dF.un ln) (fun a b k r=>dF.oK a b k r) h
   exact⟨x,Prod.ext (eq_of_beq h1).symm h2,h⟩) h
  subst e_
  exact⟨x,rfl,h_⟩
def ff.L:ff->LT
 |.box cs=>LL dF.L cs
 |.row _ _ ts=>.ty (.list ts)
def ff.un (ln:Nat->Nat):(s:ff)->s.L.D->SB
 |.box cs,x=>.box (pk (dF.un ln) cs x)
 |.row gr m ts,x=>.row gr m ts x
def Mode.beq:Mode->Mode->Bool
 |.live,.live=>true
 |.ab,.ab=>true
 |.aA,.aA=>true
 |_,_=>false
theorem Mode.beq_eq {a b:Mode} (h:Mode.beq a b=true):a=b:=by cases a<;>cases b<;>first|rfl|cases h
def ff.flat (ln:Nat->Nat) (s:ff) (b:Option SB) (k:s.L.D->Option ρ):Option ρ:=
 match s,b with
 |.box cs,some (.box vs)=>pG (dF.flat ln) cs vs k
 |.row gr m ts,some (.row bk m' us xs)=>eH (bk==gr) (eH (Mode.beq m' m) (match vS us ts xs with
  |some y=>k y
  |none=>none))
 |_,_=>none
theorem ank {us ts:List Ty} {xs:List (Ty.DL us)} {ys:List (Ty.DL ts)} (h:vS us ts xs=some ys) (gr:Bool) (m:Mode):SB.row gr m us xs=SB.row gr m ts ys:=by
 unfold vS at h
 split at h
 ·rename_i he
  have h2:=Ty.sa he
  subst h2
  injection h with h
  rw[<-h]
 ·cases h
theorem ff.oK {ln:Nat->Nat} (s:ff) (b:Option SB) (k:s.L.D->Option ρ) (r:ρ) (h:s.flat ln b k=some r):∃x,b=some (s.un ln x)/\k x=some r:=by
 cases s with
 |box cs=>
  cases b with
  |none=>cases h
  |some b=>
   cases b<;>simp only[ff.flat] at h<;>first|(cases h;done)|skip
   obtain⟨x,e_,h_⟩:=v9 (un:=dF.un ln) (fun a b k r=>dF.oK a b k r) h;subst e_;replace h:=h_
   exact⟨x,rfl,h⟩
 |row gr m ts=>
  cases b with
  |none=>cases h
  |some b=>
   cases b<;>simp only[ff.flat] at h<;>first|(cases h;done)|skip
   have h1:=(bT h).1;replace h:=(bT h).2
   have h2:=(bT h).1;replace h:=(bT h).2
   split at h
   ·rename_i y hy
    refine⟨y,?_,h⟩
    rw[eq_of_beq h1,Mode.beq_eq h2,ank hy]
    rfl
   ·cases h
end
def lm:List (Nat×SV)->Nat->SV
 |[]=>fun _=>.one .bh
 |p::l=>aw (lm l) p.1 p.2
def jI:List (Nat×Option SB)->Nat->Option SB
 |[]=>fun _=>none
 |p::l=>aw (jI l) p.1 p.2
def CG:List (Nat×ff)->Nat->Bool
 |[]=>fun _=>false
 |p::l=>aw (CG l) p.1 true
def rL (h:Nat->Option SB) (n:Nat):Nat:=
 match h n with
 |some (.row _ _ ts xs)=>U (α:=Ty.DL ts) xs
 |_=>0
abbrev jk.eL (sh:jk):LT:=LL (fun p:Nat×iP=>p.2.L) sh.env
abbrev jk.hL (sh:jk):LT:=LL (fun p:Nat×ff=>p.2.L) sh.heap
def jk.L (sh:jk):LT:=LT.sp sh.eL sh.hL
def Li (ln:Nat->Nat) (l:List (Nat×iP)) (x:(LL (fun p:Nat×iP=>p.2.L) l).D):List (Nat×SV):=
 pk (L:=fun p:Nat×iP=>p.2.L) (fun p y=>(p.1,p.2.un ln y)) l x
def zB (ln:Nat->Nat) (l:List (Nat×ff)) (x:(LL (fun p:Nat×ff=>p.2.L) l).D):List (Nat×Option SB):=
 pk (L:=fun p:Nat×ff=>p.2.L) (fun p y=>(p.1,some (p.2.un ln y))) l x
def tu:(l:List (Nat×ff))->(LL (fun p:Nat×ff=>p.2.L) l).D->Nat->Nat
 |[],_=>fun _=>0
 |(n,.box cs)::l,x=>aw (tu l (LT.tJ _ _ x).2) n 0
 |(n,.row gr m ts)::l,x=>aw (tu l (LT.tJ (LT.ty (.list ts)) _ x).2) n (U (α:=Ty.DL ts) (LT.tJ (LT.ty (.list ts)) _ x).1)
theorem Qo (ln:Nat->Nat):∀(l:List (Nat×ff)) (x:(LL (fun p:Nat×ff=>p.2.L) l).D),tu l x=rL (jI (zB ln l x))
 |[],_=>rfl
 |(n,.box cs)::l,x=>by
  funext m
  simp only[tu,zB,pk,jI,rL]
  by_cases hm:m=n
  ·subst hm;simp only[bA];rfl
  ·simp only[bZ _ _ _ _ hm]
   exact congrFun (Qo ln l _) m
 |(n,.row gr mo ts)::l,x=>by
  funext m
  simp only[tu,zB,pk,jI,rL]
  by_cases hm:m=n
  ·subst hm;simp only[bA];rfl
  ·simp only[bZ _ _ _ _ hm]
   exact congrFun (Qo ln l _) m
def jk.un (sh:jk) (x:sh.L.D):ah:=
 {env:=lm (Li (tu sh.heap (LT.tJ sh.eL sh.hL x).2) sh.env (LT.tJ sh.eL sh.hL x).1)
  h:=jI (zB (tu sh.heap (LT.tJ sh.eL sh.hL x).2) sh.heap (LT.tJ sh.eL sh.hL x).2)
  used:=fun n=>Nat.ble aH n||CG sh.heap n}
def pJ (n:Nat):List (Nat×ff)->Bool
 |[]=>false
 |p::l=>match Nat.beq n p.1 with
  |true=>true
  |false=>pJ n l
section
variable {ρ:Type}
def Xg (ln:Nat->Nat) (p:Nat×iP) (v:Nat×SV) (k:p.2.L.D->Option ρ):Option ρ:=cF v.1 p.1 (p.2.flat ln v.2 k)
def Xh (ln:Nat->Nat) (p:Nat×ff) (b:Nat×Option SB) (k:p.2.L.D->Option ρ):Option ρ:=cF b.1 p.1 (p.2.flat ln b.2 k)
def HL (σ:ah) (hp:List (Nat×ff)):List Nat->Bool
 |[]=>true
 |n::kh=>(match pJ n hp with|true=>σ.used n|false=>(match σ.used n with|true=>Nat.ble aH n|false=> !(Nat.ble aH n))&&(σ.h n).isNone)&&HL σ hp kh
def Hu (kh:List Nat):List (Nat×ff)->Bool
 |[]=>true
 |p::l=>kh.contains p.1&&Hu kh l
def jk.flat (sh:jk) (kh:List Nat) (σ:ah) (k:sh.L.D->Option ρ):Option ρ:=
 eH (HL σ sh.heap kh&&Hu kh sh.heap)
  (pG (Xg (rL σ.h)) sh.env (sh.env.map fun p=>(p.1,σ.env p.1)) fun xe=>
   pG (Xh (rL σ.h)) sh.heap (sh.heap.map fun p=>(p.1,σ.h p.1)) fun xh=>k (LT.Cs sh.eL sh.hL xe xh))
end
theorem adW (l:List (Nat×iP)) (f:Nat->SV) (hf:∀s,s∉l.map (·.1)->f s=.one .bh):lm (l.map fun p=>(p.1,f p.1))=f:=by
 have:∀(l:List (Nat×iP)) s,lm (l.map fun p=>(p.1,f p.1)) s=if s∈l.map (·.1) then f s else .one .bh:=by
  intro l s
  induction l with
  |nil=>rfl
  |cons p l ih=>
   simp only[List.map_cons,lm,jg,ih,List.mem_cons]
   by_cases h:s=p.1
   ·subst h;simp
   ·by_cases h2:s∈l.map (·.1)
    ·rw[if_neg h,if_pos h2,if_pos (Or.inr h2)]
    ·rw[if_neg h,if_neg h2,if_neg (fun e=>e.elim h h2)]
 funext s
 rw[this]
 split
 ·rfl
 ·rename_i h;exact(hf s h).symm
theorem afY (l:List (Nat×ff)) (f:Nat->Option SB) (hf:∀s,s∉l.map (·.1)->f s=none):jI (l.map fun p=>(p.1,f p.1))=f:=by
 have:∀(l:List (Nat×ff)) s,jI (l.map fun p=>(p.1,f p.1)) s=if s∈l.map (·.1) then f s else none:=by
  intro l s
  induction l with
  |nil=>rfl
  |cons p l ih=>
   simp only[List.map_cons,jI,jg,ih,List.mem_cons]
   by_cases h:s=p.1
   ·subst h;simp
   ·by_cases h2:s∈l.map (·.1)
    ·rw[if_neg h,if_pos h2,if_pos (Or.inr h2)]
    ·rw[if_neg h,if_neg h2,if_neg (fun e=>e.elim h h2)]
 funext s
 rw[this]
 split
 ·rfl
 ·rename_i h;exact(hf s h).symm
theorem XK (n:Nat) (l:List (Nat×ff)):pJ n l=true↔n∈l.map (·.1):=by
  induction l with
  |nil=>simp[pJ]
  |cons p l ih=>
   simp only[pJ,List.map_cons,List.mem_cons]
   cases h:Nat.beq n p.1 with
   |true=>simp[Nat.eq_of_beq_eq_true h]
   |false=>simp only[ih];constructor
           · exact .inr
           · rintro(rfl|h2)
             · rw[Nat.beq_refl] at h;cases h
             · exact h2
theorem aoG (n:Nat) (l:List (Nat×ff)):CG l n=pJ n l:=by
 induction l with
 |nil=>rfl
 |cons p l ih=>
  simp only[CG,pJ,jg,ih]
  by_cases h:n=p.1
  ·subst h;simp[Nat.beq_refl]
  ·have:Nat.beq n p.1=false:=by
    cases hb:Nat.beq n p.1 with
    |true=>exact absurd (Nat.eq_of_beq_eq_true hb) h
    |false=>rfl
   simp[h,this]
theorem Mq {σ:ah} {hp:List (Nat×ff)}:∀{kh:List Nat},HL σ hp kh=true->∀n∈kh,σ.used n=(Nat.ble aH n||pJ n hp)/\(pJ n hp=false->σ.h n=none)
 |[],_,n,hn=>by cases hn
 |m::kh,h,n,hn=>by
  simp only[HL,Bool.and_eq_true] at h
  rcases List.mem_cons.1 hn with e_|hn
  ·subst e_
   cases hh:pJ n hp with
   |true=>
    rw[hh] at h
    have h1:σ.used n=true:=h.1
    exact⟨by rw[h1,Bool.or_true],fun e=>by cases e⟩
   |false=>
    rw[hh] at h
    simp only[Bool.and_eq_true,Option.isNone_iff_eq_none] at h
    refine⟨?_,fun _=>h.1.2⟩
    have h1:=h.1.1
    rw[Bool.or_false]
    cases hu:σ.used n with
    |true=>rw[hu] at h1;exact h1.symm
    |false=>rw[hu] at h1;simpa using h1.symm
  ·exact Mq h.2 n hn
theorem VD {kh:List Nat}:∀{l:List (Nat×ff)},Hu kh l=true->∀n∈l.map (·.1),n∈kh
 |[],_,n,hn=>by cases hn
 |p::l,h,n,hn=>by
  simp only[Hu,Bool.and_eq_true] at h
  simp only[List.map_cons,List.mem_cons] at hn
  rcases hn with rfl|hn
  ·simpa using h.1
  ·exact VD h.2 n hn
theorem jk.oK {ρ:Type} {sh:jk} {kh:List Nat} {σ:ah} {k:sh.L.D->Option ρ} {r:ρ} (h:sh.flat kh σ k=some r)
  (he:∀s,s∉sh.ke->σ.env s=.one .bh) (hh:∀n,n∉kh->σ.h n=none/\σ.used n=Nat.ble aH n):∃x,σ=sh.un x/\k x=some r:=by
 unfold jk.flat at h
 have hc:=(bT h).1;replace h:=(bT h).2
 simp only[Bool.and_eq_true] at hc
 obtain⟨xe,e1,h⟩:=v9 (L:=fun p:Nat×iP=>p.2.L) (un:=fun p y=>(p.1,p.2.un (rL σ.h) y)) (fun a b k r h=>by
  unfold Xg at h
  obtain⟨h1,h⟩:=bc h
  obtain⟨x,h2,h⟩:=iP.oK _ _ _ _ h
  exact⟨x,Prod.ext h1 h2,h⟩) h
 obtain⟨xh,e2,h⟩:=v9 (L:=fun p:Nat×ff=>p.2.L) (un:=fun p y=>(p.1,some (p.2.un (rL σ.h) y))) (fun a b k r h=>by
  unfold Xh at h
  obtain⟨h1,h⟩:=bc h
  obtain⟨x,h2,h⟩:=ff.oK _ _ _ _ h
  exact⟨x,Prod.ext h1 h2,h⟩) h
 have yD:σ.env=lm (Li (rL σ.h) sh.env xe):=by
  unfold Li
  rw[<-e1]
  exact(adW sh.env σ.env he).symm
 have AE:σ.h=jI (zB (rL σ.h) sh.heap xh):=by
  unfold zB
  rw[<-e2]
  refine(afY sh.heap σ.h fun n hn=>?_).symm
  by_cases hk:n∈kh
  ·refine(Mq hc.1 n hk).2 ?_
   cases hb:pJ n sh.heap with
   |true=>exact absurd ((XK n sh.heap).1 hb) hn
   |false=>rfl
  ·exact(hh n hk).1
 have aga:tu sh.heap xh=rL σ.h:=by
  rw[Qo (rL σ.h),<-AE]
 have agB:σ.used=fun n=>Nat.ble aH n||CG sh.heap n:=by
  funext n
  rw[aoG]
  by_cases hk:n∈kh
  ·exact(Mq hc.1 n hk).1
  ·rw[(hh n hk).2]
   cases hb:pJ n sh.heap with
   |true=>exact absurd (VD hc.2 n ((XK n sh.heap).1 hb)) hk
   |false=>rw[Bool.or_false]
 refine⟨LT.Cs sh.eL sh.hL xe xh,?_,h⟩
 have:sh.un (LT.Cs sh.eL sh.hL xe xh)={env:=lm (Li (tu sh.heap xh) sh.env xe),h:=jI (zB (tu sh.heap xh) sh.heap xh),used:=fun n=>Nat.ble aH n||CG sh.heap n}:=by
  simp only[jk.un,LT.abR]
 rw[this,aga,<-yD,<-AE,<-agB]
end Go.Am
