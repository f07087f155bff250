/- S5: shapes of states; loop heads of the typed evaluator. No condition. -/
import Derived.Test.YtbgmbplglejidaaS4
set_option linter.unusedVariables false
namespace Go.Am
inductive LT where
 |unit
 |ty (t:Ty)
 |dl (ts:List Ty)
 |nat
 |pair (a b:LT)
def LT.D:LT->Type
 |.unit=>Unit
 |.ty t=>t.D
 |.dl ts=>Ty.DL ts
 |.nat=>Nat
 |.pair a b=>a.D×b.D
def LT.Ck (a:LT):LT->LT
 |.unit=>a
 |.ty t=>.pair a (.ty t)
 |.dl ts=>.pair a (.dl ts)
 |.nat=>.pair a .nat
 |.pair x y=>.pair a (.pair x y)
def LT.sp:LT->LT->LT
 |.unit,b=>b
 |.ty t,b=>LT.Ck (.ty t) b
 |.dl ts,b=>LT.Ck (.dl ts) b
 |.nat,b=>LT.Ck .nat b
 |.pair x y,b=>LT.Ck (.pair x y) b
def LT.Fi (a:LT):(b:LT)->(LT.Ck a b).D->a.D×b.D
 |.unit,x=>(x,())
 |.ty _,x=>x
 |.dl _,x=>x
 |.nat,x=>x
 |.pair _ _,x=>x
def LT.tt:(a b:LT)->(LT.sp a b).D->a.D×b.D
 |.unit,b,x=>((),x)
 |.ty t,b,x=>LT.Fi (.ty t) b x
 |.dl ts,b,x=>LT.Fi (.dl ts) b x
 |.nat,b,x=>LT.Fi .nat b x
 |.pair x y,b,z=>LT.Fi (.pair x y) b z
def LT.Fh (a:LT):(b:LT)->a.D->b.D->(LT.Ck a b).D
 |.unit,x,_=>x
 |.ty _,x,y=>(x,y)
 |.dl _,x,y=>(x,y)
 |.nat,x,y=>(x,y)
 |.pair _ _,x,y=>(x,y)
def LT.Cl:(a b:LT)->a.D->b.D->(LT.sp a b).D
 |.unit,b,_,y=>y
 |.ty t,b,x,y=>LT.Fh (.ty t) b x y
 |.dl ts,b,x,y=>LT.Fh (.dl ts) b x y
 |.nat,b,x,y=>LT.Fh .nat b x y
 |.pair u v,b,x,y=>LT.Fh (.pair u v) b x y
theorem LT.apV (a b:LT) (x:a.D) (y:b.D):LT.Fi a b (LT.Fh a b x y)=(x,y):=by cases b<;>rfl
theorem LT.ac9 (a b:LT) (x:a.D) (y:b.D):LT.tt a b (LT.Cl a b x y)=(x,y):=by
 cases a with
 |unit=>rfl
 |_=>exact LT.apV _ b x y
section
variable {α β:Type} {ρ:Type} {L:α->LT}
def LL (L:α->LT):List α->LT
 |[]=>.unit
 |a::l=>LT.sp (L a) (LL L l)
def pF (un:(a:α)->(L a).D->β):(l:List α)->(LL L l).D->List β
 |[],_=>[]
 |a::l,x=>un a (LT.tt (L a) (LL L l) x).1::pF un l (LT.tt (L a) (LL L l) x).2
def pV (flat:(a:α)->β->((L a).D->Option ρ)->Option ρ):(l:List α)->List β->((LL L l).D->Option ρ)->Option ρ
 |[],[],k=>k ()
 |a::l,b::bs,k=>flat a b fun x=>pV flat l bs fun y=>k (LT.Cl (L a) (LL L l) x y)
 |_,_,_=>none
theorem vS {flat:(a:α)->β->((L a).D->Option ρ)->Option ρ} {un:(a:α)->(L a).D->β}
  (hf:∀a b k r,flat a b k=some r->∃x,b=un a x/\k x=some r):∀{l:List α} {bs:List β} {k:(LL L l).D->Option ρ} {r:ρ},pV flat l bs k=some r->
  ∃x,bs=pF un l x/\k x=some r
 |[],[],k,r,h=>⟨(),rfl,h⟩
 |a::l,b::bs,k,r,h=>by
  simp only[pV] at h
  obtain⟨x,rfl,h2⟩:=hf _ _ _ _ h
  obtain⟨y,rfl,h4⟩:=vS hf h2
  exact⟨LT.Cl (L a) (LL L l) x y,by simp only[pF,LT.ac9],h4⟩
 |[],_::_,k,r,h=>by simp[pV] at h
 |_::_,[],k,r,h=>by simp[pV] at h
end
inductive ii where
 |v (t:Ty)
 |nil (ts:List Ty)
 |EP (n off:Nat)
 |ptr (n sz off:Nat)
 |cj (ts:List Ty) (off:Nat)
 |full (n sz:Nat)
 |sl (n sz:Nat)
 |bx (n aD off sz:Nat)
 |bn
inductive dW where
 |c (s:ii)
 |fn (f:FuncId) (cf:List ii)
inductive iS where
 |one (c:dW)
 |agg (cs:List dW)
 |bo (xs:List (Bool×List dW))
inductive ft where
 |box (cs:List dW)
 |row (gr:Bool) (m:Mode) (ts:List Ty)
structure jf where
 env:List (Nat×iS)
 heap:List (Nat×ft)
abbrev jf.ke (sh:jf):List Nat:=sh.env.map (·.1)
def ii.L:ii->LT
 |.v t=>.ty t
 |.nil _=>.unit
 |.EP _ _=>.unit
 |.ptr _ _ _=>.nat
 |.cj ts _=>.dl ts
 |.full _ _=>.unit
 |.sl _ _=>.pair .nat .nat
 |.bx _ _ _ _=>.pair .nat .nat
 |.bn=>.unit
def ii.un (ln:Nat->Nat):(s:ii)->s.L.D->SC
 |.v t,x=>.v t x
 |.nil ts,_=>.nil ts
 |.EP n off,_=>.ptr n 0 0 off
 |.ptr n sz off,k=>.ptr n k sz off
 |.cj ts off,x=>.cj ts x off
 |.full n sz,_=>.sl n sz 0 (ln n)
 |.sl n sz,x=>.sl n sz x.1 x.2
 |.bx n aD off sz,x=>.bx n x.1 aD off sz x.2
 |.bn,_=>.bn
section
variable {ρ:Type}
def ii.flat (ln:Nat->Nat) (s:ii) (c:SC) (k:s.L.D->Option ρ):Option ρ:=
 match s,c with
 |.v t,.v u x=>match Ty.cast u t x with
  |some y=>k y
  |none=>none
 |.nil ts,.nil us=>eP (Ty.q9 us ts) (k ())
 |.EP n off,.ptr n' kk sz za=>cG n' n (cG kk 0 (cG sz 0 (cG za off (k ()))))
 |.ptr n sz off,.ptr n' kk aL za=>cG n' n (cG aL sz (cG za off (k kk)))
 |.cj ts off,.cj us x za=>cG za off (match Ty.Ms us ts x with
  |some y=>k y
  |none=>none)
 |.full n sz,.sl n' aL lo len=>cG n' n (cG aL sz ((ae lo len (ln n)).U fun _=>k ()))
 |.sl n sz,.sl n' aL lo len=>cG n' n (cG aL sz (k (lo,len)))
 |.bx n aD off sz,.bx n' kk ao9 za aL len=>cG n' n (cG ao9 aD (cG za off (cG aL sz (k (kk,len)))))
 |.bn,.bn=>k ()
 |_,_=>none
theorem Ty.cast_eq {t u:Ty} {x:t.D} {y:u.D} (h:Ty.cast t u x=some y):SC.v t x=SC.v u y:=by
 unfold Ty.cast at h
 split at h
 ·rename_i he
  have:=Ty.beq_eq he
  subst this
  injection h with h
  rw[<-h]
 ·cases h
theorem Ty.aeK {ts us:List Ty} {x:Ty.DL ts} {y:Ty.DL us} (h:Ty.Ms ts us x=some y) (off:Nat):SC.cj ts x off=SC.cj us y off:=by
 unfold Ty.Ms at h
 split at h
 ·rename_i he
  have:=Ty.sx he
  subst this
  injection h with h
  rw[<-h]
 ·cases h
theorem ii.oL {ln:Nat->Nat} (s:ii) (c:SC) (k:s.L.D->Option ρ) (r:ρ) (h:s.flat ln c k=some r):∃x,c=s.un ln x/\k x=some r:=by
 cases s with
 |v t=>
  cases c<;>simp only[ii.flat] at h<;>first|(cases h;done)|skip
  split at h
  ·rename_i y hy
   exact⟨y,Ty.cast_eq hy,h⟩
  ·cases h
 |nil ts=>
  cases c<;>simp only[ii.flat] at h<;>first|(cases h;done)|skip
  have h1:=(bZ h).1;replace h:=(bZ h).2
  exact⟨(),by rw[Ty.sx h1];rfl,h⟩
 |EP n off=>
  cases c<;>simp only[ii.flat] at h<;>first|(cases h;done)|skip
  have br:=(bc h).1;replace h:=(bc h).2;subst br
  have br:=(bc h).1;replace h:=(bc h).2;subst br
  have br:=(bc h).1;replace h:=(bc h).2;subst br
  have br:=(bc h).1;replace h:=(bc h).2;subst br
  exact⟨(),rfl,h⟩
 |ptr n sz off=>
  cases c<;>simp only[ii.flat] at h<;>first|(cases h;done)|skip
  have br:=(bc h).1;replace h:=(bc h).2;subst br
  have br:=(bc h).1;replace h:=(bc h).2;subst br
  have br:=(bc h).1;replace h:=(bc h).2;subst br
  exact⟨_,rfl,h⟩
 |cj ts off=>
  cases c<;>simp only[ii.flat] at h<;>first|(cases h;done)|skip
  have br:=(bc h).1;replace h:=(bc h).2;subst br
  split at h
  ·rename_i y hy
   exact⟨y,Ty.aeK hy _,h⟩
  ·cases h
 |full n sz=>
  cases c<;>simp only[ii.flat] at h<;>first|(cases h;done)|skip
  have br:=(bc h).1;replace h:=(bc h).2;subst br
  have br:=(bc h).1;replace h:=(bc h).2;subst br
  rw[eH] at h
  obtain⟨_,hf,h⟩:=h
  unfold ae at hf
  split at hf
  ·rename_i hc
   obtain⟨rfl,rfl⟩:=hc
   exact⟨(),rfl,h⟩
  ·cases hf
 |sl n sz=>
  cases c<;>simp only[ii.flat] at h<;>first|(cases h;done)|skip
  have br:=(bc h).1;replace h:=(bc h).2;subst br
  have br:=(bc h).1;replace h:=(bc h).2;subst br
  exact⟨_,rfl,h⟩
 |bx n aD off sz=>
  cases c<;>simp only[ii.flat] at h<;>first|(cases h;done)|skip
  have br:=(bc h).1;replace h:=(bc h).2;subst br
  have br:=(bc h).1;replace h:=(bc h).2;subst br
  have br:=(bc h).1;replace h:=(bc h).2;subst br
  have br:=(bc h).1;replace h:=(bc h).2;subst br
  exact⟨_,rfl,h⟩
 |bn=>
  cases c<;>simp only[ii.flat] at h<;>first|(cases h;done)|skip
  exact⟨(),rfl,h⟩
def dW.L:dW->LT
 |.c s=>s.L
 |.fn _ cf=>LL ii.L cf
def dW.un (ln:Nat->Nat):(s:dW)->s.L.D->SC
 |.c s,x=>s.un ln x
 |.fn f cf,x=>.fn f (pF (ii.un ln) cf x)
def dW.flat (ln:Nat->Nat) (s:dW) (c:SC) (k:s.L.D->Option ρ):Option ρ:=
 match s,c with
 |.c s,c=>s.flat ln c k
 |.fn f cf,.fn f' cs=>cG f' f (pV (ii.flat ln) cf cs k)
 |_,_=>none
theorem dW.oL {ln:Nat->Nat} (s:dW) (c:SC) (k:s.L.D->Option ρ) (r:ρ) (h:s.flat ln c k=some r):∃x,c=s.un ln x/\k x=some r:=by
 cases s with
 |c s=>exact s.oL c k r (by cases c<;>exact h)
 |fn f cf=>
  cases c<;>simp only[dW.flat] at h<;>first|(cases h;done)|skip
  have br:=(bc h).1;replace h:=(bc h).2;subst br
  obtain⟨x,e_,h_⟩:=vS (un:=ii.un ln) (fun a b k r=>ii.oL a b k r) h;subst e_;replace h:=h_
  exact⟨x,rfl,h⟩
def iS.L:iS->LT
 |.one c=>c.L
 |.agg cs=>LL dW.L cs
 |.bo xs=>LL (fun x:Bool×List dW=>LL dW.L x.2) xs
def iS.un (ln:Nat->Nat):(s:iS)->s.L.D->SV
 |.one c,x=>.one (c.un ln x)
 |.agg cs,x=>.agg (pF (dW.un ln) cs x)
 |.bo xs,x=>.bo (pF (L:=fun x:Bool×List dW=>LL dW.L x.2) (fun a y=>(a.1,pF (dW.un ln) a.2 y)) xs x)
def Y1 (ln:Nat->Nat) (a:Bool×List dW) (b:Bool×List SC) (k:(LL dW.L a.2).D->Option ρ):Option ρ:=
 eP (a.1==b.1) (pV (dW.flat ln) a.2 b.2 k)
def iS.flat (ln:Nat->Nat) (s:iS) (v:SV) (k:s.L.D->Option ρ):Option ρ:=
 match s,v with
 |.one c,.one v=>c.flat ln v k
 |.agg cs,.agg vs=>pV (dW.flat ln) cs vs k
 |.bo xs,.bo vs=>pV (L:=fun x:Bool×List dW=>LL dW.L x.2) (Y1 ln) xs vs k
 |_,_=>none
theorem iS.oL {ln:Nat->Nat} (s:iS) (v:SV) (k:s.L.D->Option ρ) (r:ρ) (h:s.flat ln v k=some r):∃x,v=s.un ln x/\k x=some r:=by
 cases s with
 |one c=>
  cases v<;>simp only[iS.flat] at h<;>first|(cases h;done)|skip
  obtain⟨x,e_,h_⟩:=dW.oL _ _ _ _ h;subst e_;replace h:=h_
  exact⟨x,rfl,h⟩
 |agg cs=>
  cases v<;>simp only[iS.flat] at h<;>first|(cases h;done)|skip
  obtain⟨x,e_,h_⟩:=vS (un:=dW.un ln) (fun a b k r=>dW.oL a b k r) h;subst e_;replace h:=h_
  exact⟨x,rfl,h⟩
 |bo xs=>
  cases v<;>simp only[iS.flat] at h<;>first|(cases h;done)|skip
  obtain⟨x,e_,h_⟩:=vS (L:=fun x:Bool×List dW=>LL dW.L x.2) (un:=fun a y=>(a.1,pF (dW.un ln) a.2 y)) (fun a b k r h=>by
   unfold Y1 at h
   have h1:=(bZ h).1;replace h:=(bZ h).2
   obtain⟨x,h2,h⟩:=vS (un:=dW.un ln) (fun a b k r=>dW.oL a b k r) h
   exact⟨x,Prod.ext (eq_of_beq h1).symm h2,h⟩) h
  subst e_
  exact⟨x,rfl,h_⟩
def ft.L:ft->LT
 |.box cs=>LL dW.L cs
 |.row _ _ ts=>.ty (.list ts)
def ft.un (ln:Nat->Nat):(s:ft)->s.L.D->SB
 |.box cs,x=>.box (pF (dW.un ln) cs x)
 |.row gr m ts,x=>.row gr m ts x
def Mode.beq:Mode->Mode->Bool
 |.live,.live=>true
 |.ab,.ab=>true
 |.aO,.aO=>true
 |_,_=>false
theorem Mode.beq_eq {a b:Mode} (h:Mode.beq a b=true):a=b:=by cases a<;>cases b<;>first|rfl|cases h
def ft.flat (ln:Nat->Nat) (s:ft) (b:Option SB) (k:s.L.D->Option ρ):Option ρ:=
 match s,b with
 |.box cs,some (.box vs)=>pV (dW.flat ln) cs vs k
 |.row gr m ts,some (.row bj m' us xs)=>eP (bj==gr) (eP (Mode.beq m' m) (match vK us ts xs with
  |some y=>k y
  |none=>none))
 |_,_=>none
theorem ao5 {us ts:List Ty} {xs:List (Ty.DL us)} {ys:List (Ty.DL ts)} (h:vK us ts xs=some ys) (gr:Bool) (m:Mode):SB.row gr m us xs=SB.row gr m ts ys:=by
 unfold vK at h
 split at h
 ·rename_i he
  have h2:=Ty.sx he
  subst h2
  injection h with h
  rw[<-h]
 ·cases h
theorem ft.oL {ln:Nat->Nat} (s:ft) (b:Option SB) (k:s.L.D->Option ρ) (r:ρ) (h:s.flat ln b k=some r):∃x,b=some (s.un ln x)/\k x=some r:=by
 cases s with
 |box cs=>
  cases b with
  |none=>cases h
  |some b=>
   cases b<;>simp only[ft.flat] at h<;>first|(cases h;done)|skip
   obtain⟨x,e_,h_⟩:=vS (un:=dW.un ln) (fun a b k r=>dW.oL a b k r) h;subst e_;replace h:=h_
   exact⟨x,rfl,h⟩
 |row gr m ts=>
  cases b with
  |none=>cases h
  |some b=>
   cases b<;>simp only[ft.flat] at h<;>first|(cases h;done)|skip
   have h1:=(bZ h).1;replace h:=(bZ h).2
   have h2:=(bZ h).1;replace h:=(bZ h).2
   split at h
   ·rename_i y hy
    refine⟨y,?_,h⟩
    rw[eq_of_beq h1,Mode.beq_eq h2,ao5 hy]
    rfl
   ·cases h
end
def lE:List (Nat×SV)->Nat->SV
 |[]=>fun _=>.one .bn
 |p::l=>ax (lE l) p.1 p.2
def jN:List (Nat×Option SB)->Nat->Option SB
 |[]=>fun _=>none
 |p::l=>ax (jN l) p.1 p.2
def Cy:List (Nat×ft)->Nat->Bool
 |[]=>fun _=>false
 |p::l=>ax (Cy l) p.1 true
def rU (h:Nat->Option SB) (n:Nat):Nat:=
 match h n with
 |some (.row _ _ ts xs)=>J (α:=Ty.DL ts) xs
 |_=>0
abbrev jf.eL (sh:jf):LT:=LL (fun p:Nat×iS=>p.2.L) sh.env
abbrev jf.hL (sh:jf):LT:=LL (fun p:Nat×ft=>p.2.L) sh.heap
def jf.L (sh:jf):LT:=LT.sp sh.eL sh.hL
def KI (ln:Nat->Nat) (l:List (Nat×iS)) (x:(LL (fun p:Nat×iS=>p.2.L) l).D):List (Nat×SV):=
 pF (L:=fun p:Nat×iS=>p.2.L) (fun p y=>(p.1,p.2.un ln y)) l x
def zx (ln:Nat->Nat) (l:List (Nat×ft)) (x:(LL (fun p:Nat×ft=>p.2.L) l).D):List (Nat×Option SB):=
 pF (L:=fun p:Nat×ft=>p.2.L) (fun p y=>(p.1,some (p.2.un ln y))) l x
def ti:(l:List (Nat×ft))->(LL (fun p:Nat×ft=>p.2.L) l).D->Nat->Nat
 |[],_=>fun _=>0
 |(n,.box cs)::l,x=>ax (ti l (LT.tt _ _ x).2) n 0
 |(n,.row gr m ts)::l,x=>ax (ti l (LT.tt (LT.ty (.list ts)) _ x).2) n (J (α:=Ty.DL ts) (LT.tt (LT.ty (.list ts)) _ x).1)
theorem Qm (ln:Nat->Nat):∀(l:List (Nat×ft)) (x:(LL (fun p:Nat×ft=>p.2.L) l).D),ti l x=rU (jN (zx ln l x))
 |[],_=>rfl
 |(n,.box cs)::l,x=>by
  funext m
  simp only[ti,zx,pF,jN,rU]
  by_cases hm:m=n
  ·subst hm;simp only[bE];rfl
  ·simp only[cb _ _ _ _ hm]
   exact congrFun (Qm ln l _) m
 |(n,.row gr mo ts)::l,x=>by
  funext m
  simp only[ti,zx,pF,jN,rU]
  by_cases hm:m=n
  ·subst hm;simp only[bE];rfl
  ·simp only[cb _ _ _ _ hm]
   exact congrFun (Qm ln l _) m
def jf.un (sh:jf) (x:sh.L.D):af:=
 {env:=lE (KI (ti sh.heap (LT.tt sh.eL sh.hL x).2) sh.env (LT.tt sh.eL sh.hL x).1)
  h:=jN (zx (ti sh.heap (LT.tt sh.eL sh.hL x).2) sh.heap (LT.tt sh.eL sh.hL x).2)
  used:=fun n=>Nat.ble aM n||Cy sh.heap n}
def p9 (n:Nat):List (Nat×ft)->Bool
 |[]=>false
 |p::l=>match Nat.beq n p.1 with
  |true=>true
  |false=>p9 n l
section
variable {ρ:Type}
def YY (ln:Nat->Nat) (p:Nat×iS) (v:Nat×SV) (k:p.2.L.D->Option ρ):Option ρ:=cG v.1 p.1 (p.2.flat ln v.2 k)
def YZ (ln:Nat->Nat) (p:Nat×ft) (b:Nat×Option SB) (k:p.2.L.D->Option ρ):Option ρ:=cG b.1 p.1 (p.2.flat ln b.2 k)
def HW (σ:af) (hp:List (Nat×ft)):List Nat->Bool
 |[]=>true
 |n::kh=>(match p9 n hp with|true=>σ.used n|false=>(match σ.used n with|true=>Nat.ble aM n|false=> !(Nat.ble aM n))&&(σ.h n).isNone)&&HW σ hp kh
def HB (kh:List Nat):List (Nat×ft)->Bool
 |[]=>true
 |p::l=>kh.contains p.1&&HB kh l
def jf.flat (sh:jf) (kh:List Nat) (σ:af) (k:sh.L.D->Option ρ):Option ρ:=
 eP (HW σ sh.heap kh&&HB kh sh.heap)
  (pV (YY (rU σ.h)) sh.env (sh.env.map fun p=>(p.1,σ.env p.1)) fun xe=>
   pV (YZ (rU σ.h)) sh.heap (sh.heap.map fun p=>(p.1,σ.h p.1)) fun xh=>k (LT.Cl sh.eL sh.hL xe xh))
end
theorem afp (l:List (Nat×iS)) (f:Nat->SV) (hf:∀s,s∉l.map (·.1)->f s=.one .bn):lE (l.map fun p=>(p.1,f p.1))=f:=by
 have:∀(l:List (Nat×iS)) s,lE (l.map fun p=>(p.1,f p.1)) s=if s∈l.map (·.1) then f s else .one .bn:=by
  intro l s
  induction l with
  |nil=>rfl
  |cons p l ih=>
   simp only[List.map_cons,lE,iO,ih,List.mem_cons]
   by_cases h:s=p.1
   ·subst h;simp
   ·by_cases h2:s∈l.map (·.1)
    ·rw[if_neg h,if_pos h2,if_pos (Or.inr h2)]
    ·rw[if_neg h,if_neg h2,if_neg (fun e=>e.elim h h2)]
 funext s
 rw[this]
 split
 ·rfl
 ·rename_i h;exact(hf s h).symm
theorem ahS (l:List (Nat×ft)) (f:Nat->Option SB) (hf:∀s,s∉l.map (·.1)->f s=none):jN (l.map fun p=>(p.1,f p.1))=f:=by
 have:∀(l:List (Nat×ft)) s,jN (l.map fun p=>(p.1,f p.1)) s=if s∈l.map (·.1) then f s else none:=by
  intro l s
  induction l with
  |nil=>rfl
  |cons p l ih=>
   simp only[List.map_cons,jN,iO,ih,List.mem_cons]
   by_cases h:s=p.1
   ·subst h;simp
   ·by_cases h2:s∈l.map (·.1)
    ·rw[if_neg h,if_pos h2,if_pos (Or.inr h2)]
    ·rw[if_neg h,if_neg h2,if_neg (fun e=>e.elim h h2)]
 funext s
 rw[this]
 split
 ·rfl
 ·rename_i h;exact(hf s h).symm
theorem Zq (n:Nat) (l:List (Nat×ft)):p9 n l=true↔n∈l.map (·.1):=by
  induction l with
  |nil=>simp[p9]
  |cons p l ih=>
   simp only[p9,List.map_cons,List.mem_cons]
   cases h:Nat.beq n p.1 with
   |true=>simp[Nat.eq_of_beq_eq_true h]
   |false=>simp only[ih];constructor
           · exact .inr
           · rintro(rfl|h2)
             · rw[Nat.beq_refl] at h;cases h
             · exact h2
theorem aqy (n:Nat) (l:List (Nat×ft)):Cy l n=p9 n l:=by
 induction l with
 |nil=>rfl
 |cons p l ih=>
  simp only[Cy,p9,iO,ih]
  by_cases h:n=p.1
  ·subst h;simp[Nat.beq_refl]
  ·have:Nat.beq n p.1=false:=by
    cases hb:Nat.beq n p.1 with
    |true=>exact absurd (Nat.eq_of_beq_eq_true hb) h
    |false=>rfl
   simp[h,this]
theorem Mz {σ:af} {hp:List (Nat×ft)}:∀{kh:List Nat},HW σ hp kh=true->∀n∈kh,σ.used n=(Nat.ble aM n||p9 n hp)/\(p9 n hp=false->σ.h n=none)
 |[],_,n,hn=>by cases hn
 |m::kh,h,n,hn=>by
  simp only[HW,Bool.and_eq_true] at h
  rcases List.mem_cons.1 hn with e_|hn
  ·subst e_
   cases hh:p9 n hp with
   |true=>
    rw[hh] at h
    have h1:σ.used n=true:=h.1
    exact⟨by rw[h1,Bool.or_true],fun e=>by cases e⟩
   |false=>
    rw[hh] at h
    simp only[Bool.and_eq_true,Option.isNone_iff_eq_none] at h
    refine⟨?_,fun _=>h.1.2⟩
    have h1:=h.1.1
    rw[Bool.or_false]
    cases hu:σ.used n with
    |true=>rw[hu] at h1;exact h1.symm
    |false=>rw[hu] at h1;simpa using h1.symm
  ·exact Mz h.2 n hn
theorem W4 {kh:List Nat}:∀{l:List (Nat×ft)},HB kh l=true->∀n∈l.map (·.1),n∈kh
 |[],_,n,hn=>by cases hn
 |p::l,h,n,hn=>by
  simp only[HB,Bool.and_eq_true] at h
  simp only[List.map_cons,List.mem_cons] at hn
  rcases hn with rfl|hn
  ·simpa using h.1
  ·exact W4 h.2 n hn
theorem jf.oL {ρ:Type} {sh:jf} {kh:List Nat} {σ:af} {k:sh.L.D->Option ρ} {r:ρ} (h:sh.flat kh σ k=some r)
  (he:∀s,s∉sh.ke->σ.env s=.one .bn) (hh:∀n,n∉kh->σ.h n=none/\σ.used n=Nat.ble aM n):∃x,σ=sh.un x/\k x=some r:=by
 unfold jf.flat at h
 have hc:=(bZ h).1;replace h:=(bZ h).2
 simp only[Bool.and_eq_true] at hc
 obtain⟨xe,e1,h⟩:=vS (L:=fun p:Nat×iS=>p.2.L) (un:=fun p y=>(p.1,p.2.un (rU σ.h) y)) (fun a b k r h=>by
  unfold YY at h
  obtain⟨h1,h⟩:=bc h
  obtain⟨x,h2,h⟩:=iS.oL _ _ _ _ h
  exact⟨x,Prod.ext h1 h2,h⟩) h
 obtain⟨xh,e2,h⟩:=vS (L:=fun p:Nat×ft=>p.2.L) (un:=fun p y=>(p.1,some (p.2.un (rU σ.h) y))) (fun a b k r h=>by
  unfold YZ at h
  obtain⟨h1,h⟩:=bc h
  obtain⟨x,h2,h⟩:=ft.oL _ _ _ _ h
  exact⟨x,Prod.ext h1 h2,h⟩) h
 have yr:σ.env=lE (KI (rU σ.h) sh.env xe):=by
  unfold KI
  rw[<-e1]
  exact(afp sh.env σ.env he).symm
 have AY:σ.h=jN (zx (rU σ.h) sh.heap xh):=by
  unfold zx
  rw[<-e2]
  refine(ahS sh.heap σ.h fun n hn=>?_).symm
  by_cases hk:n∈kh
  ·refine(Mz hc.1 n hk).2 ?_
   cases hb:p9 n sh.heap with
   |true=>exact absurd ((Zq n sh.heap).1 hb) hn
   |false=>rfl
  ·exact(hh n hk).1
 have ah4:ti sh.heap xh=rU σ.h:=by
  rw[Qm (rU σ.h),<-AY]
 have ais:σ.used=fun n=>Nat.ble aM n||Cy sh.heap n:=by
  funext n
  rw[aqy]
  by_cases hk:n∈kh
  ·exact(Mz hc.1 n hk).1
  ·rw[(hh n hk).2]
   cases hb:p9 n sh.heap with
   |true=>exact absurd (W4 hc.2 n ((Zq n sh.heap).1 hb)) hk
   |false=>rw[Bool.or_false]
 refine⟨LT.Cl sh.eL sh.hL xe xh,?_,h⟩
 have:sh.un (LT.Cl sh.eL sh.hL xe xh)={env:=lE (KI (ti sh.heap xh) sh.env xe),h:=jN (zx (ti sh.heap xh) sh.heap xh),used:=fun n=>Nat.ble aM n||Cy sh.heap n}:=by
  simp only[jf.un,LT.ac9]
 rw[this,ah4,<-yr,<-AY,<-ais]
end Go.Am
