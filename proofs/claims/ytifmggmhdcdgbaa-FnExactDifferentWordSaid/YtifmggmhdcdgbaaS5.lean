/- S5: shapes of states; loop heads of the typed evaluator. No condition. -/
import Derived.Test.YtifmggmhdcdgbaaS4
set_option linter.unusedVariables false
namespace Go.Am
inductive LT where
 |unit
 |ty (t:Ty)
 |dl (ts:List Ty)
 |nat
 |pair (a b:LT)
def LT.D:LT->Type
 |.unit=>Unit
 |.ty t=>t.D
 |.dl ts=>Ty.DL ts
 |.nat=>Nat
 |.pair a b=>a.D×b.D
def LT.BR (a:LT):LT->LT
 |.unit=>a
 |.ty t=>.pair a (.ty t)
 |.dl ts=>.pair a (.dl ts)
 |.nat=>.pair a .nat
 |.pair x y=>.pair a (.pair x y)
def LT.sp:LT->LT->LT
 |.unit,b=>b
 |.ty t,b=>LT.BR (.ty t) b
 |.dl ts,b=>LT.BR (.dl ts) b
 |.nat,b=>LT.BR .nat b
 |.pair x y,b=>LT.BR (.pair x y) b
def LT.ES (a:LT):(b:LT)->(LT.BR a b).D->a.D×b.D
 |.unit,x=>(x,())
 |.ty _,x=>x
 |.dl _,x=>x
 |.nat,x=>x
 |.pair _ _,x=>x
def LT.s6:(a b:LT)->(LT.sp a b).D->a.D×b.D
 |.unit,b,x=>((),x)
 |.ty t,b,x=>LT.ES (.ty t) b x
 |.dl ts,b,x=>LT.ES (.dl ts) b x
 |.nat,b,x=>LT.ES .nat b x
 |.pair x y,b,z=>LT.ES (.pair x y) b z
def LT.ER (a:LT):(b:LT)->a.D->b.D->(LT.BR a b).D
 |.unit,x,_=>x
 |.ty _,x,y=>(x,y)
 |.dl _,x,y=>(x,y)
 |.nat,x,y=>(x,y)
 |.pair _ _,x,y=>(x,y)
def LT.BS:(a b:LT)->a.D->b.D->(LT.sp a b).D
 |.unit,b,_,y=>y
 |.ty t,b,x,y=>LT.ER (.ty t) b x y
 |.dl ts,b,x,y=>LT.ER (.dl ts) b x y
 |.nat,b,x,y=>LT.ER .nat b x y
 |.pair u v,b,x,y=>LT.ER (.pair u v) b x y
theorem LT.anL (a b:LT) (x:a.D) (y:b.D):LT.ES a b (LT.ER a b x y)=(x,y):=by cases b<;>rfl
theorem LT.aa6 (a b:LT) (x:a.D) (y:b.D):LT.s6 a b (LT.BS a b x y)=(x,y):=by
 cases a with
 |unit=>rfl
 |_=>exact LT.anL _ b x y
section
variable {α β:Type} {ρ:Type} {L:α->LT}
def LL (L:α->LT):List α->LT
 |[]=>.unit
 |a::l=>LT.sp (L a) (LL L l)
def o8 (un:(a:α)->(L a).D->β):(l:List α)->(LL L l).D->List β
 |[],_=>[]
 |a::l,x=>un a (LT.s6 (L a) (LL L l) x).1::o8 un l (LT.s6 (L a) (LL L l) x).2
def pq (flat:(a:α)->β->((L a).D->Option ρ)->Option ρ):(l:List α)->List β->((LL L l).D->Option ρ)->Option ρ
 |[],[],k=>k ()
 |a::l,b::bs,k=>flat a b fun x=>pq flat l bs fun y=>k (LT.BS (L a) (LL L l) x y)
 |_,_,_=>none
theorem vr {flat:(a:α)->β->((L a).D->Option ρ)->Option ρ} {un:(a:α)->(L a).D->β}
  (hf:∀a b k r,flat a b k=some r->∃x,b=un a x/\k x=some r):∀{l:List α} {bs:List β} {k:(LL L l).D->Option ρ} {r:ρ},pq flat l bs k=some r->
  ∃x,bs=o8 un l x/\k x=some r
 |[],[],k,r,h=>⟨(),rfl,h⟩
 |a::l,b::bs,k,r,h=>by
  simp only[pq] at h
  obtain⟨x,rfl,h2⟩:=hf _ _ _ _ h
  obtain⟨y,rfl,h4⟩:=vr hf h2
  exact⟨LT.BS (L a) (LL L l) x y,by simp only[o8,LT.aa6],h4⟩
 |[],_::_,k,r,h=>by simp[pq] at h
 |_::_,[],k,r,h=>by simp[pq] at h
end
inductive gJ where
 |v (t:Ty)
 |nil (ts:List Ty)
 |Ev (n off:Nat)
 |ptr (n sz off:Nat)
 |bT (ts:List Ty) (off:Nat)
 |full (n sz:Nat)
 |sl (n sz:Nat)
 |br (n ax off sz:Nat)
 |bg
inductive du where
 |c (s:gJ)
 |fn (f:FuncId) (bR:List gJ)
inductive ij where
 |one (c:du)
 |agg (cs:List du)
 |bj (xs:List (Bool×List du))
inductive eP where
 |box (cs:List du)
 |row (gr:Bool) (m:Mode) (ts:List Ty)
structure iH where
 env:List (Nat×ij)
 heap:List (Nat×eP)
abbrev iH.ke (sh:iH):List Nat:=sh.env.map (·.1)
def gJ.L:gJ->LT
 |.v t=>.ty t
 |.nil _=>.unit
 |.Ev _ _=>.unit
 |.ptr _ _ _=>.nat
 |.bT ts _=>.dl ts
 |.full _ _=>.unit
 |.sl _ _=>.pair .nat .nat
 |.br _ _ _ _=>.pair .nat .nat
 |.bg=>.unit
def gJ.un (ln:Nat->Nat):(s:gJ)->s.L.D->SC
 |.v t,x=>.v t x
 |.nil ts,_=>.nil ts
 |.Ev n off,_=>.ptr n 0 0 off
 |.ptr n sz off,k=>.ptr n k sz off
 |.bT ts off,x=>.bT ts x off
 |.full n sz,_=>.sl n sz 0 (ln n)
 |.sl n sz,x=>.sl n sz x.1 x.2
 |.br n ax off sz,x=>.br n x.1 ax off sz x.2
 |.bg,_=>.bg
section
variable {ρ:Type}
def gJ.flat (ln:Nat->Nat) (s:gJ) (c:SC) (k:s.L.D->Option ρ):Option ρ:=
 match s,c with
 |.v t,.v u x=>match Ty.cast u t x with
  |some y=>k y
  |none=>none
 |.nil ts,.nil us=>ef (Ty.qv us ts) (k ())
 |.Ev n off,.ptr n' kk sz yM=>ct n' n (ct kk 0 (ct sz 0 (ct yM off (k ()))))
 |.ptr n sz off,.ptr n' kk aK yM=>ct n' n (ct aK sz (ct yM off (k kk)))
 |.bT ts off,.bT us x yM=>ct yM off (match Ty.LO us ts x with
  |some y=>k y
  |none=>none)
 |.full n sz,.sl n' aK lo len=>ct n' n (ct aK sz ((ab lo len (ln n)).U fun _=>k ()))
 |.sl n sz,.sl n' aK lo len=>ct n' n (ct aK sz (k (lo,len)))
 |.br n ax off sz,.br n' kk am4 yM aK len=>ct n' n (ct am4 ax (ct yM off (ct aK sz (k (kk,len)))))
 |.bg,.bg=>k ()
 |_,_=>none
theorem Ty.cast_eq {t u:Ty} {x:t.D} {y:u.D} (h:Ty.cast t u x=some y):SC.v t x=SC.v u y:=by
 unfold Ty.cast at h
 split at h
 ·rename_i he
  have:=Ty.beq_eq he
  subst this
  injection h with h
  rw[<-h]
 ·cases h
theorem Ty.acG {ts us:List Ty} {x:Ty.DL ts} {y:Ty.DL us} (h:Ty.LO ts us x=some y) (off:Nat):SC.bT ts x off=SC.bT us y off:=by
 unfold Ty.LO at h
 split at h
 ·rename_i he
  have:=Ty.rH he
  subst this
  injection h with h
  rw[<-h]
 ·cases h
theorem gJ.oe {ln:Nat->Nat} (s:gJ) (c:SC) (k:s.L.D->Option ρ) (r:ρ) (h:s.flat ln c k=some r):∃x,c=s.un ln x/\k x=some r:=by
 cases s with
 |v t=>
  cases c<;>simp only[gJ.flat] at h<;>first|(cases h;done)|skip
  split at h
  ·rename_i y hy
   exact⟨y,Ty.cast_eq hy,h⟩
  ·cases h
 |nil ts=>
  cases c<;>simp only[gJ.flat] at h<;>first|(cases h;done)|skip
  have h1:=(bQ h).1;replace h:=(bQ h).2
  exact⟨(),by rw[Ty.rH h1];rfl,h⟩
 |Ev n off=>
  cases c<;>simp only[gJ.flat] at h<;>first|(cases h;done)|skip
  have bk:=(ba h).1;replace h:=(ba h).2;subst bk
  have bk:=(ba h).1;replace h:=(ba h).2;subst bk
  have bk:=(ba h).1;replace h:=(ba h).2;subst bk
  have bk:=(ba h).1;replace h:=(ba h).2;subst bk
  exact⟨(),rfl,h⟩
 |ptr n sz off=>
  cases c<;>simp only[gJ.flat] at h<;>first|(cases h;done)|skip
  have bk:=(ba h).1;replace h:=(ba h).2;subst bk
  have bk:=(ba h).1;replace h:=(ba h).2;subst bk
  have bk:=(ba h).1;replace h:=(ba h).2;subst bk
  exact⟨_,rfl,h⟩
 |bT ts off=>
  cases c<;>simp only[gJ.flat] at h<;>first|(cases h;done)|skip
  have bk:=(ba h).1;replace h:=(ba h).2;subst bk
  split at h
  ·rename_i y hy
   exact⟨y,Ty.acG hy _,h⟩
  ·cases h
 |full n sz=>
  cases c<;>simp only[gJ.flat] at h<;>first|(cases h;done)|skip
  have bk:=(ba h).1;replace h:=(ba h).2;subst bk
  have bk:=(ba h).1;replace h:=(ba h).2;subst bk
  rw[eC] at h
  obtain⟨_,hf,h⟩:=h
  unfold ab at hf
  split at hf
  ·rename_i hc
   obtain⟨rfl,rfl⟩:=hc
   exact⟨(),rfl,h⟩
  ·cases hf
 |sl n sz=>
  cases c<;>simp only[gJ.flat] at h<;>first|(cases h;done)|skip
  have bk:=(ba h).1;replace h:=(ba h).2;subst bk
  have bk:=(ba h).1;replace h:=(ba h).2;subst bk
  exact⟨_,rfl,h⟩
 |br n ax off sz=>
  cases c<;>simp only[gJ.flat] at h<;>first|(cases h;done)|skip
  have bk:=(ba h).1;replace h:=(ba h).2;subst bk
  have bk:=(ba h).1;replace h:=(ba h).2;subst bk
  have bk:=(ba h).1;replace h:=(ba h).2;subst bk
  have bk:=(ba h).1;replace h:=(ba h).2;subst bk
  exact⟨_,rfl,h⟩
 |bg=>
  cases c<;>simp only[gJ.flat] at h<;>first|(cases h;done)|skip
  exact⟨(),rfl,h⟩
def du.L:du->LT
 |.c s=>s.L
 |.fn _ bR=>LL gJ.L bR
def du.un (ln:Nat->Nat):(s:du)->s.L.D->SC
 |.c s,x=>s.un ln x
 |.fn f bR,x=>.fn f (o8 (gJ.un ln) bR x)
def du.flat (ln:Nat->Nat) (s:du) (c:SC) (k:s.L.D->Option ρ):Option ρ:=
 match s,c with
 |.c s,c=>s.flat ln c k
 |.fn f bR,.fn f' cs=>ct f' f (pq (gJ.flat ln) bR cs k)
 |_,_=>none
theorem du.oe {ln:Nat->Nat} (s:du) (c:SC) (k:s.L.D->Option ρ) (r:ρ) (h:s.flat ln c k=some r):∃x,c=s.un ln x/\k x=some r:=by
 cases s with
 |c s=>exact s.oe c k r (by cases c<;>exact h)
 |fn f bR=>
  cases c<;>simp only[du.flat] at h<;>first|(cases h;done)|skip
  have bk:=(ba h).1;replace h:=(ba h).2;subst bk
  obtain⟨x,e_,h_⟩:=vr (un:=gJ.un ln) (fun a b k r=>gJ.oe a b k r) h;subst e_;replace h:=h_
  exact⟨x,rfl,h⟩
def ij.L:ij->LT
 |.one c=>c.L
 |.agg cs=>LL du.L cs
 |.bj xs=>LL (fun x:Bool×List du=>LL du.L x.2) xs
def ij.un (ln:Nat->Nat):(s:ij)->s.L.D->SV
 |.one c,x=>.one (c.un ln x)
 |.agg cs,x=>.agg (o8 (du.un ln) cs x)
 |.bj xs,x=>.bj (o8 (L:=fun x:Bool×List du=>LL du.L x.2) (fun a y=>(a.1,o8 (du.un ln) a.2 y)) xs x)
def WG (ln:Nat->Nat) (a:Bool×List du) (b:Bool×List SC) (k:(LL du.L a.2).D->Option ρ):Option ρ:=
 ef (a.1==b.1) (pq (du.flat ln) a.2 b.2 k)
def ij.flat (ln:Nat->Nat) (s:ij) (v:SV) (k:s.L.D->Option ρ):Option ρ:=
 match s,v with
 |.one c,.one v=>c.flat ln v k
 |.agg cs,.agg vs=>pq (du.flat ln) cs vs k
 |.bj xs,.bj vs=>pq (L:=fun x:Bool×List du=>LL du.L x.2) (WG ln) xs vs k
 |_,_=>none
theorem ij.oe {ln:Nat->Nat} (s:ij) (v:SV) (k:s.L.D->Option ρ) (r:ρ) (h:s.flat ln v k=some r):∃x,v=s.un ln x/\k x=some r:=by
 cases s with
 |one c=>
  cases v<;>simp only[ij.flat] at h<;>first|(cases h;done)|skip
  obtain⟨x,e_,h_⟩:=du.oe _ _ _ _ h;subst e_;replace h:=h_
  exact⟨x,rfl,h⟩
 |agg cs=>
  cases v<;>simp only[ij.flat] at h<;>first|(cases h;done)|skip
  obtain⟨x,e_,h_⟩:=vr (un:=du.un ln) (fun a b k r=>du.oe a b k r) h;subst e_;replace h:=h_
  exact⟨x,rfl,h⟩
 |bj xs=>
  cases v<;>simp only[ij.flat] at h<;>first|(cases h;done)|skip
  obtain⟨x,e_,h_⟩:=vr (L:=fun x:Bool×List du=>LL du.L x.2) (un:=fun a y=>(a.1,o8 (du.un ln) a.2 y)) (fun a b k r h=>by
   unfold WG at h
   have h1:=(bQ h).1;replace h:=(bQ h).2
   obtain⟨x,h2,h⟩:=vr (un:=du.un ln) (fun a b k r=>du.oe a b k r) h
   exact⟨x,Prod.ext (eq_of_beq h1).symm h2,h⟩) h
  subst e_
  exact⟨x,rfl,h_⟩
def eP.L:eP->LT
 |.box cs=>LL du.L cs
 |.row _ _ ts=>.ty (.list ts)
def eP.un (ln:Nat->Nat):(s:eP)->s.L.D->SB
 |.box cs,x=>.box (o8 (du.un ln) cs x)
 |.row gr m ts,x=>.row gr m ts x
def Mode.beq:Mode->Mode->Bool
 |.live,.live=>true
 |.aa,.aa=>true
 |.aE,.aE=>true
 |_,_=>false
theorem Mode.beq_eq {a b:Mode} (h:Mode.beq a b=true):a=b:=by cases a<;>cases b<;>first|rfl|cases h
def eP.flat (ln:Nat->Nat) (s:eP) (b:Option SB) (k:s.L.D->Option ρ):Option ρ:=
 match s,b with
 |.box cs,some (.box vs)=>pq (du.flat ln) cs vs k
 |.row gr m ts,some (.row bf m' us xs)=>ef (bf==gr) (ef (Mode.beq m' m) (match vj us ts xs with
  |some y=>k y
  |none=>none))
 |_,_=>none
theorem am1 {us ts:List Ty} {xs:List (Ty.DL us)} {ys:List (Ty.DL ts)} (h:vj us ts xs=some ys) (gr:Bool) (m:Mode):SB.row gr m us xs=SB.row gr m ts ys:=by
 unfold vj at h
 split at h
 ·rename_i he
  have h2:=Ty.rH he
  subst h2
  injection h with h
  rw[<-h]
 ·cases h
theorem eP.oe {ln:Nat->Nat} (s:eP) (b:Option SB) (k:s.L.D->Option ρ) (r:ρ) (h:s.flat ln b k=some r):∃x,b=some (s.un ln x)/\k x=some r:=by
 cases s with
 |box cs=>
  cases b with
  |none=>cases h
  |some b=>
   cases b<;>simp only[eP.flat] at h<;>first|(cases h;done)|skip
   obtain⟨x,e_,h_⟩:=vr (un:=du.un ln) (fun a b k r=>du.oe a b k r) h;subst e_;replace h:=h_
   exact⟨x,rfl,h⟩
 |row gr m ts=>
  cases b with
  |none=>cases h
  |some b=>
   cases b<;>simp only[eP.flat] at h<;>first|(cases h;done)|skip
   have h1:=(bQ h).1;replace h:=(bQ h).2
   have h2:=(bQ h).1;replace h:=(bQ h).2
   split at h
   ·rename_i y hy
    refine⟨y,?_,h⟩
    rw[eq_of_beq h1,Mode.beq_eq h2,am1 hy]
    rfl
   ·cases h
end
def kQ:List (Nat×SV)->Nat->SV
 |[]=>fun _=>.one .bg
 |p::l=>av (kQ l) p.1 p.2
def jf:List (Nat×Option SB)->Nat->Option SB
 |[]=>fun _=>none
 |p::l=>av (jf l) p.1 p.2
def B5:List (Nat×eP)->Nat->Bool
 |[]=>fun _=>false
 |p::l=>av (B5 l) p.1 true
def rm (h:Nat->Option SB) (n:Nat):Nat:=
 match h n with
 |some (.row _ _ ts xs)=>J (α:=Ty.DL ts) xs
 |_=>0
abbrev iH.eL (sh:iH):LT:=LL (fun p:Nat×ij=>p.2.L) sh.env
abbrev iH.hL (sh:iH):LT:=LL (fun p:Nat×eP=>p.2.L) sh.heap
def iH.L (sh:iH):LT:=LT.sp sh.eL sh.hL
def KD (ln:Nat->Nat) (l:List (Nat×ij)) (x:(LL (fun p:Nat×ij=>p.2.L) l).D):List (Nat×SV):=
 o8 (L:=fun p:Nat×ij=>p.2.L) (fun p y=>(p.1,p.2.un ln y)) l x
def za (ln:Nat->Nat) (l:List (Nat×eP)) (x:(LL (fun p:Nat×eP=>p.2.L) l).D):List (Nat×Option SB):=
 o8 (L:=fun p:Nat×eP=>p.2.L) (fun p y=>(p.1,some (p.2.un ln y))) l x
def sP:(l:List (Nat×eP))->(LL (fun p:Nat×eP=>p.2.L) l).D->Nat->Nat
 |[],_=>fun _=>0
 |(n,.box cs)::l,x=>av (sP l (LT.s6 _ _ x).2) n 0
 |(n,.row gr m ts)::l,x=>av (sP l (LT.s6 (LT.ty (.list ts)) _ x).2) n (J (α:=Ty.DL ts) (LT.s6 (LT.ty (.list ts)) _ x).1)
theorem PH (ln:Nat->Nat):∀(l:List (Nat×eP)) (x:(LL (fun p:Nat×eP=>p.2.L) l).D),sP l x=rm (jf (za ln l x))
 |[],_=>rfl
 |(n,.box cs)::l,x=>by
  funext m
  simp only[sP,za,o8,jf,rm]
  by_cases hm:m=n
  ·subst hm;simp only[bw];rfl
  ·simp only[bS _ _ _ _ hm]
   exact congrFun (PH ln l _) m
 |(n,.row gr mo ts)::l,x=>by
  funext m
  simp only[sP,za,o8,jf,rm]
  by_cases hm:m=n
  ·subst hm;simp only[bw];rfl
  ·simp only[bS _ _ _ _ hm]
   exact congrFun (PH ln l _) m
def iH.un (sh:iH) (x:sh.L.D):af:=
 {env:=kQ (KD (sP sh.heap (LT.s6 sh.eL sh.hL x).2) sh.env (LT.s6 sh.eL sh.hL x).1)
  h:=jf (za (sP sh.heap (LT.s6 sh.eL sh.hL x).2) sh.heap (LT.s6 sh.eL sh.hL x).2)
  used:=fun n=>Nat.ble aJ n||B5 sh.heap n}
def pu (n:Nat):List (Nat×eP)->Bool
 |[]=>false
 |p::l=>match Nat.beq n p.1 with
  |true=>true
  |false=>pu n l
section
variable {ρ:Type}
def WC (ln:Nat->Nat) (p:Nat×ij) (v:Nat×SV) (k:p.2.L.D->Option ρ):Option ρ:=ct v.1 p.1 (p.2.flat ln v.2 k)
def WD (ln:Nat->Nat) (p:Nat×eP) (b:Nat×Option SB) (k:p.2.L.D->Option ρ):Option ρ:=ct b.1 p.1 (p.2.flat ln b.2 k)
def G7 (σ:af) (hp:List (Nat×eP)):List Nat->Bool
 |[]=>true
 |n::kh=>(match pu n hp with|true=>σ.used n|false=>(match σ.used n with|true=>Nat.ble aJ n|false=> !(Nat.ble aJ n))&&(σ.h n).isNone)&&G7 σ hp kh
def GM (kh:List Nat):List (Nat×eP)->Bool
 |[]=>true
 |p::l=>kh.contains p.1&&GM kh l
def iH.flat (sh:iH) (kh:List Nat) (σ:af) (k:sh.L.D->Option ρ):Option ρ:=
 ef (G7 σ sh.heap kh&&GM kh sh.heap)
  (pq (WC (rm σ.h)) sh.env (sh.env.map fun p=>(p.1,σ.env p.1)) fun xe=>
   pq (WD (rm σ.h)) sh.heap (sh.heap.map fun p=>(p.1,σ.h p.1)) fun xh=>k (LT.BS sh.eL sh.hL xe xh))
end
theorem adi (l:List (Nat×ij)) (f:Nat->SV) (hf:∀s,s∉l.map (·.1)->f s=.one .bg):kQ (l.map fun p=>(p.1,f p.1))=f:=by
 have:∀(l:List (Nat×ij)) s,kQ (l.map fun p=>(p.1,f p.1)) s=if s∈l.map (·.1) then f s else .one .bg:=by
  intro l s
  induction l with
  |nil=>rfl
  |cons p l ih=>
   simp only[List.map_cons,kQ,iE,ih,List.mem_cons]
   by_cases h:s=p.1
   ·subst h;simp
   ·by_cases h2:s∈l.map (·.1)
    ·rw[if_neg h,if_pos h2,if_pos (Or.inr h2)]
    ·rw[if_neg h,if_neg h2,if_neg (fun e=>e.elim h h2)]
 funext s
 rw[this]
 split
 ·rfl
 ·rename_i h;exact(hf s h).symm
theorem afw (l:List (Nat×eP)) (f:Nat->Option SB) (hf:∀s,s∉l.map (·.1)->f s=none):jf (l.map fun p=>(p.1,f p.1))=f:=by
 have:∀(l:List (Nat×eP)) s,jf (l.map fun p=>(p.1,f p.1)) s=if s∈l.map (·.1) then f s else none:=by
  intro l s
  induction l with
  |nil=>rfl
  |cons p l ih=>
   simp only[List.map_cons,jf,iE,ih,List.mem_cons]
   by_cases h:s=p.1
   ·subst h;simp
   ·by_cases h2:s∈l.map (·.1)
    ·rw[if_neg h,if_pos h2,if_pos (Or.inr h2)]
    ·rw[if_neg h,if_neg h2,if_neg (fun e=>e.elim h h2)]
 funext s
 rw[this]
 split
 ·rfl
 ·rename_i h;exact(hf s h).symm
theorem W5 (n:Nat) (l:List (Nat×eP)):pu n l=true↔n∈l.map (·.1):=by
  induction l with
  |nil=>simp[pu]
  |cons p l ih=>
   simp only[pu,List.map_cons,List.mem_cons]
   cases h:Nat.beq n p.1 with
   |true=>simp[Nat.eq_of_beq_eq_true h]
   |false=>simp only[ih];constructor
           · exact .inr
           · rintro(rfl|h2)
             · rw[Nat.beq_refl] at h;cases h
             · exact h2
theorem aok (n:Nat) (l:List (Nat×eP)):B5 l n=pu n l:=by
 induction l with
 |nil=>rfl
 |cons p l ih=>
  simp only[B5,pu,iE,ih]
  by_cases h:n=p.1
  ·subst h;simp[Nat.beq_refl]
  ·have:Nat.beq n p.1=false:=by
    cases hb:Nat.beq n p.1 with
    |true=>exact absurd (Nat.eq_of_beq_eq_true hb) h
    |false=>rfl
   simp[h,this]
theorem LS {σ:af} {hp:List (Nat×eP)}:∀{kh:List Nat},G7 σ hp kh=true->∀n∈kh,σ.used n=(Nat.ble aJ n||pu n hp)/\(pu n hp=false->σ.h n=none)
 |[],_,n,hn=>by cases hn
 |m::kh,h,n,hn=>by
  simp only[G7,Bool.and_eq_true] at h
  rcases List.mem_cons.1 hn with e_|hn
  ·subst e_
   cases hh:pu n hp with
   |true=>
    rw[hh] at h
    have h1:σ.used n=true:=h.1
    exact⟨by rw[h1,Bool.or_true],fun e=>by cases e⟩
   |false=>
    rw[hh] at h
    simp only[Bool.and_eq_true,Option.isNone_iff_eq_none] at h
    refine⟨?_,fun _=>h.1.2⟩
    have h1:=h.1.1
    rw[Bool.or_false]
    cases hu:σ.used n with
    |true=>rw[hu] at h1;exact h1.symm
    |false=>rw[hu] at h1;simpa using h1.symm
  ·exact LS h.2 n hn
theorem U5 {kh:List Nat}:∀{l:List (Nat×eP)},GM kh l=true->∀n∈l.map (·.1),n∈kh
 |[],_,n,hn=>by cases hn
 |p::l,h,n,hn=>by
  simp only[GM,Bool.and_eq_true] at h
  simp only[List.map_cons,List.mem_cons] at hn
  rcases hn with rfl|hn
  ·simpa using h.1
  ·exact U5 h.2 n hn
theorem iH.oe {ρ:Type} {sh:iH} {kh:List Nat} {σ:af} {k:sh.L.D->Option ρ} {r:ρ} (h:sh.flat kh σ k=some r)
  (he:∀s,s∉sh.ke->σ.env s=.one .bg) (hh:∀n,n∉kh->σ.h n=none/\σ.used n=Nat.ble aJ n):∃x,σ=sh.un x/\k x=some r:=by
 unfold iH.flat at h
 have hc:=(bQ h).1;replace h:=(bQ h).2
 simp only[Bool.and_eq_true] at hc
 obtain⟨xe,e1,h⟩:=vr (L:=fun p:Nat×ij=>p.2.L) (un:=fun p y=>(p.1,p.2.un (rm σ.h) y)) (fun a b k r h=>by
  unfold WC at h
  obtain⟨h1,h⟩:=ba h
  obtain⟨x,h2,h⟩:=ij.oe _ _ _ _ h
  exact⟨x,Prod.ext h1 h2,h⟩) h
 obtain⟨xh,e2,h⟩:=vr (L:=fun p:Nat×eP=>p.2.L) (un:=fun p y=>(p.1,some (p.2.un (rm σ.h) y))) (fun a b k r h=>by
  unfold WD at h
  obtain⟨h1,h⟩:=ba h
  obtain⟨x,h2,h⟩:=eP.oe _ _ _ _ h
  exact⟨x,Prod.ext h1 h2,h⟩) h
 have x5:σ.env=kQ (KD (rm σ.h) sh.env xe):=by
  unfold KD
  rw[<-e1]
  exact(adi sh.env σ.env he).symm
 have Ac:σ.h=jf (za (rm σ.h) sh.heap xh):=by
  unfold za
  rw[<-e2]
  refine(afw sh.heap σ.h fun n hn=>?_).symm
  by_cases hk:n∈kh
  ·refine(LS hc.1 n hk).2 ?_
   cases hb:pu n sh.heap with
   |true=>exact absurd ((W5 n sh.heap).1 hb) hn
   |false=>rfl
  ·exact(hh n hk).1
 have afI:sP sh.heap xh=rm σ.h:=by
  rw[PH (rm σ.h),<-Ac]
 have af7:σ.used=fun n=>Nat.ble aJ n||B5 sh.heap n:=by
  funext n
  rw[aok]
  by_cases hk:n∈kh
  ·exact(LS hc.1 n hk).1
  ·rw[(hh n hk).2]
   cases hb:pu n sh.heap with
   |true=>exact absurd (U5 hc.2 n ((W5 n sh.heap).1 hb)) hk
   |false=>rw[Bool.or_false]
 refine⟨LT.BS sh.eL sh.hL xe xh,?_,h⟩
 have:sh.un (LT.BS sh.eL sh.hL xe xh)={env:=kQ (KD (sP sh.heap xh) sh.env xe),h:=jf (za (sP sh.heap xh) sh.heap xh),used:=fun n=>Nat.ble aJ n||B5 sh.heap n}:=by
  simp only[iH.un,LT.aa6]
 rw[this,afI,<-x5,<-Ac,<-af7]
end Go.Am
