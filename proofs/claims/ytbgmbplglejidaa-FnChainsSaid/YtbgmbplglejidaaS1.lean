/- S0, S1: parts of the proof. No condition. -/
import Derived.Test.YtbgmbplglejidaaAm30
import Derived.Test.YtbgmbplglejidaaAmW
set_option linter.unusedVariables false
section
namespace Go.Am
def _root_.Option.aa {α β:Type} (o:Option α) (f:α->Option β):Option β:=o.bind f
def aC {α:Type} (b:Bool) (x y:α):α:=cond b x y
def bS (k:IntKind) (a b:Int):Int:=k.wrap (a+b)
def eG (k:IntKind) (a b:Int):Int:=k.wrap (a - b)
def c7 (k:IntKind) (a b:Int):Int:=k.wrap (a*b)
def alG (k:IntKind) (a:Int):Int:=k.wrap (0 - a)
def xR (k:IntKind) (a:Int):Int:=k.wrap a
def pO (k:IntKind) (a b:Int):Int:=bits .and k a b
def orI (k:IntKind) (a b:Int):Int:=bits .or k a b
def Vw (k:IntKind) (a b:Int):Int:=bits .xor k a b
def cz (a b:Int):Bool:=a==b
def hZ (a b:Int):Bool:=a !=b
def bO (a b:Int):Bool:=decide (a<b)
def gC (a b:Int):Bool:=decide (a<=b)
def eqB (a b:Bool):Bool:=a==b
def neB (a b:Bool):Bool:=a !=b
def ef (a:Bool):Bool:= !a
def yS (a b:Int):Int:=if a<b then b else a
def n7 (a b:Int):Int:=if b<a then b else a
def J {α:Type} (xs:List α):Nat:=xs.length
def aI (n:Nat):Int:=(n:Int)
def aW (a b:Nat):Nat:=a+b
def dv {α:Type} (xs:List α) (k:Nat):Option α:=xs[k]?
def bW {α:Type} (xs:List α) (k:Nat) (x:α):List α:=xs.set k x
def dt {α:Type} (xs ys:List α):List α:=xs++ys
def dT {α:Type} (n:Nat) (x:α):List α:=List.replicate n x
def gu {α:Type} (xs:List α) (lo len:Nat):List α:=(xs.drop lo).take len
def dK {α:Type} (xs:List α) (i:Int):Option α:=if 0<=i then xs[i.toNat]? else none
def fj (i:Int) (len:Nat):Option Nat:=if 0<=i/\i<len then some i.toNat else none
def ib (lo hi:Int) (len:Nat):Option (Nat×Nat):=if 0<=lo/\lo<=hi/\hi<=len then some (lo.toNat,(hi - lo).toNat) else none
def c6 {α:Type} (xs:List α) (lo len:Nat):Option (List α):=if lo+len<=xs.length then some ((xs.drop lo).take len) else none
def dP {α:Type} (xs:List α) (len:Nat):Option (List α):=if len<=xs.length then some (xs.take len) else none
def HS {α:Type} (xs:List α) (lo len:Nat) (ys:List α):Option (List α):=if lo+len<=xs.length then some (xs.take lo++ys++xs.drop (lo+ys.length)) else none
def n9 (a b:Int) (by_:Nat):Option Nat:=if a<=b/\0<=a/\b.toNat*by_<=dF then some a.toNat else none
def jt (n by_:Nat):Option Unit:=if n*by_<=dF then some () else none
def pF (a b:Nat):Option Unit:=if a=b then some () else none
def ai (lo len l:Nat):Option Unit:=if lo=0/\len=l then some () else none
def y8 (k:IntKind) (a b:Int):Option Int:=if b=0 then none else some (k.wrap (a.tdiv b))
def jH (a b:Int):Option Int:=if b=0 then none else some (a.tmod b)
def zi (k:IntKind) (a b:Int):Option Int:=if b<0 then none else some (k.wrap (a*2^(min b.toNat k.bits)))
def tf (k:IntKind) (a b:Int):Option Int:=if b<0 then none else some (a/(2^(min b.toNat k.bits)))
def bN {X Y:Type}:Nat->(X->Option (X⊕Y))->X->Option Y
 |0,_,_=>none
 |n+1,f,x=>match f x with
  |some (.inl x')=>bN n f x'
  |some (.inr y)=>some y
  |none=>none
def cd {X ρ:Type} (o:Option (X⊕ρ)) (k:X->Option ρ):Option ρ:=o.bind fun s=>Sum.casesOn s k some
theorem eP {α β:Type} {o:Option α} {f:α->Option β} {b:β}:o.aa f=some b↔∃a,o=some a/\f a=some b:=Option.bind_eq_some_iff
theorem HN {α:Type} (x y:α):aC true x y=x:=rfl
theorem C3 {α:Type} (x y:α):aC false x y=y:=rfl
end Go.Am
end
section
namespace Go.Am
inductive Ty where
 |int (k:IntKind)
 |bool
 |list (ts:List Ty)
instance:Inhabited Ty:=⟨.bool⟩
mutual
def Ty.beq:Ty->Ty->Bool
 |.int k,.int k'=>decide (k=k')
 |.bool,.bool=>true
 |.list ts,.list us=>Ty.q8 ts us
 |_,_=>false
def Ty.q8:List Ty->List Ty->Bool
 |[],[]=>true
 |t::ts,u::us=>Ty.beq t u&&Ty.q8 ts us
 |_,_=>false
end
mutual
theorem Ty.beq_eq:∀{t u:Ty},Ty.beq t u=true->t=u
 |.int k,.int k',h=>by simp[Ty.beq] at h;rw[h]
 |.bool,.bool,_=>rfl
 |.list ts,.list us,h=>by simp only[Ty.beq] at h;rw[Ty.si h]
 |.int _,.bool,h=>by simp[Ty.beq] at h
 |.int _,.list _,h=>by simp[Ty.beq] at h
 |.bool,.int _,h=>by simp[Ty.beq] at h
 |.bool,.list _,h=>by simp[Ty.beq] at h
 |.list _,.int _,h=>by simp[Ty.beq] at h
 |.list _,.bool,h=>by simp[Ty.beq] at h
theorem Ty.si:∀{ts us:List Ty},Ty.q8 ts us=true->ts=us
 |[],[],_=>rfl
 |t::ts,u::us,h=>by simp only[Ty.q8,Bool.and_eq_true] at h;rw[Ty.beq_eq h.1,Ty.si h.2]
 |[],_::_,h=>by simp[Ty.q8] at h
 |_::_,[],h=>by simp[Ty.q8] at h
end
mutual
def Ty.D:Ty->Type
 |.int _=>Int
 |.bool=>Bool
 |.list ts=>List (Ty.DL ts)
def Ty.DL:List Ty->Type
 |[]=>Unit
 |t::ts=>match ts with
  |[]=>Ty.D t
  |u::us=>Ty.D t×Ty.DL (u::us)
end
mutual
def Ty.er:(t:Ty)->t.D->C
 |.int k,n=>.int k n
 |.bool,b=>.bool b
 |.list ts,xs=>.list ts.length (List.map (Ty.aH ts) xs)
def Ty.aH:(ts:List Ty)->Ty.DL ts->List C
 |[],_=>[]
 |[t],x=>[Ty.er t x]
 |t::u::ts,x=>Ty.er t x.1::Ty.aH (u::ts) x.2
end
def Ty.cast (t u:Ty) (x:t.D):Option u.D:=if h:Ty.beq t u=true then some (Ty.beq_eq h▸x) else none
theorem Ty.Wp {t u:Ty} {x:t.D} {y:u.D} (h:Ty.cast t u x=some y):t.er x=u.er y:=by
 unfold Ty.cast at h
 split at h
 ·rename_i he
  have:=Ty.beq_eq he
  subst this
  injection h with h
  rw[<-h]
 ·cases h
def Ty.L5 (ts us:List Ty) (x:Ty.DL ts):Option (Ty.DL us):=if h:Ty.q8 ts us=true then some (Ty.si h▸x) else none
theorem Ty.De:∀(ts:List Ty) (x:Ty.DL ts),(Ty.aH ts x).length=ts.length
 |[],_=>rfl
 |[t],_=>rfl
 |t::u::ts,x=>by simp only[Ty.aH,List.length_cons,Ty.De (u::ts) x.2]
def Ty.eN:Ty->Bool
 |.list _=>false
 |_=>true
theorem Ty.wX (t:Ty) (x:t.D):(t.er x).eN=t.eN:=by cases t<;>rfl
def Ty.fA (ts:List Ty):Bool:=ts.all Ty.eN
theorem Ty.J0:∀(ts:List Ty) (x:Ty.DL ts),Am.fA (Ty.aH ts x)=Ty.fA ts
 |[],_=>rfl
 |[t],x=>by simp[Am.fA,Ty.aH,Ty.fA];exact Ty.wX t x
 |t::u::ts,x=>by
  have:=Ty.J0 (u::ts) x.2
  simp only[Am.fA,Ty.fA] at this
  simp only[Am.fA,Ty.fA,Ty.aH,List.all_cons,Ty.wX] at this⊢
  rw[this]
inductive SC where
 |v (t:Ty) (x:t.D)
 |nil (ts:List Ty)
 |ptr (n k sz off:Nat)
 |cu (ts:List Ty) (x:Ty.DL ts) (off:Nat)
 |sl (n sz lo len:Nat)
 |bz (n k az off sz len:Nat)
 |cQ (n k az off sz i:Nat)
 |fn (f:FuncId) (cr:List SC)
 |bm
instance:Inhabited SC:=⟨.bm⟩
mutual
def SC.er:SC->ah
 |.v t x=>.c (t.er x)
 |.nil ts=>.nil ts.length
 |.ptr n k sz off=>.ptr n k sz off
 |.cu ts x off=>.cu (Ty.aH ts x) off
 |.sl n sz lo len=>.sl n sz lo len
 |.bz n k az off sz len=>.bz n k az off sz len
 |.cQ n k az off sz i=>.cQ n k az off sz i
 |.fn f cr=>.fn f (SC.Ie cr)
 |.bm=>.bm
def SC.Ie:List SC->List ah
 |[]=>[]
 |c::cs=>SC.er c::SC.Ie cs
end
theorem SC.Dh (cs:List SC):SC.Ie cs=cs.map SC.er:=by
 induction cs with
 |nil=>rfl
 |cons c cs ih=>simp[SC.Ie,ih]
inductive SB where
 |box (cs:List SC)
 |row (gr:Bool) (m:Mode) (ts:List Ty) (xs:List (Ty.DL ts))
def SB.er:SB->ao
 |.box cs=>.box (cs.map SC.er)
 |.row gr m ts xs=>.row gr m ts.length (List.map (Ty.aH ts) xs)
inductive SV where
 |one (c:SC)
 |agg (cs:List SC)
 |bn (xs:List (Bool×List SC))
instance:Inhabited SV:=⟨.one .bm⟩
def SV.er:SV->aj
 |.one c=>.one c.er
 |.agg cs=>.agg (cs.map SC.er)
 |.bn xs=>.bn (xs.map fun x=>(x.1,x.2.map SC.er))
structure af where
 env:Nat->SV
 h:Nat->Option SB
 used:Nat->Bool
def pW (env:Nat->SV):Nat->aj:=fun s=>(env s).er
def cU (h:Nat->Option SB):Nat->Option ao:=fun n=>(h n).map SB.er
def af.er (σ:af):St:={env:=pW σ.env,h:=cU σ.h,used:=σ.used}
theorem vK (env:Nat->SV) (n:Nat) (v:SV):pW (au env n v)=au (pW env) n v.er:=by
 funext s;simp only[pW,iP];split<;>rfl
theorem Ia (h:Nat->Option SB) (n:Nat) (v:Option SB):cU (au h n v)=au (cU h) n (v.map SB.er):=by
 funext s;simp only[cU,iP];split<;>rfl
def af.put (σ:af) (d:Option Nat) (v:SV):af:=
 match d with
 |some n=>{σ with env:=au σ.env n v}
 |none=>σ
def af.ins (σ:af) (n:Nat) (b:SB):Option af:=
 match σ.used n with
 |true=>none
 |false=>some {σ with h:=au σ.h n (some b),used:=au σ.used n true}
def af.dn (σ:af) (n:Nat) (b:SB):af:={σ with h:=au σ.h n (some b)}
def af.del (σ:af) (n:Nat):af:={σ with h:=au σ.h n none}
theorem af.dj (σ:af) (d:Option Nat) (v:SV):(σ.put d v).er=σ.er.put d v.er:=by
 cases d with
 |none=>rfl
 |some n=>simp only[af.put,af.er,St.put,vK]
theorem af.sy {σ σ1:af} {n:Nat} {b:SB} (h:σ.ins n b=some σ1):σ.er.ins n b.er=some σ1.er:=by
 unfold af.ins at h
 split at h
 ·cases h
 ·rename_i hu
  injection h with h
  subst h
  simp[St.ins,af.er,hu,Ia]
theorem af.oI (σ:af) (n:Nat) (b:SB):(σ.dn n b).er=σ.er.dn n b.er:=by
 simp[af.dn,af.er,St.dn,Ia]
theorem af.Ic (σ:af) (n:Nat):(σ.del n).er=σ.er.del n:=by
 simp[af.del,af.er,St.del,Ia]
def Ty.cells:(ts:List Ty)->Ty.DL ts->List SC
 |[],_=>[]
 |[t],x=>[.v t x]
 |t::u::ts,x=>.v t x.1::Ty.cells (u::ts) x.2
theorem Ty.lx:∀(ts:List Ty) (x:Ty.DL ts),(Ty.cells ts x).map SC.er=(Ty.aH ts x).map .c
 |[],_=>rfl
 |[t],x=>rfl
 |t::u::ts,x=>by simp only[Ty.cells,Ty.aH,List.map_cons,Ty.lx (u::ts) x.2];rfl
def PL (n k rs off:Nat) (t:Ty) (x:t.D):SC:=
 match t,x with
 |.list ts,xs=>.bz n k rs off ts.length (J (α:=Ty.DL ts) xs)
 |.int k',x=>.v (.int k') x
 |.bool,x=>.v .bool x
def Ty.live (n k rs:Nat):Nat->(ts:List Ty)->Ty.DL ts->List SC
 |_,[],_=>[]
 |off,[t],x=>[PL n k rs off t x]
 |off,t::u::ts,x=>PL n k rs off t x.1::Ty.live n k rs (off+1) (u::ts) x.2
theorem Z1 (n k rs off:Nat) (t:Ty) (x:t.D) (l:List C):gD n k rs off (t.er x::l)=(PL n k rs off t x).er::gD n k rs (off+1) l:=by
 cases t with
 |int k'=>rfl
 |bool=>rfl
 |list ts=>
  exact congrArg (fun m=>ah.bz n k rs off ts.length m::gD n k rs (off+1) l) (List.length_map (Ty.aH ts))
theorem Ty.Z6 (n k rs:Nat):∀(off:Nat) (ts:List Ty) (x:Ty.DL ts),(Ty.live n k rs off ts x).map SC.er=gD n k rs off (Ty.aH ts x)
 |_,[],_=>rfl
 |off,[t],x=>(Z1 n k rs off t x []).symm
 |off,t::u::ts,x=>by simp only[Ty.live,Ty.aH,Z1,List.map_cons,Ty.Z6 n k rs (off+1) (u::ts) x.2]
theorem Z2 (n k rs:Nat):∀(j off:Nat) (l:List C),(gD n k rs off l).drop j=gD n k rs (off+j) (l.drop j)
 |0,off,l=>by simp
 |j+1,off,[]=>by simp[gD]
 |j+1,off,c::l=>by
  have ih:=Z2 n k rs j (off+1) l
  rw[show off+1+j=off+(j+1) by omega] at ih
  cases c<;>simpa[gD] using ih
theorem Z5 (n k rs:Nat):∀(j off:Nat) (l:List C),(gD n k rs off l).take j=gD n k rs off (l.take j)
 |0,off,l=>by simp[gD]
 |j+1,off,[]=>by simp[gD]
 |j+1,off,c::l=>by cases c<;>simp[gD,Z5 n k rs j (off+1) l]
theorem Z3 (n k rs:Nat):∀(off:Nat) (l:List C),(gD n k rs off l).length=l.length
 |off,[]=>rfl
 |off,c::l=>by cases c<;>simp[gD,Z3 n k rs (off+1) l]
theorem ao2 (n k rs off sz:Nat) (l:List C):sub (gD n k rs 0 l) off sz=(sub l off sz).map (gD n k rs off):=by
 unfold sub
 rw[Z3]
 split
 ·simp[Z2,Z5]
 ·rfl
theorem tj {α β:Type} (f:α->β) (l:List α) (off sz:Nat):sub (l.map f) off sz=(sub l off sz).map (List.map f):=by
 unfold sub
 rw[List.length_map]
 split
 ·simp[List.map_drop,List.map_take]
 ·rfl
def xQ (t:Ty):(ts:List Ty)->t.D->Ty.DL ts->Ty.DL (t::ts)
 |[],x,_=>x
 |_::_,x,y=>(x,y)
theorem Mo (t:Ty) (ts:List Ty) (x:t.D) (y:Ty.DL ts):Ty.aH (t::ts) (xQ t ts x y)=t.er x::Ty.aH ts y:=by cases ts<;>rfl
def qy:(ts:List Ty)->List ((t:Ty)×t.D)->Option (Ty.DL ts)
 |[],[]=>some ()
 |t::ts,c::cs=>match Ty.cast c.1 t c.2,qy ts cs with
  |some y,some z=>some (xQ t ts y z)
  |_,_=>none
 |_,_=>none
def cD (l:List ((t:Ty)×t.D)):List C:=l.map fun x=>x.1.er x.2
theorem wH:∀{ts:List Ty} {cs:List ((t:Ty)×t.D)} {y:Ty.DL ts},qy ts cs=some y->Ty.aH ts y=cD cs
 |[],[],y,h=>rfl
 |t::ts,c::cs,y,h=>by
  simp only[qy] at h
  split at h
  ·rename_i y1 z h1 h2
   injection h with h
   subst h
   have:=wH h2
   simp only[cD] at this
   simp only[Mo,cD,List.map_cons,Ty.Wp h1,this]
  ·cases h
 |[],_::_,y,h=>by simp[qy] at h
 |t::ts,[],y,h=>by simp[qy] at h
def Ty.gT:(ts:List Ty)->Ty.DL ts->List ((t:Ty)×t.D)
 |[],_=>[]
 |[t],x=>[⟨t,x⟩]
 |t::u::ts,x=>⟨t,x.1⟩::Ty.gT (u::ts) x.2
theorem Ty.pS:∀(ts:List Ty) (x:Ty.DL ts),cD (Ty.gT ts x)=Ty.aH ts x
 |[],_=>rfl
 |[t],x=>rfl
 |t::u::ts,x=>by
  have:=Ty.pS (u::ts) x.2
  simp only[cD] at this
  simp only[Ty.gT,Ty.aH,cD,List.map_cons,this]
end Go.Am
end
