/- S0, S1: parts of the proof. No condition. -/
import Derived.Test.YtbgmbplglejidaaAm30
import Derived.Test.YtbgmbplglejidaaAmW
set_option linter.unusedVariables false
section
namespace Go.Am
def _root_.Option.aa {α β:Type} (o:Option α) (f:α->Option β):Option β:=o.bind f
def aG {α:Type} (b:Bool) (x y:α):α:=cond b x y
def bS (k:IntKind) (a b:Int):Int:=k.wrap (a+b)
def fk (k:IntKind) (a b:Int):Int:=k.wrap (a - b)
def db (k:IntKind) (a b:Int):Int:=k.wrap (a*b)
def amb (k:IntKind) (a:Int):Int:=k.wrap (0 - a)
def x9 (k:IntKind) (a:Int):Int:=k.wrap a
def qt (k:IntKind) (a b:Int):Int:=bits .and k a b
def orI (k:IntKind) (a b:Int):Int:=bits .or k a b
def Wg (k:IntKind) (a b:Int):Int:=bits .xor k a b
def cJ (a b:Int):Bool:=a==b
def kg (a b:Int):Bool:=a !=b
def bQ (a b:Int):Bool:=decide (a<b)
def iS (a b:Int):Bool:=decide (a<=b)
def eqB (a b:Bool):Bool:=a==b
def neB (a b:Bool):Bool:=a !=b
def fi (a:Bool):Bool:= !a
def zl (a b:Int):Int:=if a<b then b else a
def oO (a b:Int):Int:=if b<a then b else a
def J {α:Type} (xs:List α):Nat:=xs.length
def aN (n:Nat):Int:=(n:Int)
def aM (a b:Nat):Nat:=a+b
def cZ {α:Type} (xs:List α) (k:Nat):Option α:=xs[k]?
def bF {α:Type} (xs:List α) (k:Nat) (x:α):List α:=xs.set k x
def dq {α:Type} (xs ys:List α):List α:=xs++ys
def eQ {α:Type} (n:Nat) (x:α):List α:=List.replicate n x
def gE {α:Type} (xs:List α) (lo len:Nat):List α:=(xs.drop lo).take len
def eU {α:Type} (xs:List α) (i:Int):Option α:=if 0<=i then xs[i.toNat]? else none
def eN (i:Int) (len:Nat):Option Nat:=if 0<=i/\i<len then some i.toNat else none
def ir (lo hi:Int) (len:Nat):Option (Nat×Nat):=if 0<=lo/\lo<=hi/\hi<=len then some (lo.toNat,(hi - lo).toNat) else none
def df {α:Type} (xs:List α) (lo len:Nat):Option (List α):=if lo+len<=xs.length then some ((xs.drop lo).take len) else none
def dt {α:Type} (xs:List α) (len:Nat):Option (List α):=if len<=xs.length then some (xs.take len) else none
def ID {α:Type} (xs:List α) (lo len:Nat) (ys:List α):Option (List α):=if lo+len<=xs.length then some (xs.take lo++ys++xs.drop (lo+ys.length)) else none
def ra (a b:Int) (by_:Nat):Option Nat:=if a<=b/\0<=a/\b.toNat*by_<=dK then some a.toNat else none
def iL (n by_:Nat):Option Unit:=if n*by_<=dK then some () else none
def qd (a b:Nat):Option Unit:=if a=b then some () else none
def ai (lo len l:Nat):Option Unit:=if lo=0/\len=l then some () else none
def abQ (k:IntKind) (a b:Int):Option Int:=if b=0 then none else some (k.wrap (a.tdiv b))
def lG (a b:Int):Option Int:=if b=0 then none else some (a.tmod b)
def zJ (k:IntKind) (a b:Int):Option Int:=if b<0 then none else some (k.wrap (a*2^(min b.toNat k.bits)))
def tH (k:IntKind) (a b:Int):Option Int:=if b<0 then none else some (a/(2^(min b.toNat k.bits)))
def bN {X Y:Type}:Nat->(X->Option (X⊕Y))->X->Option Y
 |0,_,_=>none
 |n+1,f,x=>match f x with
  |some (.inl x')=>bN n f x'
  |some (.inr y)=>some y
  |none=>none
def cg {X ρ:Type} (o:Option (X⊕ρ)) (k:X->Option ρ):Option ρ:=o.bind fun s=>Sum.casesOn s k some
theorem eT {α β:Type} {o:Option α} {f:α->Option β} {b:β}:o.aa f=some b↔∃a,o=some a/\f a=some b:=Option.bind_eq_some_iff
theorem Iz {α:Type} (x y:α):aG true x y=x:=rfl
theorem DF {α:Type} (x y:α):aG false x y=y:=rfl
end Go.Am
end
section
namespace Go.Am
inductive Ty where
 |int (k:IntKind)
 |bool
 |list (ts:List Ty)
instance:Inhabited Ty:=⟨.bool⟩
mutual
def Ty.beq:Ty->Ty->Bool
 |.int k,.int k'=>decide (k=k')
 |.bool,.bool=>true
 |.list ts,.list us=>Ty.rM ts us
 |_,_=>false
def Ty.rM:List Ty->List Ty->Bool
 |[],[]=>true
 |t::ts,u::us=>Ty.beq t u&&Ty.rM ts us
 |_,_=>false
end
mutual
theorem Ty.beq_eq:∀{t u:Ty},Ty.beq t u=true->t=u
 |.int k,.int k',h=>by simp[Ty.beq] at h;rw[h]
 |.bool,.bool,_=>rfl
 |.list ts,.list us,h=>by simp only[Ty.beq] at h;rw[Ty.sR h]
 |.int _,.bool,h=>by simp[Ty.beq] at h
 |.int _,.list _,h=>by simp[Ty.beq] at h
 |.bool,.int _,h=>by simp[Ty.beq] at h
 |.bool,.list _,h=>by simp[Ty.beq] at h
 |.list _,.int _,h=>by simp[Ty.beq] at h
 |.list _,.bool,h=>by simp[Ty.beq] at h
theorem Ty.sR:∀{ts us:List Ty},Ty.rM ts us=true->ts=us
 |[],[],_=>rfl
 |t::ts,u::us,h=>by simp only[Ty.rM,Bool.and_eq_true] at h;rw[Ty.beq_eq h.1,Ty.sR h.2]
 |[],_::_,h=>by simp[Ty.rM] at h
 |_::_,[],h=>by simp[Ty.rM] at h
end
mutual
def Ty.D:Ty->Type
 |.int _=>Int
 |.bool=>Bool
 |.list ts=>List (Ty.DL ts)
def Ty.DL:List Ty->Type
 |[]=>Unit
 |t::ts=>match ts with
  |[]=>Ty.D t
  |u::us=>Ty.D t×Ty.DL (u::us)
end
mutual
def Ty.er:(t:Ty)->t.D->C
 |.int k,n=>.int k n
 |.bool,b=>.bool b
 |.list ts,xs=>.list ts.length (List.map (Ty.aI ts) xs)
def Ty.aI:(ts:List Ty)->Ty.DL ts->List C
 |[],_=>[]
 |[t],x=>[Ty.er t x]
 |t::u::ts,x=>Ty.er t x.1::Ty.aI (u::ts) x.2
end
def Ty.cast (t u:Ty) (x:t.D):Option u.D:=if h:Ty.beq t u=true then some (Ty.beq_eq h▸x) else none
theorem Ty.Xd {t u:Ty} {x:t.D} {y:u.D} (h:Ty.cast t u x=some y):t.er x=u.er y:=by
 unfold Ty.cast at h
 split at h
 ·rename_i he
  have:=Ty.beq_eq he
  subst this
  injection h with h
  rw[<-h]
 ·cases h
def Ty.MT (ts us:List Ty) (x:Ty.DL ts):Option (Ty.DL us):=if h:Ty.rM ts us=true then some (Ty.sR h▸x) else none
theorem Ty.DT:∀(ts:List Ty) (x:Ty.DL ts),(Ty.aI ts x).length=ts.length
 |[],_=>rfl
 |[t],_=>rfl
 |t::u::ts,x=>by simp only[Ty.aI,List.length_cons,Ty.DT (u::ts) x.2]
def Ty.eR:Ty->Bool
 |.list _=>false
 |_=>true
theorem Ty.xg (t:Ty) (x:t.D):(t.er x).eR=t.eR:=by cases t<;>rfl
def Ty.fA (ts:List Ty):Bool:=ts.all Ty.eR
theorem Ty.KQ:∀(ts:List Ty) (x:Ty.DL ts),Am.fA (Ty.aI ts x)=Ty.fA ts
 |[],_=>rfl
 |[t],x=>by simp[Am.fA,Ty.aI,Ty.fA];exact Ty.xg t x
 |t::u::ts,x=>by
  have:=Ty.KQ (u::ts) x.2
  simp only[Am.fA,Ty.fA] at this
  simp only[Am.fA,Ty.fA,Ty.aI,List.all_cons,Ty.xg] at this⊢
  rw[this]
inductive SC where
 |v (t:Ty) (x:t.D)
 |nil (ts:List Ty)
 |ptr (n k sz off:Nat)
 |cB (ts:List Ty) (x:Ty.DL ts) (off:Nat)
 |sl (n sz lo len:Nat)
 |bx (n k aA off sz len:Nat)
 |cV (n k aA off sz i:Nat)
 |fn (f:FuncId) (cA:List SC)
 |bn
instance:Inhabited SC:=⟨.bn⟩
mutual
def SC.er:SC->ah
 |.v t x=>.c (t.er x)
 |.nil ts=>.nil ts.length
 |.ptr n k sz off=>.ptr n k sz off
 |.cB ts x off=>.cB (Ty.aI ts x) off
 |.sl n sz lo len=>.sl n sz lo len
 |.bx n k aA off sz len=>.bx n k aA off sz len
 |.cV n k aA off sz i=>.cV n k aA off sz i
 |.fn f cA=>.fn f (SC.IX cA)
 |.bn=>.bn
def SC.IX:List SC->List ah
 |[]=>[]
 |c::cs=>SC.er c::SC.IX cs
end
theorem SC.DW (cs:List SC):SC.IX cs=cs.map SC.er:=by
 induction cs with
 |nil=>rfl
 |cons c cs ih=>simp[SC.IX,ih]
inductive SB where
 |box (cs:List SC)
 |row (gr:Bool) (m:Mode) (ts:List Ty) (xs:List (Ty.DL ts))
def SB.er:SB->ao
 |.box cs=>.box (cs.map SC.er)
 |.row gr m ts xs=>.row gr m ts.length (List.map (Ty.aI ts) xs)
inductive SV where
 |one (c:SC)
 |agg (cs:List SC)
 |bq (xs:List (Bool×List SC))
instance:Inhabited SV:=⟨.one .bn⟩
def SV.er:SV->aj
 |.one c=>.one c.er
 |.agg cs=>.agg (cs.map SC.er)
 |.bq xs=>.bq (xs.map fun x=>(x.1,x.2.map SC.er))
structure af where
 env:Nat->SV
 h:Nat->Option SB
 used:Nat->Bool
def qE (env:Nat->SV):Nat->aj:=fun s=>(env s).er
def cY (h:Nat->Option SB):Nat->Option ao:=fun n=>(h n).map SB.er
def af.er (σ:af):St:={env:=qE σ.env,h:=cY σ.h,used:=σ.used}
theorem v5 (env:Nat->SV) (n:Nat) (v:SV):qE (av env n v)=av (qE env) n v.er:=by
 funext s;simp only[qE,iY];split<;>rfl
theorem IU (h:Nat->Option SB) (n:Nat) (v:Option SB):cY (av h n v)=av (cY h) n (v.map SB.er):=by
 funext s;simp only[cY,iY];split<;>rfl
def af.put (σ:af) (d:Option Nat) (v:SV):af:=
 match d with
 |some n=>{σ with env:=av σ.env n v}
 |none=>σ
def af.ins (σ:af) (n:Nat) (b:SB):Option af:=
 match σ.used n with
 |true=>none
 |false=>some {σ with h:=av σ.h n (some b),used:=av σ.used n true}
def af.dB (σ:af) (n:Nat) (b:SB):af:={σ with h:=av σ.h n (some b)}
def af.del (σ:af) (n:Nat):af:={σ with h:=av σ.h n none}
theorem af.dw (σ:af) (d:Option Nat) (v:SV):(σ.put d v).er=σ.er.put d v.er:=by
 cases d with
 |none=>rfl
 |some n=>simp only[af.put,af.er,St.put,v5]
theorem af.s6 {σ σ1:af} {n:Nat} {b:SB} (h:σ.ins n b=some σ1):σ.er.ins n b.er=some σ1.er:=by
 unfold af.ins at h
 split at h
 ·cases h
 ·rename_i hu
  injection h with h
  subst h
  simp[St.ins,af.er,hu,IU]
theorem af.pt (σ:af) (n:Nat) (b:SB):(σ.dB n b).er=σ.er.dB n b.er:=by
 simp[af.dB,af.er,St.dB,IU]
theorem af.IW (σ:af) (n:Nat):(σ.del n).er=σ.er.del n:=by
 simp[af.del,af.er,St.del,IU]
def Ty.cells:(ts:List Ty)->Ty.DL ts->List SC
 |[],_=>[]
 |[t],x=>[.v t x]
 |t::u::ts,x=>.v t x.1::Ty.cells (u::ts) x.2
theorem Ty.ma:∀(ts:List Ty) (x:Ty.DL ts),(Ty.cells ts x).map SC.er=(Ty.aI ts x).map .c
 |[],_=>rfl
 |[t],x=>rfl
 |t::u::ts,x=>by simp only[Ty.cells,Ty.aI,List.map_cons,Ty.ma (u::ts) x.2];rfl
def QC (n k rs off:Nat) (t:Ty) (x:t.D):SC:=
 match t,x with
 |.list ts,xs=>.bx n k rs off ts.length (J (α:=Ty.DL ts) xs)
 |.int k',x=>.v (.int k') x
 |.bool,x=>.v .bool x
def Ty.live (n k rs:Nat):Nat->(ts:List Ty)->Ty.DL ts->List SC
 |_,[],_=>[]
 |off,[t],x=>[QC n k rs off t x]
 |off,t::u::ts,x=>QC n k rs off t x.1::Ty.live n k rs (off+1) (u::ts) x.2
theorem aaI (n k rs off:Nat) (t:Ty) (x:t.D) (l:List C):gQ n k rs off (t.er x::l)=(QC n k rs off t x).er::gQ n k rs (off+1) l:=by
 cases t with
 |int k'=>rfl
 |bool=>rfl
 |list ts=>
  exact congrArg (fun m=>ah.bx n k rs off ts.length m::gQ n k rs (off+1) l) (List.length_map (Ty.aI ts))
theorem Ty.aaN (n k rs:Nat):∀(off:Nat) (ts:List Ty) (x:Ty.DL ts),(Ty.live n k rs off ts x).map SC.er=gQ n k rs off (Ty.aI ts x)
 |_,[],_=>rfl
 |off,[t],x=>(aaI n k rs off t x []).symm
 |off,t::u::ts,x=>by simp only[Ty.live,Ty.aI,aaI,List.map_cons,Ty.aaN n k rs (off+1) (u::ts) x.2]
theorem aaJ (n k rs:Nat):∀(j off:Nat) (l:List C),(gQ n k rs off l).drop j=gQ n k rs (off+j) (l.drop j)
 |0,off,l=>by simp
 |j+1,off,[]=>by simp[gQ]
 |j+1,off,c::l=>by
  have ih:=aaJ n k rs j (off+1) l
  rw[show off+1+j=off+(j+1) by omega] at ih
  cases c<;>simpa[gQ] using ih
theorem aaM (n k rs:Nat):∀(j off:Nat) (l:List C),(gQ n k rs off l).take j=gQ n k rs off (l.take j)
 |0,off,l=>by simp[gQ]
 |j+1,off,[]=>by simp[gQ]
 |j+1,off,c::l=>by cases c<;>simp[gQ,aaM n k rs j (off+1) l]
theorem aaK (n k rs:Nat):∀(off:Nat) (l:List C),(gQ n k rs off l).length=l.length
 |off,[]=>rfl
 |off,c::l=>by cases c<;>simp[gQ,aaK n k rs (off+1) l]
theorem apt (n k rs off sz:Nat) (l:List C):sub (gQ n k rs 0 l) off sz=(sub l off sz).map (gQ n k rs off):=by
 unfold sub
 rw[aaK]
 split
 ·simp[aaJ,aaM]
 ·rfl
theorem tL {α β:Type} (f:α->β) (l:List α) (off sz:Nat):sub (l.map f) off sz=(sub l off sz).map (List.map f):=by
 unfold sub
 rw[List.length_map]
 split
 ·simp[List.map_drop,List.map_take]
 ·rfl
def x8 (t:Ty):(ts:List Ty)->t.D->Ty.DL ts->Ty.DL (t::ts)
 |[],x,_=>x
 |_::_,x,y=>(x,y)
theorem Nh (t:Ty) (ts:List Ty) (x:t.D) (y:Ty.DL ts):Ty.aI (t::ts) (x8 t ts x y)=t.er x::Ty.aI ts y:=by cases ts<;>rfl
def q9:(ts:List Ty)->List ((t:Ty)×t.D)->Option (Ty.DL ts)
 |[],[]=>some ()
 |t::ts,c::cs=>match Ty.cast c.1 t c.2,q9 ts cs with
  |some y,some z=>some (x8 t ts y z)
  |_,_=>none
 |_,_=>none
def cF (l:List ((t:Ty)×t.D)):List C:=l.map fun x=>x.1.er x.2
theorem wU:∀{ts:List Ty} {cs:List ((t:Ty)×t.D)} {y:Ty.DL ts},q9 ts cs=some y->Ty.aI ts y=cF cs
 |[],[],y,h=>rfl
 |t::ts,c::cs,y,h=>by
  simp only[q9] at h
  split at h
  ·rename_i y1 z h1 h2
   injection h with h
   subst h
   have:=wU h2
   simp only[cF] at this
   simp only[Nh,cF,List.map_cons,Ty.Xd h1,this]
  ·cases h
 |[],_::_,y,h=>by simp[q9] at h
 |t::ts,[],y,h=>by simp[q9] at h
def Ty.ie:(ts:List Ty)->Ty.DL ts->List ((t:Ty)×t.D)
 |[],_=>[]
 |[t],x=>[⟨t,x⟩]
 |t::u::ts,x=>⟨t,x.1⟩::Ty.ie (u::ts) x.2
theorem Ty.qy:∀(ts:List Ty) (x:Ty.DL ts),cF (Ty.ie ts x)=Ty.aI ts x
 |[],_=>rfl
 |[t],x=>rfl
 |t::u::ts,x=>by
  have:=Ty.qy (u::ts) x.2
  simp only[cF] at this
  simp only[Ty.ie,Ty.aI,cF,List.map_cons,this]
end Go.Am
end
