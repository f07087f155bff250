/- S0, S1: parts of the proof. No condition. -/
import Derived.Test.YtbgmbplglejidaaAm30
import Derived.Test.YtbgmbplglejidaaAmW
set_option linter.unusedVariables false
section
namespace Go.Am
def _root_.Option.ab {α β:Type} (o:Option α) (f:α->Option β):Option β:=o.bind f
def ax {α:Type} (b:Bool) (x y:α):α:=cond b x y
def bA (k:IntKind) (a b:Int):Int:=k.wrap (a+b)
def iF (k:IntKind) (a b:Int):Int:=k.wrap (a - b)
def cd (k:IntKind) (a b:Int):Int:=k.wrap (a*b)
def ao3 (k:IntKind) (a:Int):Int:=k.wrap (0 - a)
def yH (k:IntKind) (a:Int):Int:=k.wrap a
def qy (k:IntKind) (a b:Int):Int:=bits .and k a b
def orI (k:IntKind) (a b:Int):Int:=bits .or k a b
def Xo (k:IntKind) (a b:Int):Int:=bits .xor k a b
def cJ (a b:Int):Bool:=a==b
def gC (a b:Int):Bool:=a !=b
def bG (a b:Int):Bool:=decide (a<b)
def iW (a b:Int):Bool:=decide (a<=b)
def eqB (a b:Bool):Bool:=a==b
def KS (a b:Bool):Bool:=a !=b
def dA (a:Bool):Bool:= !a
def zW (a b:Int):Int:=if a<b then b else a
def o7 (a b:Int):Int:=if b<a then b else a
def aa {α:Type} (xs:List α):Nat:=xs.length
def aS (n:Nat):Int:=(n:Int)
def bj (a b:Nat):Nat:=a+b
def dt {α:Type} (xs:List α) (k:Nat):Option α:=xs[k]?
def bR {α:Type} (xs:List α) (k:Nat) (x:α):List α:=xs.set k x
def eY {α:Type} (xs ys:List α):List α:=xs++ys
def eU {α:Type} (n:Nat) (x:α):List α:=List.replicate n x
def lr {α:Type} (xs:List α) (lo len:Nat):List α:=(xs.drop lo).take len
def eo {α:Type} (xs:List α) (i:Int):Option α:=if 0<=i then xs[i.toNat]? else none
def fj (i:Int) (len:Nat):Option Nat:=if 0<=i/\i<len then some i.toNat else none
def mR (lo hi:Int) (len:Nat):Option (Nat×Nat):=if 0<=lo/\lo<=hi/\hi<=len then some (lo.toNat,(hi - lo).toNat) else none
def cr {α:Type} (xs:List α) (lo len:Nat):Option (List α):=if lo+len<=xs.length then some ((xs.drop lo).take len) else none
def dw {α:Type} (xs:List α) (len:Nat):Option (List α):=if len<=xs.length then some (xs.take len) else none
def Jm {α:Type} (xs:List α) (lo len:Nat) (ys:List α):Option (List α):=if lo+len<=xs.length then some (xs.take lo++ys++xs.drop (lo+ys.length)) else none
def rh (a b:Int) (by_:Nat):Option Nat:=if a<=b/\0<=a/\b.toNat*by_<=eQ then some a.toNat else none
def lH (n by_:Nat):Option Unit:=if n*by_<=eQ then some () else none
def qm (a b:Nat):Option Unit:=if a=b then some () else none
def ai (lo len l:Nat):Option Unit:=if lo=0/\len=l then some () else none
def Ah (k:IntKind) (a b:Int):Option Int:=if b=0 then none else some (k.wrap (a.tdiv b))
def iZ (a b:Int):Option Int:=if b=0 then none else some (a.tmod b)
def Ar (k:IntKind) (a b:Int):Option Int:=if b<0 then none else some (k.wrap (a*2^(min b.toNat k.bits)))
def t7 (k:IntKind) (a b:Int):Option Int:=if b<0 then none else some (a/(2^(min b.toNat k.bits)))
def bM {X Y:Type}:Nat->(X->Option (X⊕Y))->X->Option Y
 |0,_,_=>none
 |n+1,f,x=>match f x with
  |some (.inl x')=>bM n f x'
  |some (.inr y)=>some y
  |none=>none
def ca {X ρ:Type} (o:Option (X⊕ρ)) (k:X->Option ρ):Option ρ:=o.bind fun s=>Sum.casesOn s k some
theorem eZ {α β:Type} {o:Option α} {f:α->Option β} {b:β}:o.ab f=some b↔∃a,o=some a/\f a=some b:=Option.bind_eq_some_iff
theorem Ji {α:Type} (x y:α):ax true x y=x:=rfl
theorem Es {α:Type} (x y:α):ax false x y=y:=rfl
end Go.Am
end
section
namespace Go.Am
inductive Ty where
 |int (k:IntKind)
 |bool
 |list (ts:List Ty)
instance:Inhabited Ty:=⟨.bool⟩
mutual
def Ty.beq:Ty->Ty->Bool
 |.int k,.int k'=>decide (k=k')
 |.bool,.bool=>true
 |.list ts,.list us=>Ty.rQ ts us
 |_,_=>false
def Ty.rQ:List Ty->List Ty->Bool
 |[],[]=>true
 |t::ts,u::us=>Ty.beq t u&&Ty.rQ ts us
 |_,_=>false
end
mutual
theorem Ty.beq_eq:∀{t u:Ty},Ty.beq t u=true->t=u
 |.int k,.int k',h=>by simp[Ty.beq] at h;rw[h]
 |.bool,.bool,_=>rfl
 |.list ts,.list us,h=>by simp only[Ty.beq] at h;rw[Ty.s6 h]
 |.int _,.bool,h=>by simp[Ty.beq] at h
 |.int _,.list _,h=>by simp[Ty.beq] at h
 |.bool,.int _,h=>by simp[Ty.beq] at h
 |.bool,.list _,h=>by simp[Ty.beq] at h
 |.list _,.int _,h=>by simp[Ty.beq] at h
 |.list _,.bool,h=>by simp[Ty.beq] at h
theorem Ty.s6:∀{ts us:List Ty},Ty.rQ ts us=true->ts=us
 |[],[],_=>rfl
 |t::ts,u::us,h=>by simp only[Ty.rQ,Bool.and_eq_true] at h;rw[Ty.beq_eq h.1,Ty.s6 h.2]
 |[],_::_,h=>by simp[Ty.rQ] at h
 |_::_,[],h=>by simp[Ty.rQ] at h
end
mutual
def Ty.D:Ty->Type
 |.int _=>Int
 |.bool=>Bool
 |.list ts=>List (Ty.DL ts)
def Ty.DL:List Ty->Type
 |[]=>Unit
 |t::ts=>match ts with
  |[]=>Ty.D t
  |u::us=>Ty.D t×Ty.DL (u::us)
end
mutual
def Ty.er:(t:Ty)->t.D->C
 |.int k,n=>.int k n
 |.bool,b=>.bool b
 |.list ts,xs=>.list ts.length (List.map (Ty.aI ts) xs)
def Ty.aI:(ts:List Ty)->Ty.DL ts->List C
 |[],_=>[]
 |[t],x=>[Ty.er t x]
 |t::u::ts,x=>Ty.er t x.1::Ty.aI (u::ts) x.2
end
def Ty.cast (t u:Ty) (x:t.D):Option u.D:=if h:Ty.beq t u=true then some (Ty.beq_eq h▸x) else none
theorem Ty.Yl {t u:Ty} {x:t.D} {y:u.D} (h:Ty.cast t u x=some y):t.er x=u.er y:=by
 unfold Ty.cast at h
 split at h
 ·rename_i he
  have:=Ty.beq_eq he
  subst this
  injection h with h
  rw[<-h]
 ·cases h
def Ty.Ns (ts us:List Ty) (x:Ty.DL ts):Option (Ty.DL us):=if h:Ty.rQ ts us=true then some (Ty.s6 h▸x) else none
theorem Ty.EE:∀(ts:List Ty) (x:Ty.DL ts),(Ty.aI ts x).length=ts.length
 |[],_=>rfl
 |[t],_=>rfl
 |t::u::ts,x=>by simp only[Ty.aI,List.length_cons,Ty.EE (u::ts) x.2]
def Ty.eV:Ty->Bool
 |.list _=>false
 |_=>true
theorem Ty.xO (t:Ty) (x:t.D):(t.er x).eV=t.eV:=by cases t<;>rfl
def Ty.fK (ts:List Ty):Bool:=ts.all Ty.eV
theorem Ty.Lp:∀(ts:List Ty) (x:Ty.DL ts),Am.fK (Ty.aI ts x)=Ty.fK ts
 |[],_=>rfl
 |[t],x=>by simp[Am.fK,Ty.aI,Ty.fK];exact Ty.xO t x
 |t::u::ts,x=>by
  have:=Ty.Lp (u::ts) x.2
  simp only[Am.fK,Ty.fK] at this
  simp only[Am.fK,Ty.fK,Ty.aI,List.all_cons,Ty.xO] at this⊢
  rw[this]
inductive SC where
 |v (t:Ty) (x:t.D)
 |nil (ts:List Ty)
 |ptr (n k sz off:Nat)
 |cH (ts:List Ty) (x:Ty.DL ts) (off:Nat)
 |sl (n sz lo len:Nat)
 |bE (n k aE off sz len:Nat)
 |c7 (n k aE off sz i:Nat)
 |fn (f:FuncId) (cF:List SC)
 |bq
instance:Inhabited SC:=⟨.bq⟩
mutual
def SC.er:SC->aj
 |.v t x=>.c (t.er x)
 |.nil ts=>.nil ts.length
 |.ptr n k sz off=>.ptr n k sz off
 |.cH ts x off=>.cH (Ty.aI ts x) off
 |.sl n sz lo len=>.sl n sz lo len
 |.bE n k aE off sz len=>.bE n k aE off sz len
 |.c7 n k aE off sz i=>.c7 n k aE off sz i
 |.fn f cF=>.fn f (SC.JA cF)
 |.bq=>.bq
def SC.JA:List SC->List aj
 |[]=>[]
 |c::cs=>SC.er c::SC.JA cs
end
theorem SC.EH (cs:List SC):SC.JA cs=cs.map SC.er:=by
 induction cs with
 |nil=>rfl
 |cons c cs ih=>simp[SC.JA,ih]
inductive SB where
 |box (cs:List SC)
 |row (gr:Bool) (m:Mode) (ts:List Ty) (xs:List (Ty.DL ts))
def SB.er:SB->ar
 |.box cs=>.box (cs.map SC.er)
 |.row gr m ts xs=>.row gr m ts.length (List.map (Ty.aI ts) xs)
inductive SV where
 |one (c:SC)
 |agg (cs:List SC)
 |br (xs:List (Bool×List SC))
instance:Inhabited SV:=⟨.one .bq⟩
def SV.er:SV->ak
 |.one c=>.one c.er
 |.agg cs=>.agg (cs.map SC.er)
 |.br xs=>.br (xs.map fun x=>(x.1,x.2.map SC.er))
structure ah where
 env:Nat->SV
 h:Nat->Option SB
 used:Nat->Bool
def qK (env:Nat->SV):Nat->ak:=fun s=>(env s).er
def dc (h:Nat->Option SB):Nat->Option ar:=fun n=>(h n).map SB.er
def ah.er (σ:ah):St:={env:=qK σ.env,h:=dc σ.h,used:=σ.used}
theorem wH (env:Nat->SV) (n:Nat) (v:SV):qK (aA env n v)=aA (qK env) n v.er:=by
 funext s;simp only[qK,jr];split<;>rfl
theorem Jx (h:Nat->Option SB) (n:Nat) (v:Option SB):dc (aA h n v)=aA (dc h) n (v.map SB.er):=by
 funext s;simp only[dc,jr];split<;>rfl
def ah.put (σ:ah) (d:Option Nat) (v:SV):ah:=
 match d with
 |some n=>{σ with env:=aA σ.env n v}
 |none=>σ
def ah.ins (σ:ah) (n:Nat) (b:SB):Option ah:=
 match σ.used n with
 |true=>none
 |false=>some {σ with h:=aA σ.h n (some b),used:=aA σ.used n true}
def ah.dB (σ:ah) (n:Nat) (b:SB):ah:={σ with h:=aA σ.h n (some b)}
def ah.del (σ:ah) (n:Nat):ah:={σ with h:=aA σ.h n none}
theorem ah.dv (σ:ah) (d:Option Nat) (v:SV):(σ.put d v).er=σ.er.put d v.er:=by
 cases d with
 |none=>rfl
 |some n=>simp only[ah.put,ah.er,St.put,wH]
theorem ah.th {σ σ1:ah} {n:Nat} {b:SB} (h:σ.ins n b=some σ1):σ.er.ins n b.er=some σ1.er:=by
 unfold ah.ins at h
 split at h
 ·cases h
 ·rename_i hu
  injection h with h
  subst h
  simp[St.ins,ah.er,hu,Jx]
theorem ah.pF (σ:ah) (n:Nat) (b:SB):(σ.dB n b).er=σ.er.dB n b.er:=by
 simp[ah.dB,ah.er,St.dB,Jx]
theorem ah.Jz (σ:ah) (n:Nat):(σ.del n).er=σ.er.del n:=by
 simp[ah.del,ah.er,St.del,Jx]
def Ty.cells:(ts:List Ty)->Ty.DL ts->List SC
 |[],_=>[]
 |[t],x=>[.v t x]
 |t::u::ts,x=>.v t x.1::Ty.cells (u::ts) x.2
theorem Ty.mA:∀(ts:List Ty) (x:Ty.DL ts),(Ty.cells ts x).map SC.er=(Ty.aI ts x).map .c
 |[],_=>rfl
 |[t],x=>rfl
 |t::u::ts,x=>by simp only[Ty.cells,Ty.aI,List.map_cons,Ty.mA (u::ts) x.2];rfl
def Rs (n k rs off:Nat) (t:Ty) (x:t.D):SC:=
 match t,x with
 |.list ts,xs=>.bE n k rs off ts.length (aa (α:=Ty.DL ts) xs)
 |.int k',x=>.v (.int k') x
 |.bool,x=>.v .bool x
def Ty.live (n k rs:Nat):Nat->(ts:List Ty)->Ty.DL ts->List SC
 |_,[],_=>[]
 |off,[t],x=>[Rs n k rs off t x]
 |off,t::u::ts,x=>Rs n k rs off t x.1::Ty.live n k rs (off+1) (u::ts) x.2
theorem abD (n k rs off:Nat) (t:Ty) (x:t.D) (l:List C):gY n k rs off (t.er x::l)=(Rs n k rs off t x).er::gY n k rs (off+1) l:=by
 cases t with
 |int k'=>rfl
 |bool=>rfl
 |list ts=>
  exact congrArg (fun m=>aj.bE n k rs off ts.length m::gY n k rs (off+1) l) (List.length_map (Ty.aI ts))
theorem Ty.abI (n k rs:Nat):∀(off:Nat) (ts:List Ty) (x:Ty.DL ts),(Ty.live n k rs off ts x).map SC.er=gY n k rs off (Ty.aI ts x)
 |_,[],_=>rfl
 |off,[t],x=>(abD n k rs off t x []).symm
 |off,t::u::ts,x=>by simp only[Ty.live,Ty.aI,abD,List.map_cons,Ty.abI n k rs (off+1) (u::ts) x.2]
theorem abE (n k rs:Nat):∀(j off:Nat) (l:List C),(gY n k rs off l).drop j=gY n k rs (off+j) (l.drop j)
 |0,off,l=>by simp
 |j+1,off,[]=>by simp[gY]
 |j+1,off,c::l=>by
  have ih:=abE n k rs j (off+1) l
  rw[show off+1+j=off+(j+1) by omega] at ih
  cases c<;>simpa[gY] using ih
theorem abH (n k rs:Nat):∀(j off:Nat) (l:List C),(gY n k rs off l).take j=gY n k rs off (l.take j)
 |0,off,l=>by simp[gY]
 |j+1,off,[]=>by simp[gY]
 |j+1,off,c::l=>by cases c<;>simp[gY,abH n k rs j (off+1) l]
theorem abF (n k rs:Nat):∀(off:Nat) (l:List C),(gY n k rs off l).length=l.length
 |off,[]=>rfl
 |off,c::l=>by cases c<;>simp[gY,abF n k rs (off+1) l]
theorem asx (n k rs off sz:Nat) (l:List C):sub (gY n k rs 0 l) off sz=(sub l off sz).map (gY n k rs off):=by
 unfold sub
 rw[abF]
 split
 ·simp[abE,abH]
 ·rfl
theorem ud {α β:Type} (f:α->β) (l:List α) (off sz:Nat):sub (l.map f) off sz=(sub l off sz).map (List.map f):=by
 unfold sub
 rw[List.length_map]
 split
 ·simp[List.map_drop,List.map_take]
 ·rfl
def yG (t:Ty):(ts:List Ty)->t.D->Ty.DL ts->Ty.DL (t::ts)
 |[],x,_=>x
 |_::_,x,y=>(x,y)
theorem NM (t:Ty) (ts:List Ty) (x:t.D) (y:Ty.DL ts):Ty.aI (t::ts) (yG t ts x y)=t.er x::Ty.aI ts y:=by cases ts<;>rfl
def rf:(ts:List Ty)->List ((t:Ty)×t.D)->Option (Ty.DL ts)
 |[],[]=>some ()
 |t::ts,c::cs=>match Ty.cast c.1 t c.2,rf ts cs with
  |some y,some z=>some (yG t ts y z)
  |_,_=>none
 |_,_=>none
def cQ (l:List ((t:Ty)×t.D)):List C:=l.map fun x=>x.1.er x.2
theorem xx:∀{ts:List Ty} {cs:List ((t:Ty)×t.D)} {y:Ty.DL ts},rf ts cs=some y->Ty.aI ts y=cQ cs
 |[],[],y,h=>rfl
 |t::ts,c::cs,y,h=>by
  simp only[rf] at h
  split at h
  ·rename_i y1 z h1 h2
   injection h with h
   subst h
   have:=xx h2
   simp only[cQ] at this
   simp only[NM,cQ,List.map_cons,Ty.Yl h1,this]
  ·cases h
 |[],_::_,y,h=>by simp[rf] at h
 |t::ts,[],y,h=>by simp[rf] at h
def Ty.iq:(ts:List Ty)->Ty.DL ts->List ((t:Ty)×t.D)
 |[],_=>[]
 |[t],x=>[⟨t,x⟩]
 |t::u::ts,x=>⟨t,x.1⟩::Ty.iq (u::ts) x.2
theorem Ty.qG:∀(ts:List Ty) (x:Ty.DL ts),cQ (Ty.iq ts x)=Ty.aI ts x
 |[],_=>rfl
 |[t],x=>rfl
 |t::u::ts,x=>by
  have:=Ty.qG (u::ts) x.2
  simp only[cQ] at this
  simp only[Ty.iq,Ty.aI,cQ,List.map_cons,this]
end Go.Am
end
