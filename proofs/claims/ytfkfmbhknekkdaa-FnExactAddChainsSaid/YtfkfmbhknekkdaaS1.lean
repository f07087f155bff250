/- S0, S1: parts of the proof. No condition. -/
import Derived.Test.YtfkfmbhknekkdaaAm30
import Derived.Test.YtfkfmbhknekkdaaAmW
set_option linter.unusedVariables false
section
namespace Go.Am
def _root_.Option.ah {α β:Type} (o:Option α) (f:α->Option β):Option β:=o.bind f
def aH {α:Type} (b:Bool) (x y:α):α:=cond b x y
def aP (k:IntKind) (a b:Int):Int:=k.wrap (a+b)
def nG (k:IntKind) (a b:Int):Int:=k.wrap (a - b)
def dc (k:IntKind) (a b:Int):Int:=k.wrap (a*b)
def ah6 (k:IntKind) (a:Int):Int:=k.wrap (0 - a)
def aaT (k:IntKind) (a:Int):Int:=k.wrap a
def Z3 (k:IntKind) (a b:Int):Int:=bits .and k a b
def orI (k:IntKind) (a b:Int):Int:=bits .or k a b
def alE (k:IntKind) (a b:Int):Int:=bits .xor k a b
def gd (a b:Int):Bool:=a==b
def fb (a b:Int):Bool:=a !=b
def cr (a b:Int):Bool:=decide (a<b)
def kP (a b:Int):Bool:=decide (a<=b)
def eqB (a b:Bool):Bool:=a==b
def Cu (a b:Bool):Bool:=a !=b
def fc (a:Bool):Bool:= !a
def MF (a b:Int):Int:=if a<b then b else a
def zz (a b:Int):Int:=if b<a then b else a
def aa {α:Type} (xs:List α):Nat:=xs.length
def be (n:Nat):Int:=(n:Int)
def bW (a b:Nat):Nat:=a+b
def eZ {α:Type} (xs:List α) (k:Nat):Option α:=xs[k]?
def cM {α:Type} (xs:List α) (k:Nat) (x:α):List α:=xs.set k x
def g8 {α:Type} (xs ys:List α):List α:=xs++ys
def fz {α:Type} (n:Nat) (x:α):List α:=List.replicate n x
def G8 {α:Type} (xs:List α) (lo len:Nat):List α:=(xs.drop lo).take len
def dP {α:Type} (xs:List α) (i:Int):Option α:=if 0<=i then xs[i.toNat]? else none
def iG (i:Int) (len:Nat):Option Nat:=if 0<=i/\i<len then some i.toNat else none
def u4 (lo hi:Int) (len:Nat):Option (Nat×Nat):=if 0<=lo/\lo<=hi/\hi<=len then some (lo.toNat,(hi - lo).toNat) else none
def d7 {α:Type} (xs:List α) (lo len:Nat):Option (List α):=if lo+len<=xs.length then some ((xs.drop lo).take len) else none
def iT {α:Type} (xs:List α) (len:Nat):Option (List α):=if len<=xs.length then some (xs.take len) else none
def EH {α:Type} (xs:List α) (lo len:Nat) (ys:List α):Option (List α):=if lo+len<=xs.length then some (xs.take lo++ys++xs.drop (lo+ys.length)) else none
def pV (a b:Int) (by_:Nat):Option Nat:=if a<=b/\0<=a/\b.toNat*by_<=fL then some a.toNat else none
def tO (n by_:Nat):Option Unit:=if n*by_<=fL then some () else none
def w7 (a b:Nat):Option Unit:=if a=b then some () else none
def aI (lo len l:Nat):Option Unit:=if lo=0/\len=l then some () else none
def XH (k:IntKind) (a b:Int):Option Int:=if b=0 then none else some (k.wrap (a.tdiv b))
def ru (a b:Int):Option Int:=if b=0 then none else some (a.tmod b)
def Yr (k:IntKind) (a b:Int):Option Int:=if b<0 then none else some (k.wrap (a*2^(min b.toNat k.bits)))
def Ys (k:IntKind) (a b:Int):Option Int:=if b<0 then none else some (a/(2^(min b.toNat k.bits)))
def cv {X Y:Type}:Nat->(X->Option (X⊕Y))->X->Option Y
 |0,_,_=>none
 |n+1,f,x=>match f x with
  |some (.inl x')=>cv n f x'
  |some (.inr y)=>some y
  |none=>none
def cJ {X ρ:Type} (o:Option (X⊕ρ)) (k:X->Option ρ):Option ρ:=o.bind fun s=>Sum.casesOn s k some
theorem dF {α β:Type} {o:Option α} {f:α->Option β} {b:β}:o.ah f=some b↔∃a,o=some a/\f a=some b:=Option.bind_eq_some_iff
theorem Jb {α:Type} (x y:α):aH true x y=x:=rfl
theorem EA {α:Type} (x y:α):aH false x y=y:=rfl
end Go.Am
end
section
namespace Go.Am
inductive Ty where
 |int (k:IntKind)
 |bool
 |list (ts:List Ty)
instance:Inhabited Ty:=⟨.bool⟩
mutual
def Ty.beq:Ty->Ty->Bool
 |.int k,.int k'=>decide (k=k')
 |.bool,.bool=>true
 |.list ts,.list us=>Ty.pd ts us
 |_,_=>false
def Ty.pd:List Ty->List Ty->Bool
 |[],[]=>true
 |t::ts,u::us=>Ty.beq t u&&Ty.pd ts us
 |_,_=>false
end
mutual
theorem Ty.beq_eq:∀{t u:Ty},Ty.beq t u=true->t=u
 |.int k,.int k',h=>by simp[Ty.beq] at h;rw[h]
 |.bool,.bool,_=>rfl
 |.list ts,.list us,h=>by simp only[Ty.beq] at h;rw[Ty.pf h]
 |.int _,.bool,h=>by simp[Ty.beq] at h
 |.int _,.list _,h=>by simp[Ty.beq] at h
 |.bool,.int _,h=>by simp[Ty.beq] at h
 |.bool,.list _,h=>by simp[Ty.beq] at h
 |.list _,.int _,h=>by simp[Ty.beq] at h
 |.list _,.bool,h=>by simp[Ty.beq] at h
theorem Ty.pf:∀{ts us:List Ty},Ty.pd ts us=true->ts=us
 |[],[],_=>rfl
 |t::ts,u::us,h=>by simp only[Ty.pd,Bool.and_eq_true] at h;rw[Ty.beq_eq h.1,Ty.pf h.2]
 |[],_::_,h=>by simp[Ty.pd] at h
 |_::_,[],h=>by simp[Ty.pd] at h
end
mutual
def Ty.D:Ty->Type
 |.int _=>Int
 |.bool=>Bool
 |.list ts=>List (Ty.DL ts)
def Ty.DL:List Ty->Type
 |[]=>Unit
 |t::ts=>match ts with
  |[]=>Ty.D t
  |u::us=>Ty.D t×Ty.DL (u::us)
end
mutual
def Ty.er:(t:Ty)->t.D->C
 |.int k,n=>.int k n
 |.bool,b=>.bool b
 |.list ts,xs=>.list ts.length (List.map (Ty.az ts) xs)
def Ty.az:(ts:List Ty)->Ty.DL ts->List C
 |[],_=>[]
 |[t],x=>[Ty.er t x]
 |t::u::ts,x=>Ty.er t x.1::Ty.az (u::ts) x.2
end
def Ty.cast (t u:Ty) (x:t.D):Option u.D:=if h:Ty.beq t u=true then some (Ty.beq_eq h▸x) else none
theorem Ty.Rv {t u:Ty} {x:t.D} {y:u.D} (h:Ty.cast t u x=some y):t.er x=u.er y:=by
 unfold Ty.cast at h
 split at h
 ·rename_i he
  have:=Ty.beq_eq he
  subst this
  injection h with h
  rw[<-h]
 ·cases h
def Ty.yc (ts us:List Ty) (x:Ty.DL ts):Option (Ty.DL us):=if h:Ty.pd ts us=true then some (Ty.pf h▸x) else none
theorem Ty.yt:∀(ts:List Ty) (x:Ty.DL ts),(Ty.az ts x).length=ts.length
 |[],_=>rfl
 |[t],_=>rfl
 |t::u::ts,x=>by simp only[Ty.az,List.length_cons,Ty.yt (u::ts) x.2]
def Ty.dX:Ty->Bool
 |.list _=>false
 |_=>true
theorem Ty.uV (t:Ty) (x:t.D):(t.er x).dX=t.dX:=by cases t<;>rfl
def Ty.eW (ts:List Ty):Bool:=ts.all Ty.dX
theorem Ty.GS:∀(ts:List Ty) (x:Ty.DL ts),Am.eW (Ty.az ts x)=Ty.eW ts
 |[],_=>rfl
 |[t],x=>by simp[Am.eW,Ty.az,Ty.eW];exact Ty.uV t x
 |t::u::ts,x=>by
  have:=Ty.GS (u::ts) x.2
  simp only[Am.eW,Ty.eW] at this
  simp only[Am.eW,Ty.eW,Ty.az,List.all_cons,Ty.uV] at this⊢
  rw[this]
inductive SC where
 |v (t:Ty) (x:t.D)
 |nil (ts:List Ty)
 |ptr (n k sz off:Nat)
 |bV (ts:List Ty) (x:Ty.DL ts) (off:Nat)
 |sl (n sz lo len:Nat)
 |bj (n k au off sz len:Nat)
 |cH (n k au off sz i:Nat)
 |bD (ts:List Ty) (x:Ty.DL ts) (off j n sz len:Nat)
 |fn (f:FuncId) (bM:List SC)
 |bg
instance:Inhabited SC:=⟨.bg⟩
mutual
def SC.er:SC->ae
 |.v t x=>.c (t.er x)
 |.nil ts=>.nil ts.length
 |.ptr n k sz off=>.ptr n k sz off
 |.bV ts x off=>.bV (Ty.az ts x) off
 |.sl n sz lo len=>.sl n sz lo len
 |.bj n k au off sz len=>.bj n k au off sz len
 |.cH n k au off sz i=>.cH n k au off sz i
 |.bD ts x off j n sz len=>.bD (Ty.az ts x) off j n sz len
 |.fn f bM=>.fn f (SC.EU bM)
 |.bg=>.bg
def SC.EU:List SC->List ae
 |[]=>[]
 |c::cs=>SC.er c::SC.EU cs
end
theorem SC.yw (cs:List SC):SC.EU cs=cs.map SC.er:=by
 induction cs with
 |nil=>rfl
 |cons c cs ih=>simp[SC.EU,ih]
inductive SB where
 |box (cs:List SC)
 |row (gr:Bool) (m:Mode) (ts:List Ty) (xs:List (Ty.DL ts))
def SB.er:SB->ak
 |.box cs=>.box (cs.map SC.er)
 |.row gr m ts xs=>.row gr m ts.length (List.map (Ty.az ts) xs)
inductive SV where
 |one (c:SC)
 |agg (cs:List SC)
 |aY (xs:List (Bool×List SC))
instance:Inhabited SV:=⟨.one .bg⟩
def SV.er:SV->ai
 |.one c=>.one c.er
 |.agg cs=>.agg (cs.map SC.er)
 |.aY xs=>.aY (xs.map fun x=>(x.1,x.2.map SC.er))
structure ab where
 env:Nat->SV
 h:Nat->Option SB
 used:Nat->Bool
def po (env:Nat->SV):Nat->ai:=fun s=>(env s).er
def cB (h:Nat->Option SB):Nat->Option ak:=fun n=>(h n).map SB.er
def ab.er (σ:ab):St:={env:=po σ.env,h:=cB σ.h,used:=σ.used}
theorem yr (env:Nat->SV) (n:Nat) (v:SV):po (aq env n v)=aq (po env) n v.er:=by
 funext s;simp only[po,ik];split<;>rfl
theorem ER (h:Nat->Option SB) (n:Nat) (v:Option SB):cB (aq h n v)=aq (cB h) n (v.map SB.er):=by
 funext s;simp only[cB,ik];split<;>rfl
def ab.put (σ:ab) (d:Option Nat) (v:SV):ab:=
 match d with
 |some n=>{σ with env:=aq σ.env n v}
 |none=>σ
def ab.ins (σ:ab) (n:Nat) (b:SB):Option ab:=
 match σ.used n with
 |true=>none
 |false=>some {σ with h:=aq σ.h n (some b),used:=aq σ.used n true}
def ab.df (σ:ab) (n:Nat) (b:SB):ab:={σ with h:=aq σ.h n (some b)}
def ab.del (σ:ab) (n:Nat):ab:={σ with h:=aq σ.h n none}
theorem ab.cW (σ:ab) (d:Option Nat) (v:SV):(σ.put d v).er=σ.er.put d v.er:=by
 cases d with
 |none=>rfl
 |some n=>simp only[ab.put,ab.er,St.put,yr]
theorem ab.qF {σ σ1:ab} {n:Nat} {b:SB} (h:σ.ins n b=some σ1):σ.er.ins n b.er=some σ1.er:=by
 unfold ab.ins at h
 split at h
 ·cases h
 ·rename_i hu
  injection h with h
  subst h
  simp[St.ins,ab.er,hu,ER]
theorem ab.mY (σ:ab) (n:Nat) (b:SB):(σ.df n b).er=σ.er.df n b.er:=by
 simp[ab.df,ab.er,St.df,ER]
theorem ab.ET (σ:ab) (n:Nat):(σ.del n).er=σ.er.del n:=by
 simp[ab.del,ab.er,St.del,ER]
def Ty.cells:(ts:List Ty)->Ty.DL ts->List SC
 |[],_=>[]
 |[t],x=>[.v t x]
 |t::u::ts,x=>.v t x.1::Ty.cells (u::ts) x.2
theorem Ty.jT:∀(ts:List Ty) (x:Ty.DL ts),(Ty.cells ts x).map SC.er=(Ty.az ts x).map .c
 |[],_=>rfl
 |[t],x=>rfl
 |t::u::ts,x=>by simp only[Ty.cells,Ty.az,List.map_cons,Ty.jT (u::ts) x.2];rfl
def Mt (n k rs off:Nat) (t:Ty) (x:t.D):SC:=
 match t,x with
 |.list ts,xs=>.bj n k rs off ts.length (aa (α:=Ty.DL ts) xs)
 |.int k',x=>.v (.int k') x
 |.bool,x=>.v .bool x
def Ty.live (n k rs:Nat):Nat->(ts:List Ty)->Ty.DL ts->List SC
 |_,[],_=>[]
 |off,[t],x=>[Mt n k rs off t x]
 |off,t::u::ts,x=>Mt n k rs off t x.1::Ty.live n k rs (off+1) (u::ts) x.2
theorem WM (n k rs off:Nat) (t:Ty) (x:t.D) (l:List C):fT n k rs off (t.er x::l)=(Mt n k rs off t x).er::fT n k rs (off+1) l:=by
 cases t with
 |int k'=>rfl
 |bool=>rfl
 |list ts=>
  exact congrArg (fun m=>ae.bj n k rs off ts.length m::fT n k rs (off+1) l) (List.length_map (Ty.az ts))
theorem Ty.WS (n k rs:Nat):∀(off:Nat) (ts:List Ty) (x:Ty.DL ts),(Ty.live n k rs off ts x).map SC.er=fT n k rs off (Ty.az ts x)
 |_,[],_=>rfl
 |off,[t],x=>(WM n k rs off t x []).symm
 |off,t::u::ts,x=>by simp only[Ty.live,Ty.az,WM,List.map_cons,Ty.WS n k rs (off+1) (u::ts) x.2]
theorem WN (n k rs:Nat):∀(j off:Nat) (l:List C),(fT n k rs off l).drop j=fT n k rs (off+j) (l.drop j)
 |0,off,l=>by simp
 |j+1,off,[]=>by simp[fT]
 |j+1,off,c::l=>by
  have ih:=WN n k rs j (off+1) l
  rw[show off+1+j=off+(j+1) by omega] at ih
  cases c<;>simpa[fT] using ih
theorem WR (n k rs:Nat):∀(j off:Nat) (l:List C),(fT n k rs off l).take j=fT n k rs off (l.take j)
 |0,off,l=>by simp[fT]
 |j+1,off,[]=>by simp[fT]
 |j+1,off,c::l=>by cases c<;>simp[fT,WR n k rs j (off+1) l]
theorem WO (n k rs:Nat):∀(off:Nat) (l:List C),(fT n k rs off l).length=l.length
 |off,[]=>rfl
 |off,c::l=>by cases c<;>simp[fT,WO n k rs (off+1) l]
theorem akW (n k rs off sz:Nat) (l:List C):sub (fT n k rs 0 l) off sz=(sub l off sz).map (fT n k rs off):=by
 unfold sub
 rw[WO]
 split
 ·simp[WN,WR]
 ·rfl
theorem oP {α β:Type} (f:α->β) (l:List α) (off sz:Nat):sub (l.map f) off sz=(sub l off sz).map (List.map f):=by
 unfold sub
 rw[List.length_map]
 split
 ·simp[List.map_drop,List.map_take]
 ·rfl
def vN (t:Ty):(ts:List Ty)->t.D->Ty.DL ts->Ty.DL (t::ts)
 |[],x,_=>x
 |_::_,x,y=>(x,y)
theorem Jd (t:Ty) (ts:List Ty) (x:t.D) (y:Ty.DL ts):Ty.az (t::ts) (vN t ts x y)=t.er x::Ty.az ts y:=by cases ts<;>rfl
def oy:(ts:List Ty)->List ((t:Ty)×t.D)->Option (Ty.DL ts)
 |[],[]=>some ()
 |t::ts,c::cs=>match Ty.cast c.1 t c.2,oy ts cs with
  |some y,some z=>some (vN t ts y z)
  |_,_=>none
 |_,_=>none
def cA (l:List ((t:Ty)×t.D)):List C:=l.map fun x=>x.1.er x.2
theorem uA:∀{ts:List Ty} {cs:List ((t:Ty)×t.D)} {y:Ty.DL ts},oy ts cs=some y->Ty.az ts y=cA cs
 |[],[],y,h=>rfl
 |t::ts,c::cs,y,h=>by
  simp only[oy] at h
  split at h
  ·rename_i y1 z h1 h2
   injection h with h
   subst h
   have:=uA h2
   simp only[cA] at this
   simp only[Jd,cA,List.map_cons,Ty.Rv h1,this]
  ·cases h
 |[],_::_,y,h=>by simp[oy] at h
 |t::ts,[],y,h=>by simp[oy] at h
def Ty.f0:(ts:List Ty)->Ty.DL ts->List ((t:Ty)×t.D)
 |[],_=>[]
 |[t],x=>[⟨t,x⟩]
 |t::u::ts,x=>⟨t,x.1⟩::Ty.f0 (u::ts) x.2
theorem Ty.pg:∀(ts:List Ty) (x:Ty.DL ts),cA (Ty.f0 ts x)=Ty.az ts x
 |[],_=>rfl
 |[t],x=>rfl
 |t::u::ts,x=>by
  have:=Ty.pg (u::ts) x.2
  simp only[cA] at this
  simp only[Ty.f0,Ty.az,cA,List.map_cons,this]
end Go.Am
end
