/- S0, S1: parts of the proof. No condition. -/
import Derived.Test.YtifmggmhdcdgbaaAm30
import Derived.Test.YtifmggmhdcdgbaaAmW
set_option linter.unusedVariables false
section
namespace Go.Am
def _root_.Option.U {α β:Type} (o:Option α) (f:α->Option β):Option β:=o.bind f
def aw {α:Type} (b:Bool) (x y:α):α:=cond b x y
def aW (k:IntKind) (a b:Int):Int:=k.wrap (a+b)
def jR (k:IntKind) (a b:Int):Int:=k.wrap (a - b)
def cK (k:IntKind) (a b:Int):Int:=k.wrap (a*b)
def alA (k:IntKind) (a:Int):Int:=k.wrap (0 - a)
def ac4 (k:IntKind) (a:Int):Int:=k.wrap a
def GN (k:IntKind) (a b:Int):Int:=bits .and k a b
def orI (k:IntKind) (a b:Int):Int:=bits .or k a b
def aoA (k:IntKind) (a b:Int):Int:=bits .xor k a b
def fS (a b:Int):Bool:=a==b
def dd (a b:Int):Bool:=a !=b
def bi (a b:Int):Bool:=decide (a<b)
def pR (a b:Int):Bool:=decide (a<=b)
def eqB (a b:Bool):Bool:=a==b
def Eg (a b:Bool):Bool:=a !=b
def dY (a:Bool):Bool:= !a
def PT (a b:Int):Int:=if a<b then b else a
def PU (a b:Int):Int:=if b<a then b else a
def J {α:Type} (xs:List α):Nat:=xs.length
def aM (n:Nat):Int:=(n:Int)
def aH (a b:Nat):Nat:=a+b
def db {α:Type} (xs:List α) (k:Nat):Option α:=xs[k]?
def cb {α:Type} (xs:List α) (k:Nat) (x:α):List α:=xs.set k x
def bY {α:Type} (xs ys:List α):List α:=xs++ys
def iD {α:Type} (n:Nat) (x:α):List α:=List.replicate n x
def s0 {α:Type} (xs:List α) (lo len:Nat):List α:=(xs.drop lo).take len
def dk {α:Type} (xs:List α) (i:Int):Option α:=if 0<=i then xs[i.toNat]? else none
def dU (i:Int) (len:Nat):Option Nat:=if 0<=i/\i<len then some i.toNat else none
def uF (lo hi:Int) (len:Nat):Option (Nat×Nat):=if 0<=lo/\lo<=hi/\hi<=len then some (lo.toNat,(hi - lo).toNat) else none
def bG {α:Type} (xs:List α) (lo len:Nat):Option (List α):=if lo+len<=xs.length then some ((xs.drop lo).take len) else none
def cP {α:Type} (xs:List α) (len:Nat):Option (List α):=if len<=xs.length then some (xs.take len) else none
def Hf {α:Type} (xs:List α) (lo len:Nat) (ys:List α):Option (List α):=if lo+len<=xs.length then some (xs.take lo++ys++xs.drop (lo+ys.length)) else none
def wz (a b:Int) (by_:Nat):Option Nat:=if a<=b/\0<=a/\b.toNat*by_<=dA then some a.toNat else none
def iL (n by_:Nat):Option Unit:=if n*by_<=dA then some () else none
def nR (a b:Nat):Option Unit:=if a=b then some () else none
def ab (lo len l:Nat):Option Unit:=if lo=0/\len=l then some () else none
def Ew (k:IntKind) (a b:Int):Option Int:=if b=0 then none else some (k.wrap (a.tdiv b))
def fD (a b:Int):Option Int:=if b=0 then none else some (a.tmod b)
def aaP (k:IntKind) (a b:Int):Option Int:=if b<0 then none else some (k.wrap (a*2^(min b.toNat k.bits)))
def BO (k:IntKind) (a b:Int):Option Int:=if b<0 then none else some (a/(2^(min b.toNat k.bits)))
def bd {X Y:Type}:Nat->(X->Option (X⊕Y))->X->Option Y
 |0,_,_=>none
 |n+1,f,x=>match f x with
  |some (.inl x')=>bd n f x'
  |some (.inr y)=>some y
  |none=>none
def bL {X ρ:Type} (o:Option (X⊕ρ)) (k:X->Option ρ):Option ρ:=o.bind fun s=>Sum.casesOn s k some
theorem eC {α β:Type} {o:Option α} {f:α->Option β} {b:β}:o.U f=some b↔∃a,o=some a/\f a=some b:=Option.bind_eq_some_iff
theorem CC {α:Type} (x y:α):aw true x y=x:=rfl
theorem Ha {α:Type} (x y:α):aw false x y=y:=rfl
end Go.Am
end
section
namespace Go.Am
inductive Ty where
 |int (k:IntKind)
 |bool
 |list (ts:List Ty)
instance:Inhabited Ty:=⟨.bool⟩
mutual
def Ty.beq:Ty->Ty->Bool
 |.int k,.int k'=>decide (k=k')
 |.bool,.bool=>true
 |.list ts,.list us=>Ty.qv ts us
 |_,_=>false
def Ty.qv:List Ty->List Ty->Bool
 |[],[]=>true
 |t::ts,u::us=>Ty.beq t u&&Ty.qv ts us
 |_,_=>false
end
mutual
theorem Ty.beq_eq:∀{t u:Ty},Ty.beq t u=true->t=u
 |.int k,.int k',h=>by simp[Ty.beq] at h;rw[h]
 |.bool,.bool,_=>rfl
 |.list ts,.list us,h=>by simp only[Ty.beq] at h;rw[Ty.rH h]
 |.int _,.bool,h=>by simp[Ty.beq] at h
 |.int _,.list _,h=>by simp[Ty.beq] at h
 |.bool,.int _,h=>by simp[Ty.beq] at h
 |.bool,.list _,h=>by simp[Ty.beq] at h
 |.list _,.int _,h=>by simp[Ty.beq] at h
 |.list _,.bool,h=>by simp[Ty.beq] at h
theorem Ty.rH:∀{ts us:List Ty},Ty.qv ts us=true->ts=us
 |[],[],_=>rfl
 |t::ts,u::us,h=>by simp only[Ty.qv,Bool.and_eq_true] at h;rw[Ty.beq_eq h.1,Ty.rH h.2]
 |[],_::_,h=>by simp[Ty.qv] at h
 |_::_,[],h=>by simp[Ty.qv] at h
end
mutual
def Ty.D:Ty->Type
 |.int _=>Int
 |.bool=>Bool
 |.list ts=>List (Ty.DL ts)
def Ty.DL:List Ty->Type
 |[]=>Unit
 |t::ts=>match ts with
  |[]=>Ty.D t
  |u::us=>Ty.D t×Ty.DL (u::us)
end
mutual
def Ty.er:(t:Ty)->t.D->C
 |.int k,n=>.int k n
 |.bool,b=>.bool b
 |.list ts,xs=>.list ts.length (List.map (Ty.aF ts) xs)
def Ty.aF:(ts:List Ty)->Ty.DL ts->List C
 |[],_=>[]
 |[t],x=>[Ty.er t x]
 |t::u::ts,x=>Ty.er t x.1::Ty.aF (u::ts) x.2
end
def Ty.cast (t u:Ty) (x:t.D):Option u.D:=if h:Ty.beq t u=true then some (Ty.beq_eq h▸x) else none
theorem Ty.Vq {t u:Ty} {x:t.D} {y:u.D} (h:Ty.cast t u x=some y):t.er x=u.er y:=by
 unfold Ty.cast at h
 split at h
 ·rename_i he
  have:=Ty.beq_eq he
  subst this
  injection h with h
  rw[<-h]
 ·cases h
def Ty.LO (ts us:List Ty) (x:Ty.DL ts):Option (Ty.DL us):=if h:Ty.qv ts us=true then some (Ty.rH h▸x) else none
theorem Ty.CK:∀(ts:List Ty) (x:Ty.DL ts),(Ty.aF ts x).length=ts.length
 |[],_=>rfl
 |[t],_=>rfl
 |t::u::ts,x=>by simp only[Ty.aF,List.length_cons,Ty.CK (u::ts) x.2]
def Ty.dR:Ty->Bool
 |.list _=>false
 |_=>true
theorem Ty.wM (t:Ty) (x:t.D):(t.er x).dR=t.dR:=by cases t<;>rfl
def Ty.eO (ts:List Ty):Bool:=ts.all Ty.dR
theorem Ty.Ka:∀(ts:List Ty) (x:Ty.DL ts),Am.eO (Ty.aF ts x)=Ty.eO ts
 |[],_=>rfl
 |[t],x=>by simp[Am.eO,Ty.aF,Ty.eO];exact Ty.wM t x
 |t::u::ts,x=>by
  have:=Ty.Ka (u::ts) x.2
  simp only[Am.eO,Ty.eO] at this
  simp only[Am.eO,Ty.eO,Ty.aF,List.all_cons,Ty.wM] at this⊢
  rw[this]
inductive SC where
 |v (t:Ty) (x:t.D)
 |nil (ts:List Ty)
 |ptr (n k sz off:Nat)
 |bT (ts:List Ty) (x:Ty.DL ts) (off:Nat)
 |sl (n sz lo len:Nat)
 |br (n k ax off sz len:Nat)
 |cr (n k ax off sz i:Nat)
 |fn (f:FuncId) (bR:List SC)
 |bg
instance:Inhabited SC:=⟨.bg⟩
mutual
def SC.er:SC->ah
 |.v t x=>.c (t.er x)
 |.nil ts=>.nil ts.length
 |.ptr n k sz off=>.ptr n k sz off
 |.bT ts x off=>.bT (Ty.aF ts x) off
 |.sl n sz lo len=>.sl n sz lo len
 |.br n k ax off sz len=>.br n k ax off sz len
 |.cr n k ax off sz i=>.cr n k ax off sz i
 |.fn f bR=>.fn f (SC.Hx bR)
 |.bg=>.bg
def SC.Hx:List SC->List ah
 |[]=>[]
 |c::cs=>SC.er c::SC.Hx cs
end
theorem SC.CN (cs:List SC):SC.Hx cs=cs.map SC.er:=by
 induction cs with
 |nil=>rfl
 |cons c cs ih=>simp[SC.Hx,ih]
inductive SB where
 |box (cs:List SC)
 |row (gr:Bool) (m:Mode) (ts:List Ty) (xs:List (Ty.DL ts))
def SB.er:SB->ar
 |.box cs=>.box (cs.map SC.er)
 |.row gr m ts xs=>.row gr m ts.length (List.map (Ty.aF ts) xs)
inductive SV where
 |one (c:SC)
 |agg (cs:List SC)
 |bj (xs:List (Bool×List SC))
instance:Inhabited SV:=⟨.one .bg⟩
def SV.er:SV->ai
 |.one c=>.one c.er
 |.agg cs=>.agg (cs.map SC.er)
 |.bj xs=>.bj (xs.map fun x=>(x.1,x.2.map SC.er))
structure af where
 env:Nat->SV
 h:Nat->Option SB
 used:Nat->Bool
def pj (env:Nat->SV):Nat->ai:=fun s=>(env s).er
def cD (h:Nat->Option SB):Nat->Option ar:=fun n=>(h n).map SB.er
def af.er (σ:af):St:={env:=pj σ.env,h:=cD σ.h,used:=σ.used}
theorem vo (env:Nat->SV) (n:Nat) (v:SV):pj (av env n v)=av (pj env) n v.er:=by
 funext s;simp only[pj,iE];split<;>rfl
theorem Hu (h:Nat->Option SB) (n:Nat) (v:Option SB):cD (av h n v)=av (cD h) n (v.map SB.er):=by
 funext s;simp only[cD,iE];split<;>rfl
def af.put (σ:af) (d:Option Nat) (v:SV):af:=
 match d with
 |some n=>{σ with env:=av σ.env n v}
 |none=>σ
def af.ins (σ:af) (n:Nat) (b:SB):Option af:=
 match σ.used n with
 |true=>none
 |false=>some {σ with h:=av σ.h n (some b),used:=av σ.used n true}
def af.cX (σ:af) (n:Nat) (b:SB):af:={σ with h:=av σ.h n (some b)}
def af.del (σ:af) (n:Nat):af:={σ with h:=av σ.h n none}
theorem af.c6 (σ:af) (d:Option Nat) (v:SV):(σ.put d v).er=σ.er.put d v.er:=by
 cases d with
 |none=>rfl
 |some n=>simp only[af.put,af.er,St.put,vo]
theorem af.rP {σ σ1:af} {n:Nat} {b:SB} (h:σ.ins n b=some σ1):σ.er.ins n b.er=some σ1.er:=by
 unfold af.ins at h
 split at h
 ·cases h
 ·rename_i hu
  injection h with h
  subst h
  simp[St.ins,af.er,hu,Hu]
theorem af.od (σ:af) (n:Nat) (b:SB):(σ.cX n b).er=σ.er.cX n b.er:=by
 simp[af.cX,af.er,St.cX,Hu]
theorem af.Hw (σ:af) (n:Nat):(σ.del n).er=σ.er.del n:=by
 simp[af.del,af.er,St.del,Hu]
def Ty.cells:(ts:List Ty)->Ty.DL ts->List SC
 |[],_=>[]
 |[t],x=>[.v t x]
 |t::u::ts,x=>.v t x.1::Ty.cells (u::ts) x.2
theorem Ty.lC:∀(ts:List Ty) (x:Ty.DL ts),(Ty.cells ts x).map SC.er=(Ty.aF ts x).map .c
 |[],_=>rfl
 |[t],x=>rfl
 |t::u::ts,x=>by simp only[Ty.cells,Ty.aF,List.map_cons,Ty.lC (u::ts) x.2];rfl
def PJ (n k rs off:Nat) (t:Ty) (x:t.D):SC:=
 match t,x with
 |.list ts,xs=>.br n k rs off ts.length (J (α:=Ty.DL ts) xs)
 |.int k',x=>.v (.int k') x
 |.bool,x=>.v .bool x
def Ty.live (n k rs:Nat):Nat->(ts:List Ty)->Ty.DL ts->List SC
 |_,[],_=>[]
 |off,[t],x=>[PJ n k rs off t x]
 |off,t::u::ts,x=>PJ n k rs off t x.1::Ty.live n k rs (off+1) (u::ts) x.2
theorem Zg (n k rs off:Nat) (t:Ty) (x:t.D) (l:List C):fZ n k rs off (t.er x::l)=(PJ n k rs off t x).er::fZ n k rs (off+1) l:=by
 cases t with
 |int k'=>rfl
 |bool=>rfl
 |list ts=>
  exact congrArg (fun m=>ah.br n k rs off ts.length m::fZ n k rs (off+1) l) (List.length_map (Ty.aF ts))
theorem Ty.Zl (n k rs:Nat):∀(off:Nat) (ts:List Ty) (x:Ty.DL ts),(Ty.live n k rs off ts x).map SC.er=fZ n k rs off (Ty.aF ts x)
 |_,[],_=>rfl
 |off,[t],x=>(Zg n k rs off t x []).symm
 |off,t::u::ts,x=>by simp only[Ty.live,Ty.aF,Zg,List.map_cons,Ty.Zl n k rs (off+1) (u::ts) x.2]
theorem Zh (n k rs:Nat):∀(j off:Nat) (l:List C),(fZ n k rs off l).drop j=fZ n k rs (off+j) (l.drop j)
 |0,off,l=>by simp
 |j+1,off,[]=>by simp[fZ]
 |j+1,off,c::l=>by
  have ih:=Zh n k rs j (off+1) l
  rw[show off+1+j=off+(j+1) by omega] at ih
  cases c<;>simpa[fZ] using ih
theorem Zk (n k rs:Nat):∀(j off:Nat) (l:List C),(fZ n k rs off l).take j=fZ n k rs off (l.take j)
 |0,off,l=>by simp[fZ]
 |j+1,off,[]=>by simp[fZ]
 |j+1,off,c::l=>by cases c<;>simp[fZ,Zk n k rs j (off+1) l]
theorem Zi (n k rs:Nat):∀(off:Nat) (l:List C),(fZ n k rs off l).length=l.length
 |off,[]=>rfl
 |off,c::l=>by cases c<;>simp[fZ,Zi n k rs (off+1) l]
theorem anZ (n k rs off sz:Nat) (l:List C):sub (fZ n k rs 0 l) off sz=(sub l off sz).map (fZ n k rs off):=by
 unfold sub
 rw[Zi]
 split
 ·simp[Zh,Zk]
 ·rfl
theorem s9 {α β:Type} (f:α->β) (l:List α) (off sz:Nat):sub (l.map f) off sz=(sub l off sz).map (List.map f):=by
 unfold sub
 rw[List.length_map]
 split
 ·simp[List.map_drop,List.map_take]
 ·rfl
def xz (t:Ty):(ts:List Ty)->t.D->Ty.DL ts->Ty.DL (t::ts)
 |[],x,_=>x
 |_::_,x,y=>(x,y)
theorem L9 (t:Ty) (ts:List Ty) (x:t.D) (y:Ty.DL ts):Ty.aF (t::ts) (xz t ts x y)=t.er x::Ty.aF ts y:=by cases ts<;>rfl
def pS:(ts:List Ty)->List ((t:Ty)×t.D)->Option (Ty.DL ts)
 |[],[]=>some ()
 |t::ts,c::cs=>match Ty.cast c.1 t c.2,pS ts cs with
  |some y,some z=>some (xz t ts y z)
  |_,_=>none
 |_,_=>none
def bV (l:List ((t:Ty)×t.D)):List C:=l.map fun x=>x.1.er x.2
theorem ww:∀{ts:List Ty} {cs:List ((t:Ty)×t.D)} {y:Ty.DL ts},pS ts cs=some y->Ty.aF ts y=bV cs
 |[],[],y,h=>rfl
 |t::ts,c::cs,y,h=>by
  simp only[pS] at h
  split at h
  ·rename_i y1 z h1 h2
   injection h with h
   subst h
   have:=ww h2
   simp only[bV] at this
   simp only[L9,bV,List.map_cons,Ty.Vq h1,this]
  ·cases h
 |[],_::_,y,h=>by simp[pS] at h
 |t::ts,[],y,h=>by simp[pS] at h
def Ty.gv:(ts:List Ty)->Ty.DL ts->List ((t:Ty)×t.D)
 |[],_=>[]
 |[t],x=>[⟨t,x⟩]
 |t::u::ts,x=>⟨t,x.1⟩::Ty.gv (u::ts) x.2
theorem Ty.pg:∀(ts:List Ty) (x:Ty.DL ts),bV (Ty.gv ts x)=Ty.aF ts x
 |[],_=>rfl
 |[t],x=>rfl
 |t::u::ts,x=>by
  have:=Ty.pg (u::ts) x.2
  simp only[bV] at this
  simp only[Ty.gv,Ty.aF,bV,List.map_cons,this]
end Go.Am
end
