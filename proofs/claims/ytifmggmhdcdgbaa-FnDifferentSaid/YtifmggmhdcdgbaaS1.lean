/- S0, S1: parts of the proof. No condition. -/
import Derived.Test.YtifmggmhdcdgbaaAm30
import Derived.Test.YtifmggmhdcdgbaaAmW
set_option linter.unusedVariables false
section
namespace Go.Am
def _root_.Option.aa {α β:Type} (o:Option α) (f:α->Option β):Option β:=o.bind f
def aJ {α:Type} (b:Bool) (x y:α):α:=cond b x y
def aY (k:IntKind) (a b:Int):Int:=k.wrap (a+b)
def nh (k:IntKind) (a b:Int):Int:=k.wrap (a - b)
def cv (k:IntKind) (a b:Int):Int:=k.wrap (a*b)
def alN (k:IntKind) (a:Int):Int:=k.wrap (0 - a)
def ME (k:IntKind) (a:Int):Int:=k.wrap a
def pq (k:IntKind) (a b:Int):Int:=bits .and k a b
def orI (k:IntKind) (a b:Int):Int:=bits .or k a b
def Vg (k:IntKind) (a b:Int):Int:=bits .xor k a b
def fE (a b:Int):Bool:=a==b
def eu (a b:Int):Bool:=a !=b
def bC (a b:Int):Bool:=decide (a<b)
def n4 (a b:Int):Bool:=decide (a<=b)
def eqB (a b:Bool):Bool:=a==b
def neB (a b:Bool):Bool:=a !=b
def fC (a:Bool):Bool:= !a
def Qz (a b:Int):Int:=if a<b then b else a
def tw (a b:Int):Int:=if b<a then b else a
def U {α:Type} (xs:List α):Nat:=xs.length
def aO (n:Nat):Int:=(n:Int)
def aL (a b:Nat):Nat:=a+b
def dJ {α:Type} (xs:List α) (k:Nat):Option α:=xs[k]?
def dd {α:Type} (xs:List α) (k:Nat) (x:α):List α:=xs.set k x
def bU {α:Type} (xs ys:List α):List α:=xs++ys
def oh {α:Type} (n:Nat) (x:α):List α:=List.replicate n x
def tI {α:Type} (xs:List α) (lo len:Nat):List α:=(xs.drop lo).take len
def eJ {α:Type} (xs:List α) (i:Int):Option α:=if 0<=i then xs[i.toNat]? else none
def eB (i:Int) (len:Nat):Option Nat:=if 0<=i/\i<len then some i.toNat else none
def vi (lo hi:Int) (len:Nat):Option (Nat×Nat):=if 0<=lo/\lo<=hi/\hi<=len then some (lo.toNat,(hi - lo).toNat) else none
def dg {α:Type} (xs:List α) (lo len:Nat):Option (List α):=if lo+len<=xs.length then some ((xs.drop lo).take len) else none
def dq {α:Type} (xs:List α) (len:Nat):Option (List α):=if len<=xs.length then some (xs.take len) else none
def HQ {α:Type} (xs:List α) (lo len:Nat) (ys:List α):Option (List α):=if lo+len<=xs.length then some (xs.take lo++ys++xs.drop (lo+ys.length)) else none
def BU (a b:Int) (by_:Nat):Option Nat:=if a<=b/\0<=a/\b.toNat*by_<=dK then some a.toNat else none
def ir (n by_:Nat):Option Unit:=if n*by_<=dK then some () else none
def ve (a b:Nat):Option Unit:=if a=b then some () else none
def ae (lo len l:Nat):Option Unit:=if lo=0/\len=l then some () else none
def E3 (k:IntKind) (a b:Int):Option Int:=if b=0 then none else some (k.wrap (a.tdiv b))
def fL (a b:Int):Option Int:=if b=0 then none else some (a.tmod b)
def aby (k:IntKind) (a b:Int):Option Int:=if b<0 then none else some (k.wrap (a*2^(min b.toNat k.bits)))
def tH (k:IntKind) (a b:Int):Option Int:=if b<0 then none else some (a/(2^(min b.toNat k.bits)))
def bg {X Y:Type}:Nat->(X->Option (X⊕Y))->X->Option Y
 |0,_,_=>none
 |n+1,f,x=>match f x with
  |some (.inl x')=>bg n f x'
  |some (.inr y)=>some y
  |none=>none
def bO {X ρ:Type} (o:Option (X⊕ρ)) (k:X->Option ρ):Option ρ:=o.bind fun s=>Sum.casesOn s k some
theorem eR {α β:Type} {o:Option α} {f:α->Option β} {b:β}:o.aa f=some b↔∃a,o=some a/\f a=some b:=Option.bind_eq_some_iff
theorem Ag {α:Type} (x y:α):aJ true x y=x:=rfl
theorem HO {α:Type} (x y:α):aJ false x y=y:=rfl
end Go.Am
end
section
namespace Go.Am
inductive Ty where
 |int (k:IntKind)
 |bool
 |list (ts:List Ty)
instance:Inhabited Ty:=⟨.bool⟩
mutual
def Ty.beq:Ty->Ty->Bool
 |.int k,.int k'=>decide (k=k')
 |.bool,.bool=>true
 |.list ts,.list us=>Ty.qP ts us
 |_,_=>false
def Ty.qP:List Ty->List Ty->Bool
 |[],[]=>true
 |t::ts,u::us=>Ty.beq t u&&Ty.qP ts us
 |_,_=>false
end
mutual
theorem Ty.beq_eq:∀{t u:Ty},Ty.beq t u=true->t=u
 |.int k,.int k',h=>by simp[Ty.beq] at h;rw[h]
 |.bool,.bool,_=>rfl
 |.list ts,.list us,h=>by simp only[Ty.beq] at h;rw[Ty.sa h]
 |.int _,.bool,h=>by simp[Ty.beq] at h
 |.int _,.list _,h=>by simp[Ty.beq] at h
 |.bool,.int _,h=>by simp[Ty.beq] at h
 |.bool,.list _,h=>by simp[Ty.beq] at h
 |.list _,.int _,h=>by simp[Ty.beq] at h
 |.list _,.bool,h=>by simp[Ty.beq] at h
theorem Ty.sa:∀{ts us:List Ty},Ty.qP ts us=true->ts=us
 |[],[],_=>rfl
 |t::ts,u::us,h=>by simp only[Ty.qP,Bool.and_eq_true] at h;rw[Ty.beq_eq h.1,Ty.sa h.2]
 |[],_::_,h=>by simp[Ty.qP] at h
 |_::_,[],h=>by simp[Ty.qP] at h
end
mutual
def Ty.D:Ty->Type
 |.int _=>Int
 |.bool=>Bool
 |.list ts=>List (Ty.DL ts)
def Ty.DL:List Ty->Type
 |[]=>Unit
 |t::ts=>match ts with
  |[]=>Ty.D t
  |u::us=>Ty.D t×Ty.DL (u::us)
end
mutual
def Ty.er:(t:Ty)->t.D->C
 |.int k,n=>.int k n
 |.bool,b=>.bool b
 |.list ts,xs=>.list ts.length (List.map (Ty.aF ts) xs)
def Ty.aF:(ts:List Ty)->Ty.DL ts->List C
 |[],_=>[]
 |[t],x=>[Ty.er t x]
 |t::u::ts,x=>Ty.er t x.1::Ty.aF (u::ts) x.2
end
def Ty.cast (t u:Ty) (x:t.D):Option u.D:=if h:Ty.beq t u=true then some (Ty.beq_eq h▸x) else none
theorem Ty.VY {t u:Ty} {x:t.D} {y:u.D} (h:Ty.cast t u x=some y):t.er x=u.er y:=by
 unfold Ty.cast at h
 split at h
 ·rename_i he
  have:=Ty.beq_eq he
  subst this
  injection h with h
  rw[<-h]
 ·cases h
def Ty.Mm (ts us:List Ty) (x:Ty.DL ts):Option (Ty.DL us):=if h:Ty.qP ts us=true then some (Ty.sa h▸x) else none
theorem Ty.Dk:∀(ts:List Ty) (x:Ty.DL ts),(Ty.aF ts x).length=ts.length
 |[],_=>rfl
 |[t],_=>rfl
 |t::u::ts,x=>by simp only[Ty.aF,List.length_cons,Ty.Dk (u::ts) x.2]
def Ty.d7:Ty->Bool
 |.list _=>false
 |_=>true
theorem Ty.xl (t:Ty) (x:t.D):(t.er x).d7=t.d7:=by cases t<;>rfl
def Ty.fe (ts:List Ty):Bool:=ts.all Ty.d7
theorem Ty.KL:∀(ts:List Ty) (x:Ty.DL ts),Am.fe (Ty.aF ts x)=Ty.fe ts
 |[],_=>rfl
 |[t],x=>by simp[Am.fe,Ty.aF,Ty.fe];exact Ty.xl t x
 |t::u::ts,x=>by
  have:=Ty.KL (u::ts) x.2
  simp only[Am.fe,Ty.fe] at this
  simp only[Am.fe,Ty.fe,Ty.aF,List.all_cons,Ty.xl] at this⊢
  rw[this]
inductive SC where
 |v (t:Ty) (x:t.D)
 |nil (ts:List Ty)
 |ptr (n k sz off:Nat)
 |ca (ts:List Ty) (x:Ty.DL ts) (off:Nat)
 |sl (n sz lo len:Nat)
 |bx (n k az off sz len:Nat)
 |cD (n k az off sz i:Nat)
 |fn (f:FuncId) (bW:List SC)
 |bh
instance:Inhabited SC:=⟨.bh⟩
mutual
def SC.er:SC->ai
 |.v t x=>.c (t.er x)
 |.nil ts=>.nil ts.length
 |.ptr n k sz off=>.ptr n k sz off
 |.ca ts x off=>.ca (Ty.aF ts x) off
 |.sl n sz lo len=>.sl n sz lo len
 |.bx n k az off sz len=>.bx n k az off sz len
 |.cD n k az off sz i=>.cD n k az off sz i
 |.fn f bW=>.fn f (SC.H9 bW)
 |.bh=>.bh
def SC.H9:List SC->List ai
 |[]=>[]
 |c::cs=>SC.er c::SC.H9 cs
end
theorem SC.Dn (cs:List SC):SC.H9 cs=cs.map SC.er:=by
 induction cs with
 |nil=>rfl
 |cons c cs ih=>simp[SC.H9,ih]
inductive SB where
 |box (cs:List SC)
 |row (gr:Bool) (m:Mode) (ts:List Ty) (xs:List (Ty.DL ts))
def SB.er:SB->ar
 |.box cs=>.box (cs.map SC.er)
 |.row gr m ts xs=>.row gr m ts.length (List.map (Ty.aF ts) xs)
inductive SV where
 |one (c:SC)
 |agg (cs:List SC)
 |bn (xs:List (Bool×List SC))
instance:Inhabited SV:=⟨.one .bh⟩
def SV.er:SV->aj
 |.one c=>.one c.er
 |.agg cs=>.agg (cs.map SC.er)
 |.bn xs=>.bn (xs.map fun x=>(x.1,x.2.map SC.er))
structure ah where
 env:Nat->SV
 h:Nat->Option SB
 used:Nat->Bool
def pC (env:Nat->SV):Nat->aj:=fun s=>(env s).er
def cM (h:Nat->Option SB):Nat->Option ar:=fun n=>(h n).map SB.er
def ah.er (σ:ah):St:={env:=pC σ.env,h:=cM σ.h,used:=σ.used}
theorem v5 (env:Nat->SV) (n:Nat) (v:SV):pC (aw env n v)=aw (pC env) n v.er:=by
 funext s;simp only[pC,jg];split<;>rfl
theorem H6 (h:Nat->Option SB) (n:Nat) (v:Option SB):cM (aw h n v)=aw (cM h) n (v.map SB.er):=by
 funext s;simp only[cM,jg];split<;>rfl
def ah.put (σ:ah) (d:Option Nat) (v:SV):ah:=
 match d with
 |some n=>{σ with env:=aw σ.env n v}
 |none=>σ
def ah.ins (σ:ah) (n:Nat) (b:SB):Option ah:=
 match σ.used n with
 |true=>none
 |false=>some {σ with h:=aw σ.h n (some b),used:=aw σ.used n true}
def ah.dc (σ:ah) (n:Nat) (b:SB):ah:={σ with h:=aw σ.h n (some b)}
def ah.del (σ:ah) (n:Nat):ah:={σ with h:=aw σ.h n none}
theorem ah.dh (σ:ah) (d:Option Nat) (v:SV):(σ.put d v).er=σ.er.put d v.er:=by
 cases d with
 |none=>rfl
 |some n=>simp only[ah.put,ah.er,St.put,v5]
theorem ah.sn {σ σ1:ah} {n:Nat} {b:SB} (h:σ.ins n b=some σ1):σ.er.ins n b.er=some σ1.er:=by
 unfold ah.ins at h
 split at h
 ·cases h
 ·rename_i hu
  injection h with h
  subst h
  simp[St.ins,ah.er,hu,H6]
theorem ah.oJ (σ:ah) (n:Nat) (b:SB):(σ.dc n b).er=σ.er.dc n b.er:=by
 simp[ah.dc,ah.er,St.dc,H6]
theorem ah.H8 (σ:ah) (n:Nat):(σ.del n).er=σ.er.del n:=by
 simp[ah.del,ah.er,St.del,H6]
def Ty.cells:(ts:List Ty)->Ty.DL ts->List SC
 |[],_=>[]
 |[t],x=>[.v t x]
 |t::u::ts,x=>.v t x.1::Ty.cells (u::ts) x.2
theorem Ty.lU:∀(ts:List Ty) (x:Ty.DL ts),(Ty.cells ts x).map SC.er=(Ty.aF ts x).map .c
 |[],_=>rfl
 |[t],x=>rfl
 |t::u::ts,x=>by simp only[Ty.cells,Ty.aF,List.map_cons,Ty.lU (u::ts) x.2];rfl
def Qq (n k rs off:Nat) (t:Ty) (x:t.D):SC:=
 match t,x with
 |.list ts,xs=>.bx n k rs off ts.length (U (α:=Ty.DL ts) xs)
 |.int k',x=>.v (.int k') x
 |.bool,x=>.v .bool x
def Ty.live (n k rs:Nat):Nat->(ts:List Ty)->Ty.DL ts->List SC
 |_,[],_=>[]
 |off,[t],x=>[Qq n k rs off t x]
 |off,t::u::ts,x=>Qq n k rs off t x.1::Ty.live n k rs (off+1) (u::ts) x.2
theorem ZW (n k rs off:Nat) (t:Ty) (x:t.D) (l:List C):gp n k rs off (t.er x::l)=(Qq n k rs off t x).er::gp n k rs (off+1) l:=by
 cases t with
 |int k'=>rfl
 |bool=>rfl
 |list ts=>
  exact congrArg (fun m=>ai.bx n k rs off ts.length m::gp n k rs (off+1) l) (List.length_map (Ty.aF ts))
theorem Ty.Z1 (n k rs:Nat):∀(off:Nat) (ts:List Ty) (x:Ty.DL ts),(Ty.live n k rs off ts x).map SC.er=gp n k rs off (Ty.aF ts x)
 |_,[],_=>rfl
 |off,[t],x=>(ZW n k rs off t x []).symm
 |off,t::u::ts,x=>by simp only[Ty.live,Ty.aF,ZW,List.map_cons,Ty.Z1 n k rs (off+1) (u::ts) x.2]
theorem ZX (n k rs:Nat):∀(j off:Nat) (l:List C),(gp n k rs off l).drop j=gp n k rs (off+j) (l.drop j)
 |0,off,l=>by simp
 |j+1,off,[]=>by simp[gp]
 |j+1,off,c::l=>by
  have ih:=ZX n k rs j (off+1) l
  rw[show off+1+j=off+(j+1) by omega] at ih
  cases c<;>simpa[gp] using ih
theorem Z0 (n k rs:Nat):∀(j off:Nat) (l:List C),(gp n k rs off l).take j=gp n k rs off (l.take j)
 |0,off,l=>by simp[gp]
 |j+1,off,[]=>by simp[gp]
 |j+1,off,c::l=>by cases c<;>simp[gp,Z0 n k rs j (off+1) l]
theorem ZY (n k rs:Nat):∀(off:Nat) (l:List C),(gp n k rs off l).length=l.length
 |off,[]=>rfl
 |off,c::l=>by cases c<;>simp[gp,ZY n k rs (off+1) l]
theorem aol (n k rs off sz:Nat) (l:List C):sub (gp n k rs 0 l) off sz=(sub l off sz).map (gp n k rs off):=by
 unfold sub
 rw[ZY]
 split
 ·simp[ZX,Z0]
 ·rfl
theorem tM {α β:Type} (f:α->β) (l:List α) (off sz:Nat):sub (l.map f) off sz=(sub l off sz).map (List.map f):=by
 unfold sub
 rw[List.length_map]
 split
 ·simp[List.map_drop,List.map_take]
 ·rfl
def yb (t:Ty):(ts:List Ty)->t.D->Ty.DL ts->Ty.DL (t::ts)
 |[],x,_=>x
 |_::_,x,y=>(x,y)
theorem MD (t:Ty) (ts:List Ty) (x:t.D) (y:Ty.DL ts):Ty.aF (t::ts) (yb t ts x y)=t.er x::Ty.aF ts y:=by cases ts<;>rfl
def qn:(ts:List Ty)->List ((t:Ty)×t.D)->Option (Ty.DL ts)
 |[],[]=>some ()
 |t::ts,c::cs=>match Ty.cast c.1 t c.2,qn ts cs with
  |some y,some z=>some (yb t ts y z)
  |_,_=>none
 |_,_=>none
def cf (l:List ((t:Ty)×t.D)):List C:=l.map fun x=>x.1.er x.2
theorem w4:∀{ts:List Ty} {cs:List ((t:Ty)×t.D)} {y:Ty.DL ts},qn ts cs=some y->Ty.aF ts y=cf cs
 |[],[],y,h=>rfl
 |t::ts,c::cs,y,h=>by
  simp only[qn] at h
  split at h
  ·rename_i y1 z h1 h2
   injection h with h
   subst h
   have:=w4 h2
   simp only[cf] at this
   simp only[MD,cf,List.map_cons,Ty.VY h1,this]
  ·cases h
 |[],_::_,y,h=>by simp[qn] at h
 |t::ts,[],y,h=>by simp[qn] at h
def Ty.gK:(ts:List Ty)->Ty.DL ts->List ((t:Ty)×t.D)
 |[],_=>[]
 |[t],x=>[⟨t,x⟩]
 |t::u::ts,x=>⟨t,x.1⟩::Ty.gK (u::ts) x.2
theorem Ty.pw:∀(ts:List Ty) (x:Ty.DL ts),cf (Ty.gK ts x)=Ty.aF ts x
 |[],_=>rfl
 |[t],x=>rfl
 |t::u::ts,x=>by
  have:=Ty.pw (u::ts) x.2
  simp only[cf] at this
  simp only[Ty.gK,Ty.aF,cf,List.map_cons,this]
end Go.Am
end
