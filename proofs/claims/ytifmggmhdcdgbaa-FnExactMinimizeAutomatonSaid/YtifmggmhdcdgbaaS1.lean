/- S0, S1: parts of the proof. No condition. -/
import Derived.Test.YtifmggmhdcdgbaaAm30
import Derived.Test.YtifmggmhdcdgbaaAmW
set_option linter.unusedVariables false
section
namespace Go.Am
def _root_.Option.U {α β:Type} (o:Option α) (f:α->Option β):Option β:=o.bind f
def aw {α:Type} (b:Bool) (x y:α):α:=cond b x y
def aM (k:IntKind) (a b:Int):Int:=k.wrap (a+b)
def mf (k:IntKind) (a b:Int):Int:=k.wrap (a - b)
def cz (k:IntKind) (a b:Int):Int:=k.wrap (a*b)
def ait (k:IntKind) (a:Int):Int:=k.wrap (0 - a)
def abl (k:IntKind) (a:Int):Int:=k.wrap a
def Ga (k:IntKind) (a b:Int):Int:=bits .and k a b
def orI (k:IntKind) (a b:Int):Int:=bits .or k a b
def alr (k:IntKind) (a b:Int):Int:=bits .xor k a b
def lI (a b:Int):Bool:=a==b
def dB (a b:Int):Bool:=a !=b
def bc (a b:Int):Bool:=decide (a<b)
def qk (a b:Int):Bool:=decide (a<=b)
def eqB (a b:Bool):Bool:=a==b
def X3 (a b:Bool):Bool:=a !=b
def eC (a:Bool):Bool:= !a
def Oj (a b:Int):Int:=if a<b then b else a
def Ok (a b:Int):Int:=if b<a then b else a
def J {α:Type} (xs:List α):Nat:=xs.length
def aL (n:Nat):Int:=(n:Int)
def aE (a b:Nat):Nat:=a+b
def dg {α:Type} (xs:List α) (k:Nat):Option α:=xs[k]?
def bI {α:Type} (xs:List α) (k:Nat) (x:α):List α:=xs.set k x
def cm {α:Type} (xs ys:List α):List α:=xs++ys
def cR {α:Type} (n:Nat) (x:α):List α:=List.replicate n x
def fD {α:Type} (xs:List α) (lo len:Nat):List α:=(xs.drop lo).take len
def dz {α:Type} (xs:List α) (i:Int):Option α:=if 0<=i then xs[i.toNat]? else none
def dT (i:Int) (len:Nat):Option Nat:=if 0<=i/\i<len then some i.toNat else none
def qD (lo hi:Int) (len:Nat):Option (Nat×Nat):=if 0<=lo/\lo<=hi/\hi<=len then some (lo.toNat,(hi - lo).toNat) else none
def bg {α:Type} (xs:List α) (lo len:Nat):Option (List α):=if lo+len<=xs.length then some ((xs.drop lo).take len) else none
def ci {α:Type} (xs:List α) (len:Nat):Option (List α):=if len<=xs.length then some (xs.take len) else none
def Gy {α:Type} (xs:List α) (lo len:Nat) (ys:List α):Option (List α):=if lo+len<=xs.length then some (xs.take lo++ys++xs.drop (lo+ys.length)) else none
def ov (a b:Int) (by_:Nat):Option Nat:=if a<=b/\0<=a/\b.toNat*by_<=eZ then some a.toNat else none
def jV (n by_:Nat):Option Unit:=if n*by_<=eZ then some () else none
def oD (a b:Nat):Option Unit:=if a=b then some () else none
def ae (lo len l:Nat):Option Unit:=if lo=0/\len=l then some () else none
def DK (k:IntKind) (a b:Int):Option Int:=if b=0 then none else some (k.wrap (a.tdiv b))
def gQ (a b:Int):Option Int:=if b=0 then none else some (a.tmod b)
def Zc (k:IntKind) (a b:Int):Option Int:=if b<0 then none else some (k.wrap (a*2^(min b.toNat k.bits)))
def Bm (k:IntKind) (a b:Int):Option Int:=if b<0 then none else some (a/(2^(min b.toNat k.bits)))
def bf {X Y:Type}:Nat->(X->Option (X⊕Y))->X->Option Y
 |0,_,_=>none
 |n+1,f,x=>match f x with
  |some (.inl x')=>bf n f x'
  |some (.inr y)=>some y
  |none=>none
def bK {X ρ:Type} (o:Option (X⊕ρ)) (k:X->Option ρ):Option ρ:=o.bind fun s=>Sum.casesOn s k some
theorem eY {α β:Type} {o:Option α} {f:α->Option β} {b:β}:o.U f=some b↔∃a,o=some a/\f a=some b:=Option.bind_eq_some_iff
theorem Gu {α:Type} (x y:α):aw true x y=x:=rfl
theorem xl {α:Type} (x y:α):aw false x y=y:=rfl
end Go.Am
end
section
namespace Go.Am
inductive Ty where
 |int (k:IntKind)
 |bool
 |list (ts:List Ty)
instance:Inhabited Ty:=⟨.bool⟩
mutual
def Ty.beq:Ty->Ty->Bool
 |.int k,.int k'=>decide (k=k')
 |.bool,.bool=>true
 |.list ts,.list us=>Ty.qO ts us
 |_,_=>false
def Ty.qO:List Ty->List Ty->Bool
 |[],[]=>true
 |t::ts,u::us=>Ty.beq t u&&Ty.qO ts us
 |_,_=>false
end
mutual
theorem Ty.beq_eq:∀{t u:Ty},Ty.beq t u=true->t=u
 |.int k,.int k',h=>by simp[Ty.beq] at h;rw[h]
 |.bool,.bool,_=>rfl
 |.list ts,.list us,h=>by simp only[Ty.beq] at h;rw[Ty.rW h]
 |.int _,.bool,h=>by simp[Ty.beq] at h
 |.int _,.list _,h=>by simp[Ty.beq] at h
 |.bool,.int _,h=>by simp[Ty.beq] at h
 |.bool,.list _,h=>by simp[Ty.beq] at h
 |.list _,.int _,h=>by simp[Ty.beq] at h
 |.list _,.bool,h=>by simp[Ty.beq] at h
theorem Ty.rW:∀{ts us:List Ty},Ty.qO ts us=true->ts=us
 |[],[],_=>rfl
 |t::ts,u::us,h=>by simp only[Ty.qO,Bool.and_eq_true] at h;rw[Ty.beq_eq h.1,Ty.rW h.2]
 |[],_::_,h=>by simp[Ty.qO] at h
 |_::_,[],h=>by simp[Ty.qO] at h
end
mutual
def Ty.D:Ty->Type
 |.int _=>Int
 |.bool=>Bool
 |.list ts=>List (Ty.DL ts)
def Ty.DL:List Ty->Type
 |[]=>Unit
 |t::ts=>match ts with
  |[]=>Ty.D t
  |u::us=>Ty.D t×Ty.DL (u::us)
end
mutual
def Ty.er:(t:Ty)->t.D->C
 |.int k,n=>.int k n
 |.bool,b=>.bool b
 |.list ts,xs=>.list ts.length (List.map (Ty.aH ts) xs)
def Ty.aH:(ts:List Ty)->Ty.DL ts->List C
 |[],_=>[]
 |[t],x=>[Ty.er t x]
 |t::u::ts,x=>Ty.er t x.1::Ty.aH (u::ts) x.2
end
def Ty.cast (t u:Ty) (x:t.D):Option u.D:=if h:Ty.beq t u=true then some (Ty.beq_eq h▸x) else none
theorem Ty.Ua {t u:Ty} {x:t.D} {y:u.D} (h:Ty.cast t u x=some y):t.er x=u.er y:=by
 unfold Ty.cast at h
 split at h
 ·rename_i he
  have:=Ty.beq_eq he
  subst this
  injection h with h
  rw[<-h]
 ·cases h
def Ty.KG (ts us:List Ty) (x:Ty.DL ts):Option (Ty.DL us):=if h:Ty.qO ts us=true then some (Ty.rW h▸x) else none
theorem Ty.Cc:∀(ts:List Ty) (x:Ty.DL ts),(Ty.aH ts x).length=ts.length
 |[],_=>rfl
 |[t],_=>rfl
 |t::u::ts,x=>by simp only[Ty.aH,List.length_cons,Ty.Cc (u::ts) x.2]
def Ty.eD:Ty->Bool
 |.list _=>false
 |_=>true
theorem Ty.wC (t:Ty) (x:t.D):(t.er x).eD=t.eD:=by cases t<;>rfl
def Ty.fi (ts:List Ty):Bool:=ts.all Ty.eD
theorem Ty.IV:∀(ts:List Ty) (x:Ty.DL ts),Am.fi (Ty.aH ts x)=Ty.fi ts
 |[],_=>rfl
 |[t],x=>by simp[Am.fi,Ty.aH,Ty.fi];exact Ty.wC t x
 |t::u::ts,x=>by
  have:=Ty.IV (u::ts) x.2
  simp only[Am.fi,Ty.fi] at this
  simp only[Am.fi,Ty.fi,Ty.aH,List.all_cons,Ty.wC] at this⊢
  rw[this]
inductive SC where
 |v (t:Ty) (x:t.D)
 |nil (ts:List Ty)
 |ptr (n k sz off:Nat)
 |cf (ts:List Ty) (x:Ty.DL ts) (off:Nat)
 |sl (n sz lo len:Nat)
 |bt (n k ax off sz len:Nat)
 |cB (n k ax off sz i:Nat)
 |fn (f:FuncId) (ca:List SC)
 |bj
instance:Inhabited SC:=⟨.bj⟩
mutual
def SC.er:SC->ah
 |.v t x=>.c (t.er x)
 |.nil ts=>.nil ts.length
 |.ptr n k sz off=>.ptr n k sz off
 |.cf ts x off=>.cf (Ty.aH ts x) off
 |.sl n sz lo len=>.sl n sz lo len
 |.bt n k ax off sz len=>.bt n k ax off sz len
 |.cB n k ax off sz i=>.cB n k ax off sz i
 |.fn f ca=>.fn f (SC.GO ca)
 |.bj=>.bj
def SC.GO:List SC->List ah
 |[]=>[]
 |c::cs=>SC.er c::SC.GO cs
end
theorem SC.Cf (cs:List SC):SC.GO cs=cs.map SC.er:=by
 induction cs with
 |nil=>rfl
 |cons c cs ih=>simp[SC.GO,ih]
inductive SB where
 |box (cs:List SC)
 |row (gr:Bool) (m:Mode) (ts:List Ty) (xs:List (Ty.DL ts))
def SB.er:SB->aq
 |.box cs=>.box (cs.map SC.er)
 |.row gr m ts xs=>.row gr m ts.length (List.map (Ty.aH ts) xs)
inductive SV where
 |one (c:SC)
 |agg (cs:List SC)
 |bk (xs:List (Bool×List SC))
instance:Inhabited SV:=⟨.one .bj⟩
def SV.er:SV->aj
 |.one c=>.one c.er
 |.agg cs=>.agg (cs.map SC.er)
 |.bk xs=>.bk (xs.map fun x=>(x.1,x.2.map SC.er))
structure af where
 env:Nat->SV
 h:Nat->Option SB
 used:Nat->Bool
def pN (env:Nat->SV):Nat->aj:=fun s=>(env s).er
def cT (h:Nat->Option SB):Nat->Option aq:=fun n=>(h n).map SB.er
def af.er (σ:af):St:={env:=pN σ.env,h:=cT σ.h,used:=σ.used}
theorem vn (env:Nat->SV) (n:Nat) (v:SV):pN (av env n v)=av (pN env) n v.er:=by
 funext s;simp only[pN,jp];split<;>rfl
theorem GL (h:Nat->Option SB) (n:Nat) (v:Option SB):cT (av h n v)=av (cT h) n (v.map SB.er):=by
 funext s;simp only[cT,jp];split<;>rfl
def af.put (σ:af) (d:Option Nat) (v:SV):af:=
 match d with
 |some n=>{σ with env:=av σ.env n v}
 |none=>σ
def af.ins (σ:af) (n:Nat) (b:SB):Option af:=
 match σ.used n with
 |true=>none
 |false=>some {σ with h:=av σ.h n (some b),used:=av σ.used n true}
def af.dv (σ:af) (n:Nat) (b:SB):af:={σ with h:=av σ.h n (some b)}
def af.del (σ:af) (n:Nat):af:={σ with h:=av σ.h n none}
theorem af.dq (σ:af) (d:Option Nat) (v:SV):(σ.put d v).er=σ.er.put d v.er:=by
 cases d with
 |none=>rfl
 |some n=>simp only[af.put,af.er,St.put,vn]
theorem af.sb {σ σ1:af} {n:Nat} {b:SB} (h:σ.ins n b=some σ1):σ.er.ins n b.er=some σ1.er:=by
 unfold af.ins at h
 split at h
 ·cases h
 ·rename_i hu
  injection h with h
  subst h
  simp[St.ins,af.er,hu,GL]
theorem af.pO (σ:af) (n:Nat) (b:SB):(σ.dv n b).er=σ.er.dv n b.er:=by
 simp[af.dv,af.er,St.dv,GL]
theorem af.GN (σ:af) (n:Nat):(σ.del n).er=σ.er.del n:=by
 simp[af.del,af.er,St.del,GL]
def Ty.cells:(ts:List Ty)->Ty.DL ts->List SC
 |[],_=>[]
 |[t],x=>[.v t x]
 |t::u::ts,x=>.v t x.1::Ty.cells (u::ts) x.2
theorem Ty.mz:∀(ts:List Ty) (x:Ty.DL ts),(Ty.cells ts x).map SC.er=(Ty.aH ts x).map .c
 |[],_=>rfl
 |[t],x=>rfl
 |t::u::ts,x=>by simp only[Ty.cells,Ty.aH,List.map_cons,Ty.mz (u::ts) x.2];rfl
def Oa (n k rs off:Nat) (t:Ty) (x:t.D):SC:=
 match t,x with
 |.list ts,xs=>.bt n k rs off ts.length (J (α:=Ty.DL ts) xs)
 |.int k',x=>.v (.int k') x
 |.bool,x=>.v .bool x
def Ty.live (n k rs:Nat):Nat->(ts:List Ty)->Ty.DL ts->List SC
 |_,[],_=>[]
 |off,[t],x=>[Oa n k rs off t x]
 |off,t::u::ts,x=>Oa n k rs off t x.1::Ty.live n k rs (off+1) (u::ts) x.2
theorem Xy (n k rs off:Nat) (t:Ty) (x:t.D) (l:List C):gB n k rs off (t.er x::l)=(Oa n k rs off t x).er::gB n k rs (off+1) l:=by
 cases t with
 |int k'=>rfl
 |bool=>rfl
 |list ts=>
  exact congrArg (fun m=>ah.bt n k rs off ts.length m::gB n k rs (off+1) l) (List.length_map (Ty.aH ts))
theorem Ty.XD (n k rs:Nat):∀(off:Nat) (ts:List Ty) (x:Ty.DL ts),(Ty.live n k rs off ts x).map SC.er=gB n k rs off (Ty.aH ts x)
 |_,[],_=>rfl
 |off,[t],x=>(Xy n k rs off t x []).symm
 |off,t::u::ts,x=>by simp only[Ty.live,Ty.aH,Xy,List.map_cons,Ty.XD n k rs (off+1) (u::ts) x.2]
theorem Xz (n k rs:Nat):∀(j off:Nat) (l:List C),(gB n k rs off l).drop j=gB n k rs (off+j) (l.drop j)
 |0,off,l=>by simp
 |j+1,off,[]=>by simp[gB]
 |j+1,off,c::l=>by
  have ih:=Xz n k rs j (off+1) l
  rw[show off+1+j=off+(j+1) by omega] at ih
  cases c<;>simpa[gB] using ih
theorem XC (n k rs:Nat):∀(j off:Nat) (l:List C),(gB n k rs off l).take j=gB n k rs off (l.take j)
 |0,off,l=>by simp[gB]
 |j+1,off,[]=>by simp[gB]
 |j+1,off,c::l=>by cases c<;>simp[gB,XC n k rs j (off+1) l]
theorem XA (n k rs:Nat):∀(off:Nat) (l:List C),(gB n k rs off l).length=l.length
 |off,[]=>rfl
 |off,c::l=>by cases c<;>simp[gB,XA n k rs (off+1) l]
theorem akP (n k rs off sz:Nat) (l:List C):sub (gB n k rs 0 l) off sz=(sub l off sz).map (gB n k rs off):=by
 unfold sub
 rw[XA]
 split
 ·simp[Xz,XC]
 ·rfl
theorem s7 {α β:Type} (f:α->β) (l:List α) (off sz:Nat):sub (l.map f) off sz=(sub l off sz).map (List.map f):=by
 unfold sub
 rw[List.length_map]
 split
 ·simp[List.map_drop,List.map_take]
 ·rfl
def xm (t:Ty):(ts:List Ty)->t.D->Ty.DL ts->Ty.DL (t::ts)
 |[],x,_=>x
 |_::_,x,y=>(x,y)
theorem KY (t:Ty) (ts:List Ty) (x:t.D) (y:Ty.DL ts):Ty.aH (t::ts) (xm t ts x y)=t.er x::Ty.aH ts y:=by cases ts<;>rfl
def qm:(ts:List Ty)->List ((t:Ty)×t.D)->Option (Ty.DL ts)
 |[],[]=>some ()
 |t::ts,c::cs=>match Ty.cast c.1 t c.2,qm ts cs with
  |some y,some z=>some (xm t ts y z)
  |_,_=>none
 |_,_=>none
def cj (l:List ((t:Ty)×t.D)):List C:=l.map fun x=>x.1.er x.2
theorem wh:∀{ts:List Ty} {cs:List ((t:Ty)×t.D)} {y:Ty.DL ts},qm ts cs=some y->Ty.aH ts y=cj cs
 |[],[],y,h=>rfl
 |t::ts,c::cs,y,h=>by
  simp only[qm] at h
  split at h
  ·rename_i y1 z h1 h2
   injection h with h
   subst h
   have:=wh h2
   simp only[cj] at this
   simp only[KY,cj,List.map_cons,Ty.Ua h1,this]
  ·cases h
 |[],_::_,y,h=>by simp[qm] at h
 |t::ts,[],y,h=>by simp[qm] at h
def Ty.gW:(ts:List Ty)->Ty.DL ts->List ((t:Ty)×t.D)
 |[],_=>[]
 |[t],x=>[⟨t,x⟩]
 |t::u::ts,x=>⟨t,x.1⟩::Ty.gW (u::ts) x.2
theorem Ty.pK:∀(ts:List Ty) (x:Ty.DL ts),cj (Ty.gW ts x)=Ty.aH ts x
 |[],_=>rfl
 |[t],x=>rfl
 |t::u::ts,x=>by
  have:=Ty.pK (u::ts) x.2
  simp only[cj] at this
  simp only[Ty.gW,Ty.aH,cj,List.map_cons,this]
end Go.Am
end
