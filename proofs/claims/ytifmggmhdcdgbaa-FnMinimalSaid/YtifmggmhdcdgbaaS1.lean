/- S0, S1: parts of the proof. No condition. -/
import Derived.Test.YtifmggmhdcdgbaaAm30
import Derived.Test.YtifmggmhdcdgbaaAmW
set_option linter.unusedVariables false
section
namespace Go.Am
def _root_.Option.ab {α β:Type} (o:Option α) (f:α->Option β):Option β:=o.bind f
def aY {α:Type} (b:Bool) (x y:α):α:=cond b x y
def bS (k:IntKind) (a b:Int):Int:=k.wrap (a+b)
def wk (k:IntKind) (a b:Int):Int:=k.wrap (a - b)
def fa (k:IntKind) (a b:Int):Int:=k.wrap (a*b)
def ahZ (k:IntKind) (a:Int):Int:=k.wrap (0 - a)
def Kp (k:IntKind) (a:Int):Int:=k.wrap a
def oT (k:IntKind) (a b:Int):Int:=bits .and k a b
def orI (k:IntKind) (a b:Int):Int:=bits .or k a b
def SF (k:IntKind) (a b:Int):Int:=bits .xor k a b
def fU (a b:Int):Bool:=a==b
def lA (a b:Int):Bool:=a !=b
def cr (a b:Int):Bool:=decide (a<b)
def tS (a b:Int):Bool:=decide (a<=b)
def eqB (a b:Bool):Bool:=a==b
def neB (a b:Bool):Bool:=a !=b
def me (a:Bool):Bool:= !a
def Ou (a b:Int):Int:=if a<b then b else a
def su (a b:Int):Int:=if b<a then b else a
def aa {α:Type} (xs:List α):Nat:=xs.length
def bj (n:Nat):Int:=(n:Int)
def bF (a b:Nat):Nat:=a+b
def gA {α:Type} (xs:List α) (k:Nat):Option α:=xs[k]?
def db {α:Type} (xs:List α) (k:Nat) (x:α):List α:=xs.set k x
def dg {α:Type} (xs ys:List α):List α:=xs++ys
def d8 {α:Type} (n:Nat) (x:α):List α:=List.replicate n x
def sF {α:Type} (xs:List α) (lo len:Nat):List α:=(xs.drop lo).take len
def ji {α:Type} (xs:List α) (i:Int):Option α:=if 0<=i then xs[i.toNat]? else none
def jH (i:Int) (len:Nat):Option Nat:=if 0<=i/\i<len then some i.toNat else none
def ud (lo hi:Int) (len:Nat):Option (Nat×Nat):=if 0<=lo/\lo<=hi/\hi<=len then some (lo.toNat,(hi - lo).toNat) else none
def cv {α:Type} (xs:List α) (lo len:Nat):Option (List α):=if lo+len<=xs.length then some ((xs.drop lo).take len) else none
def dc {α:Type} (xs:List α) (len:Nat):Option (List α):=if len<=xs.length then some (xs.take len) else none
def Ga {α:Type} (xs:List α) (lo len:Nat) (ys:List α):Option (List α):=if lo+len<=xs.length then some (xs.take lo++ys++xs.drop (lo+ys.length)) else none
def tU (a b:Int) (by_:Nat):Option Nat:=if a<=b/\0<=a/\b.toNat*by_<=eK then some a.toNat else none
def lK (n by_:Nat):Option Unit:=if n*by_<=eK then some () else none
def yy (a b:Nat):Option Unit:=if a=b then some () else none
def af (lo len l:Nat):Option Unit:=if lo=0/\len=l then some () else none
def Yq (k:IntKind) (a b:Int):Option Int:=if b=0 then none else some (k.wrap (a.tdiv b))
def kB (a b:Int):Option Int:=if b=0 then none else some (a.tmod b)
def Y1 (k:IntKind) (a b:Int):Option Int:=if b<0 then none else some (k.wrap (a*2^(min b.toNat k.bits)))
def sE (k:IntKind) (a b:Int):Option Int:=if b<0 then none else some (a/(2^(min b.toNat k.bits)))
def bQ {X Y:Type}:Nat->(X->Option (X⊕Y))->X->Option Y
 |0,_,_=>none
 |n+1,f,x=>match f x with
  |some (.inl x')=>bQ n f x'
  |some (.inr y)=>some y
  |none=>none
def cT {X ρ:Type} (o:Option (X⊕ρ)) (k:X->Option ρ):Option ρ:=o.bind fun s=>Sum.casesOn s k some
theorem eN {α β:Type} {o:Option α} {f:α->Option β} {b:β}:o.ab f=some b↔∃a,o=some a/\f a=some b:=Option.bind_eq_some_iff
theorem zq {α:Type} (x y:α):aY true x y=x:=rfl
theorem zp {α:Type} (x y:α):aY false x y=y:=rfl
end Go.Am
end
section
namespace Go.Am
inductive Ty where
 |int (k:IntKind)
 |bool
 |list (ts:List Ty)
instance:Inhabited Ty:=⟨.bool⟩
mutual
def Ty.beq:Ty->Ty->Bool
 |.int k,.int k'=>decide (k=k')
 |.bool,.bool=>true
 |.list ts,.list us=>Ty.qk ts us
 |_,_=>false
def Ty.qk:List Ty->List Ty->Bool
 |[],[]=>true
 |t::ts,u::us=>Ty.beq t u&&Ty.qk ts us
 |_,_=>false
end
mutual
theorem Ty.beq_eq:∀{t u:Ty},Ty.beq t u=true->t=u
 |.int k,.int k',h=>by simp[Ty.beq] at h;rw[h]
 |.bool,.bool,_=>rfl
 |.list ts,.list us,h=>by simp only[Ty.beq] at h;rw[Ty.rz h]
 |.int _,.bool,h=>by simp[Ty.beq] at h
 |.int _,.list _,h=>by simp[Ty.beq] at h
 |.bool,.int _,h=>by simp[Ty.beq] at h
 |.bool,.list _,h=>by simp[Ty.beq] at h
 |.list _,.int _,h=>by simp[Ty.beq] at h
 |.list _,.bool,h=>by simp[Ty.beq] at h
theorem Ty.rz:∀{ts us:List Ty},Ty.qk ts us=true->ts=us
 |[],[],_=>rfl
 |t::ts,u::us,h=>by simp only[Ty.qk,Bool.and_eq_true] at h;rw[Ty.beq_eq h.1,Ty.rz h.2]
 |[],_::_,h=>by simp[Ty.qk] at h
 |_::_,[],h=>by simp[Ty.qk] at h
end
mutual
def Ty.D:Ty->Type
 |.int _=>Int
 |.bool=>Bool
 |.list ts=>List (Ty.DL ts)
def Ty.DL:List Ty->Type
 |[]=>Unit
 |t::ts=>match ts with
  |[]=>Ty.D t
  |u::us=>Ty.D t×Ty.DL (u::us)
end
mutual
def Ty.er:(t:Ty)->t.D->C
 |.int k,n=>.int k n
 |.bool,b=>.bool b
 |.list ts,xs=>.list ts.length (List.map (Ty.aD ts) xs)
def Ty.aD:(ts:List Ty)->Ty.DL ts->List C
 |[],_=>[]
 |[t],x=>[Ty.er t x]
 |t::u::ts,x=>Ty.er t x.1::Ty.aD (u::ts) x.2
end
def Ty.cast (t u:Ty) (x:t.D):Option u.D:=if h:Ty.beq t u=true then some (Ty.beq_eq h▸x) else none
theorem Ty.Tv {t u:Ty} {x:t.D} {y:u.D} (h:Ty.cast t u x=some y):t.er x=u.er y:=by
 unfold Ty.cast at h
 split at h
 ·rename_i he
  have:=Ty.beq_eq he
  subst this
  injection h with h
  rw[<-h]
 ·cases h
def Ty.J9 (ts us:List Ty) (x:Ty.DL ts):Option (Ty.DL us):=if h:Ty.qk ts us=true then some (Ty.rz h▸x) else none
theorem Ty.Cj:∀(ts:List Ty) (x:Ty.DL ts),(Ty.aD ts x).length=ts.length
 |[],_=>rfl
 |[t],_=>rfl
 |t::u::ts,x=>by simp only[Ty.aD,List.length_cons,Ty.Cj (u::ts) x.2]
def Ty.dT:Ty->Bool
 |.list _=>false
 |_=>true
theorem Ty.v8 (t:Ty) (x:t.D):(t.er x).dT=t.dT:=by cases t<;>rfl
def Ty.eW (ts:List Ty):Bool:=ts.all Ty.dT
theorem Ty.Iz:∀(ts:List Ty) (x:Ty.DL ts),Am.eW (Ty.aD ts x)=Ty.eW ts
 |[],_=>rfl
 |[t],x=>by simp[Am.eW,Ty.aD,Ty.eW];exact Ty.v8 t x
 |t::u::ts,x=>by
  have:=Ty.Iz (u::ts) x.2
  simp only[Am.eW,Ty.eW] at this
  simp only[Am.eW,Ty.eW,Ty.aD,List.all_cons,Ty.v8] at this⊢
  rw[this]
inductive SC where
 |v (t:Ty) (x:t.D)
 |nil (ts:List Ty)
 |ptr (n k sz off:Nat)
 |cd (ts:List Ty) (x:Ty.DL ts) (off:Nat)
 |sl (n sz lo len:Nat)
 |bx (n k ax off sz len:Nat)
 |cD (n k ax off sz i:Nat)
 |fn (f:FuncId) (bY:List SC)
 |bf
instance:Inhabited SC:=⟨.bf⟩
mutual
def SC.er:SC->ai
 |.v t x=>.c (t.er x)
 |.nil ts=>.nil ts.length
 |.ptr n k sz off=>.ptr n k sz off
 |.cd ts x off=>.cd (Ty.aD ts x) off
 |.sl n sz lo len=>.sl n sz lo len
 |.bx n k ax off sz len=>.bx n k ax off sz len
 |.cD n k ax off sz i=>.cD n k ax off sz i
 |.fn f bY=>.fn f (SC.Gr bY)
 |.bf=>.bf
def SC.Gr:List SC->List ai
 |[]=>[]
 |c::cs=>SC.er c::SC.Gr cs
end
theorem SC.Cm (cs:List SC):SC.Gr cs=cs.map SC.er:=by
 induction cs with
 |nil=>rfl
 |cons c cs ih=>simp[SC.Gr,ih]
inductive SB where
 |box (cs:List SC)
 |row (gr:Bool) (m:Mode) (ts:List Ty) (xs:List (Ty.DL ts))
def SB.er:SB->aq
 |.box cs=>.box (cs.map SC.er)
 |.row gr m ts xs=>.row gr m ts.length (List.map (Ty.aD ts) xs)
inductive SV where
 |one (c:SC)
 |agg (cs:List SC)
 |bn (xs:List (Bool×List SC))
instance:Inhabited SV:=⟨.one .bf⟩
def SV.er:SV->ak
 |.one c=>.one c.er
 |.agg cs=>.agg (cs.map SC.er)
 |.bn xs=>.bn (xs.map fun x=>(x.1,x.2.map SC.er))
structure ah where
 env:Nat->SV
 h:Nat->Option SB
 used:Nat->Bool
def o7 (env:Nat->SV):Nat->ak:=fun s=>(env s).er
def cL (h:Nat->Option SB):Nat->Option aq:=fun n=>(h n).map SB.er
def ah.er (σ:ah):St:={env:=o7 σ.env,h:=cL σ.h,used:=σ.used}
theorem uQ (env:Nat->SV) (n:Nat) (v:SV):o7 (au env n v)=au (o7 env) n v.er:=by
 funext s;simp only[o7,iK];split<;>rfl
theorem Gn (h:Nat->Option SB) (n:Nat) (v:Option SB):cL (au h n v)=au (cL h) n (v.map SB.er):=by
 funext s;simp only[cL,iK];split<;>rfl
def ah.put (σ:ah) (d:Option Nat) (v:SV):ah:=
 match d with
 |some n=>{σ with env:=au σ.env n v}
 |none=>σ
def ah.ins (σ:ah) (n:Nat) (b:SB):Option ah:=
 match σ.used n with
 |true=>none
 |false=>some {σ with h:=au σ.h n (some b),used:=au σ.used n true}
def ah.dd (σ:ah) (n:Nat) (b:SB):ah:={σ with h:=au σ.h n (some b)}
def ah.del (σ:ah) (n:Nat):ah:={σ with h:=au σ.h n none}
theorem ah.di (σ:ah) (d:Option Nat) (v:SV):(σ.put d v).er=σ.er.put d v.er:=by
 cases d with
 |none=>rfl
 |some n=>simp only[ah.put,ah.er,St.put,uQ]
theorem ah.rI {σ σ1:ah} {n:Nat} {b:SB} (h:σ.ins n b=some σ1):σ.er.ins n b.er=some σ1.er:=by
 unfold ah.ins at h
 split at h
 ·cases h
 ·rename_i hu
  injection h with h
  subst h
  simp[St.ins,ah.er,hu,Gn]
theorem ah.nY (σ:ah) (n:Nat) (b:SB):(σ.dd n b).er=σ.er.dd n b.er:=by
 simp[ah.dd,ah.er,St.dd,Gn]
theorem ah.Gq (σ:ah) (n:Nat):(σ.del n).er=σ.er.del n:=by
 simp[ah.del,ah.er,St.del,Gn]
def Ty.cells:(ts:List Ty)->Ty.DL ts->List SC
 |[],_=>[]
 |[t],x=>[.v t x]
 |t::u::ts,x=>.v t x.1::Ty.cells (u::ts) x.2
theorem Ty.lI:∀(ts:List Ty) (x:Ty.DL ts),(Ty.cells ts x).map SC.er=(Ty.aD ts x).map .c
 |[],_=>rfl
 |[t],x=>rfl
 |t::u::ts,x=>by simp only[Ty.cells,Ty.aD,List.map_cons,Ty.lI (u::ts) x.2];rfl
def Oh (n k rs off:Nat) (t:Ty) (x:t.D):SC:=
 match t,x with
 |.list ts,xs=>.bx n k rs off ts.length (aa (α:=Ty.DL ts) xs)
 |.int k',x=>.v (.int k') x
 |.bool,x=>.v .bool x
def Ty.live (n k rs:Nat):Nat->(ts:List Ty)->Ty.DL ts->List SC
 |_,[],_=>[]
 |off,[t],x=>[Oh n k rs off t x]
 |off,t::u::ts,x=>Oh n k rs off t x.1::Ty.live n k rs (off+1) (u::ts) x.2
theorem Xp (n k rs off:Nat) (t:Ty) (x:t.D) (l:List C):f9 n k rs off (t.er x::l)=(Oh n k rs off t x).er::f9 n k rs (off+1) l:=by
 cases t with
 |int k'=>rfl
 |bool=>rfl
 |list ts=>
  exact congrArg (fun m=>ai.bx n k rs off ts.length m::f9 n k rs (off+1) l) (List.length_map (Ty.aD ts))
theorem Ty.Xu (n k rs:Nat):∀(off:Nat) (ts:List Ty) (x:Ty.DL ts),(Ty.live n k rs off ts x).map SC.er=f9 n k rs off (Ty.aD ts x)
 |_,[],_=>rfl
 |off,[t],x=>(Xp n k rs off t x []).symm
 |off,t::u::ts,x=>by simp only[Ty.live,Ty.aD,Xp,List.map_cons,Ty.Xu n k rs (off+1) (u::ts) x.2]
theorem Xq (n k rs:Nat):∀(j off:Nat) (l:List C),(f9 n k rs off l).drop j=f9 n k rs (off+j) (l.drop j)
 |0,off,l=>by simp
 |j+1,off,[]=>by simp[f9]
 |j+1,off,c::l=>by
  have ih:=Xq n k rs j (off+1) l
  rw[show off+1+j=off+(j+1) by omega] at ih
  cases c<;>simpa[f9] using ih
theorem Xt (n k rs:Nat):∀(j off:Nat) (l:List C),(f9 n k rs off l).take j=f9 n k rs off (l.take j)
 |0,off,l=>by simp[f9]
 |j+1,off,[]=>by simp[f9]
 |j+1,off,c::l=>by cases c<;>simp[f9,Xt n k rs j (off+1) l]
theorem Xr (n k rs:Nat):∀(off:Nat) (l:List C),(f9 n k rs off l).length=l.length
 |off,[]=>rfl
 |off,c::l=>by cases c<;>simp[f9,Xr n k rs (off+1) l]
theorem akB (n k rs off sz:Nat) (l:List C):sub (f9 n k rs 0 l) off sz=(sub l off sz).map (f9 n k rs off):=by
 unfold sub
 rw[Xr]
 split
 ·simp[Xq,Xt]
 ·rfl
theorem sJ {α β:Type} (f:α->β) (l:List α) (off sz:Nat):sub (l.map f) off sz=(sub l off sz).map (List.map f):=by
 unfold sub
 rw[List.length_map]
 split
 ·simp[List.map_drop,List.map_take]
 ·rfl
def w6 (t:Ty):(ts:List Ty)->t.D->Ty.DL ts->Ty.DL (t::ts)
 |[],x,_=>x
 |_::_,x,y=>(x,y)
theorem Ko (t:Ty) (ts:List Ty) (x:t.D) (y:Ty.DL ts):Ty.aD (t::ts) (w6 t ts x y)=t.er x::Ty.aD ts y:=by cases ts<;>rfl
def pH:(ts:List Ty)->List ((t:Ty)×t.D)->Option (Ty.DL ts)
 |[],[]=>some ()
 |t::ts,c::cs=>match Ty.cast c.1 t c.2,pH ts cs with
  |some y,some z=>some (w6 t ts y z)
  |_,_=>none
 |_,_=>none
def cj (l:List ((t:Ty)×t.D)):List C:=l.map fun x=>x.1.er x.2
theorem vL:∀{ts:List Ty} {cs:List ((t:Ty)×t.D)} {y:Ty.DL ts},pH ts cs=some y->Ty.aD ts y=cj cs
 |[],[],y,h=>rfl
 |t::ts,c::cs,y,h=>by
  simp only[pH] at h
  split at h
  ·rename_i y1 z h1 h2
   injection h with h
   subst h
   have:=vL h2
   simp only[cj] at this
   simp only[Ko,cj,List.map_cons,Ty.Tv h1,this]
  ·cases h
 |[],_::_,y,h=>by simp[pH] at h
 |t::ts,[],y,h=>by simp[pH] at h
def Ty.gy:(ts:List Ty)->Ty.DL ts->List ((t:Ty)×t.D)
 |[],_=>[]
 |[t],x=>[⟨t,x⟩]
 |t::u::ts,x=>⟨t,x.1⟩::Ty.gy (u::ts) x.2
theorem Ty.oY:∀(ts:List Ty) (x:Ty.DL ts),cj (Ty.gy ts x)=Ty.aD ts x
 |[],_=>rfl
 |[t],x=>rfl
 |t::u::ts,x=>by
  have:=Ty.oY (u::ts) x.2
  simp only[cj] at this
  simp only[Ty.gy,Ty.aD,cj,List.map_cons,this]
end Go.Am
end
