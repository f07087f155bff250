/- S0, S1: parts of the proof. No condition. -/
import Derived.Test.YtbgmbplglejidaaAm30
import Derived.Test.YtbgmbplglejidaaAmW
set_option linter.unusedVariables false
section
namespace Go.Am
def _root_.Option.U {α β:Type} (o:Option α) (f:α->Option β):Option β:=o.bind f
def ak {α:Type} (b:Bool) (x y:α):α:=cond b x y
def aU (k:IntKind) (a b:Int):Int:=k.wrap (a+b)
def dV (k:IntKind) (a b:Int):Int:=k.wrap (a - b)
def cu (k:IntKind) (a b:Int):Int:=k.wrap (a*b)
def anc (k:IntKind) (a:Int):Int:=k.wrap (0 - a)
def C5 (k:IntKind) (a:Int):Int:=k.wrap a
def HC (k:IntKind) (a b:Int):Int:=bits .and k a b
def orI (k:IntKind) (a b:Int):Int:=bits .or k a b
def aqM (k:IntKind) (a b:Int):Int:=bits .xor k a b
def bL (a b:Int):Bool:=a==b
def dt (a b:Int):Bool:=a !=b
def bd (a b:Int):Bool:=decide (a<b)
def fM (a b:Int):Bool:=decide (a<=b)
def eqB (a b:Bool):Bool:=a==b
def EB (a b:Bool):Bool:=a !=b
def cC (a:Bool):Bool:= !a
def QB (a b:Int):Int:=if a<b then b else a
def BC (a b:Int):Int:=if b<a then b else a
def J {α:Type} (xs:List α):Nat:=xs.length
def aI (n:Nat):Int:=(n:Int)
def aC (a b:Nat):Nat:=a+b
def bY {α:Type} (xs:List α) (k:Nat):Option α:=xs[k]?
def bg {α:Type} (xs:List α) (k:Nat) (x:α):List α:=xs.set k x
def dP {α:Type} (xs ys:List α):List α:=xs++ys
def dN {α:Type} (n:Nat) (x:α):List α:=List.replicate n x
def fe {α:Type} (xs:List α) (lo len:Nat):List α:=(xs.drop lo).take len
def dd {α:Type} (xs:List α) (i:Int):Option α:=if 0<=i then xs[i.toNat]? else none
def da (i:Int) (len:Nat):Option Nat:=if 0<=i/\i<len then some i.toNat else none
def f7 (lo hi:Int) (len:Nat):Option (Nat×Nat):=if 0<=lo/\lo<=hi/\hi<=len then some (lo.toNat,(hi - lo).toNat) else none
def cd {α:Type} (xs:List α) (lo len:Nat):Option (List α):=if lo+len<=xs.length then some ((xs.drop lo).take len) else none
def c9 {α:Type} (xs:List α) (len:Nat):Option (List α):=if len<=xs.length then some (xs.take len) else none
def H9 {α:Type} (xs:List α) (lo len:Nat) (ys:List α):Option (List α):=if lo+len<=xs.length then some (xs.take lo++ys++xs.drop (lo+ys.length)) else none
def qB (a b:Int) (by_:Nat):Option Nat:=if a<=b/\0<=a/\b.toNat*by_<=dA then some a.toNat else none
def jL (n by_:Nat):Option Unit:=if n*by_<=dA then some () else none
def jF (a b:Nat):Option Unit:=if a=b then some () else none
def ae (lo len l:Nat):Option Unit:=if lo=0/\len=l then some () else none
def w7 (k:IntKind) (a b:Int):Option Int:=if b=0 then none else some (k.wrap (a.tdiv b))
def hZ (a b:Int):Option Int:=if b=0 then none else some (a.tmod b)
def xj (k:IntKind) (a b:Int):Option Int:=if b<0 then none else some (k.wrap (a*2^(min b.toNat k.bits)))
def Cd (k:IntKind) (a b:Int):Option Int:=if b<0 then none else some (a/(2^(min b.toNat k.bits)))
def bu {X Y:Type}:Nat->(X->Option (X⊕Y))->X->Option Y
 |0,_,_=>none
 |n+1,f,x=>match f x with
  |some (.inl x')=>bu n f x'
  |some (.inr y)=>some y
  |none=>none
def bD {X ρ:Type} (o:Option (X⊕ρ)) (k:X->Option ρ):Option ρ:=o.bind fun s=>Sum.casesOn s k some
theorem eH {α β:Type} {o:Option α} {f:α->Option β} {b:β}:o.U f=some b↔∃a,o=some a/\f a=some b:=Option.bind_eq_some_iff
theorem ML {α:Type} (x y:α):ak true x y=x:=rfl
theorem H4 {α:Type} (x y:α):ak false x y=y:=rfl
end Go.Am
end
section
namespace Go.Am
inductive Ty where
 |int (k:IntKind)
 |bool
 |list (ts:List Ty)
instance:Inhabited Ty:=⟨.bool⟩
mutual
def Ty.beq:Ty->Ty->Bool
 |.int k,.int k'=>decide (k=k')
 |.bool,.bool=>true
 |.list ts,.list us=>Ty.q9 ts us
 |_,_=>false
def Ty.q9:List Ty->List Ty->Bool
 |[],[]=>true
 |t::ts,u::us=>Ty.beq t u&&Ty.q9 ts us
 |_,_=>false
end
mutual
theorem Ty.beq_eq:∀{t u:Ty},Ty.beq t u=true->t=u
 |.int k,.int k',h=>by simp[Ty.beq] at h;rw[h]
 |.bool,.bool,_=>rfl
 |.list ts,.list us,h=>by simp only[Ty.beq] at h;rw[Ty.sx h]
 |.int _,.bool,h=>by simp[Ty.beq] at h
 |.int _,.list _,h=>by simp[Ty.beq] at h
 |.bool,.int _,h=>by simp[Ty.beq] at h
 |.bool,.list _,h=>by simp[Ty.beq] at h
 |.list _,.int _,h=>by simp[Ty.beq] at h
 |.list _,.bool,h=>by simp[Ty.beq] at h
theorem Ty.sx:∀{ts us:List Ty},Ty.q9 ts us=true->ts=us
 |[],[],_=>rfl
 |t::ts,u::us,h=>by simp only[Ty.q9,Bool.and_eq_true] at h;rw[Ty.beq_eq h.1,Ty.sx h.2]
 |[],_::_,h=>by simp[Ty.q9] at h
 |_::_,[],h=>by simp[Ty.q9] at h
end
mutual
def Ty.D:Ty->Type
 |.int _=>Int
 |.bool=>Bool
 |.list ts=>List (Ty.DL ts)
def Ty.DL:List Ty->Type
 |[]=>Unit
 |t::ts=>match ts with
  |[]=>Ty.D t
  |u::us=>Ty.D t×Ty.DL (u::us)
end
mutual
def Ty.er:(t:Ty)->t.D->C
 |.int k,n=>.int k n
 |.bool,b=>.bool b
 |.list ts,xs=>.list ts.length (List.map (Ty.aJ ts) xs)
def Ty.aJ:(ts:List Ty)->Ty.DL ts->List C
 |[],_=>[]
 |[t],x=>[Ty.er t x]
 |t::u::ts,x=>Ty.er t x.1::Ty.aJ (u::ts) x.2
end
def Ty.cast (t u:Ty) (x:t.D):Option u.D:=if h:Ty.beq t u=true then some (Ty.beq_eq h▸x) else none
theorem Ty.Xq {t u:Ty} {x:t.D} {y:u.D} (h:Ty.cast t u x=some y):t.er x=u.er y:=by
 unfold Ty.cast at h
 split at h
 ·rename_i he
  have:=Ty.beq_eq he
  subst this
  injection h with h
  rw[<-h]
 ·cases h
def Ty.Ms (ts us:List Ty) (x:Ty.DL ts):Option (Ty.DL us):=if h:Ty.q9 ts us=true then some (Ty.sx h▸x) else none
theorem Ty.Df:∀(ts:List Ty) (x:Ty.DL ts),(Ty.aJ ts x).length=ts.length
 |[],_=>rfl
 |[t],_=>rfl
 |t::u::ts,x=>by simp only[Ty.aJ,List.length_cons,Ty.Df (u::ts) x.2]
def Ty.eF:Ty->Bool
 |.list _=>false
 |_=>true
theorem Ty.xg (t:Ty) (x:t.D):(t.er x).eF=t.eF:=by cases t<;>rfl
def Ty.fq (ts:List Ty):Bool:=ts.all Ty.eF
theorem Ty.Kc:∀(ts:List Ty) (x:Ty.DL ts),Am.fq (Ty.aJ ts x)=Ty.fq ts
 |[],_=>rfl
 |[t],x=>by simp[Am.fq,Ty.aJ,Ty.fq];exact Ty.xg t x
 |t::u::ts,x=>by
  have:=Ty.Kc (u::ts) x.2
  simp only[Am.fq,Ty.fq] at this
  simp only[Am.fq,Ty.fq,Ty.aJ,List.all_cons,Ty.xg] at this⊢
  rw[this]
inductive SC where
 |v (t:Ty) (x:t.D)
 |nil (ts:List Ty)
 |ptr (n k sz off:Nat)
 |cj (ts:List Ty) (x:Ty.DL ts) (off:Nat)
 |sl (n sz lo len:Nat)
 |bx (n k aD off sz len:Nat)
 |cN (n k aD off sz i:Nat)
 |fn (f:FuncId) (cf:List SC)
 |bn
instance:Inhabited SC:=⟨.bn⟩
mutual
def SC.er:SC->ah
 |.v t x=>.c (t.er x)
 |.nil ts=>.nil ts.length
 |.ptr n k sz off=>.ptr n k sz off
 |.cj ts x off=>.cj (Ty.aJ ts x) off
 |.sl n sz lo len=>.sl n sz lo len
 |.bx n k aD off sz len=>.bx n k aD off sz len
 |.cN n k aD off sz i=>.cN n k aD off sz i
 |.fn f cf=>.fn f (SC.Ip cf)
 |.bn=>.bn
def SC.Ip:List SC->List ah
 |[]=>[]
 |c::cs=>SC.er c::SC.Ip cs
end
theorem SC.Di (cs:List SC):SC.Ip cs=cs.map SC.er:=by
 induction cs with
 |nil=>rfl
 |cons c cs ih=>simp[SC.Ip,ih]
inductive SB where
 |box (cs:List SC)
 |row (gr:Bool) (m:Mode) (ts:List Ty) (xs:List (Ty.DL ts))
def SB.er:SB->aq
 |.box cs=>.box (cs.map SC.er)
 |.row gr m ts xs=>.row gr m ts.length (List.map (Ty.aJ ts) xs)
inductive SV where
 |one (c:SC)
 |agg (cs:List SC)
 |bo (xs:List (Bool×List SC))
instance:Inhabited SV:=⟨.one .bn⟩
def SV.er:SV->aj
 |.one c=>.one c.er
 |.agg cs=>.agg (cs.map SC.er)
 |.bo xs=>.bo (xs.map fun x=>(x.1,x.2.map SC.er))
structure af where
 env:Nat->SV
 h:Nat->Option SB
 used:Nat->Bool
def pR (env:Nat->SV):Nat->aj:=fun s=>(env s).er
def cR (h:Nat->Option SB):Nat->Option aq:=fun n=>(h n).map SB.er
def af.er (σ:af):St:={env:=pR σ.env,h:=cR σ.h,used:=σ.used}
theorem vP (env:Nat->SV) (n:Nat) (v:SV):pR (ax env n v)=ax (pR env) n v.er:=by
 funext s;simp only[pR,iO];split<;>rfl
theorem Ik (h:Nat->Option SB) (n:Nat) (v:Option SB):cR (ax h n v)=ax (cR h) n (v.map SB.er):=by
 funext s;simp only[cR,iO];split<;>rfl
def af.put (σ:af) (d:Option Nat) (v:SV):af:=
 match d with
 |some n=>{σ with env:=ax σ.env n v}
 |none=>σ
def af.ins (σ:af) (n:Nat) (b:SB):Option af:=
 match σ.used n with
 |true=>none
 |false=>some {σ with h:=ax σ.h n (some b),used:=ax σ.used n true}
def af.du (σ:af) (n:Nat) (b:SB):af:={σ with h:=ax σ.h n (some b)}
def af.del (σ:af) (n:Nat):af:={σ with h:=ax σ.h n none}
theorem af.dn (σ:af) (d:Option Nat) (v:SV):(σ.put d v).er=σ.er.put d v.er:=by
 cases d with
 |none=>rfl
 |some n=>simp only[af.put,af.er,St.put,vP]
theorem af.sH {σ σ1:af} {n:Nat} {b:SB} (h:σ.ins n b=some σ1):σ.er.ins n b.er=some σ1.er:=by
 unfold af.ins at h
 split at h
 ·cases h
 ·rename_i hu
  injection h with h
  subst h
  simp[St.ins,af.er,hu,Ik]
theorem af.oJ (σ:af) (n:Nat) (b:SB):(σ.du n b).er=σ.er.du n b.er:=by
 simp[af.du,af.er,St.du,Ik]
theorem af.Io (σ:af) (n:Nat):(σ.del n).er=σ.er.del n:=by
 simp[af.del,af.er,St.del,Ik]
def Ty.cells:(ts:List Ty)->Ty.DL ts->List SC
 |[],_=>[]
 |[t],x=>[.v t x]
 |t::u::ts,x=>.v t x.1::Ty.cells (u::ts) x.2
theorem Ty.lx:∀(ts:List Ty) (x:Ty.DL ts),(Ty.cells ts x).map SC.er=(Ty.aJ ts x).map .c
 |[],_=>rfl
 |[t],x=>rfl
 |t::u::ts,x=>by simp only[Ty.cells,Ty.aJ,List.map_cons,Ty.lx (u::ts) x.2];rfl
def Qp (n k rs off:Nat) (t:Ty) (x:t.D):SC:=
 match t,x with
 |.list ts,xs=>.bx n k rs off ts.length (J (α:=Ty.DL ts) xs)
 |.int k',x=>.v (.int k') x
 |.bool,x=>.v .bool x
def Ty.live (n k rs:Nat):Nat->(ts:List Ty)->Ty.DL ts->List SC
 |_,[],_=>[]
 |off,[t],x=>[Qp n k rs off t x]
 |off,t::u::ts,x=>Qp n k rs off t x.1::Ty.live n k rs (off+1) (u::ts) x.2
theorem aaQ (n k rs off:Nat) (t:Ty) (x:t.D) (l:List C):gz n k rs off (t.er x::l)=(Qp n k rs off t x).er::gz n k rs (off+1) l:=by
 cases t with
 |int k'=>rfl
 |bool=>rfl
 |list ts=>
  exact congrArg (fun m=>ah.bx n k rs off ts.length m::gz n k rs (off+1) l) (List.length_map (Ty.aJ ts))
theorem Ty.aaV (n k rs:Nat):∀(off:Nat) (ts:List Ty) (x:Ty.DL ts),(Ty.live n k rs off ts x).map SC.er=gz n k rs off (Ty.aJ ts x)
 |_,[],_=>rfl
 |off,[t],x=>(aaQ n k rs off t x []).symm
 |off,t::u::ts,x=>by simp only[Ty.live,Ty.aJ,aaQ,List.map_cons,Ty.aaV n k rs (off+1) (u::ts) x.2]
theorem aaR (n k rs:Nat):∀(j off:Nat) (l:List C),(gz n k rs off l).drop j=gz n k rs (off+j) (l.drop j)
 |0,off,l=>by simp
 |j+1,off,[]=>by simp[gz]
 |j+1,off,c::l=>by
  have ih:=aaR n k rs j (off+1) l
  rw[show off+1+j=off+(j+1) by omega] at ih
  cases c<;>simpa[gz] using ih
theorem aaU (n k rs:Nat):∀(j off:Nat) (l:List C),(gz n k rs off l).take j=gz n k rs off (l.take j)
 |0,off,l=>by simp[gz]
 |j+1,off,[]=>by simp[gz]
 |j+1,off,c::l=>by cases c<;>simp[gz,aaU n k rs j (off+1) l]
theorem aaS (n k rs:Nat):∀(off:Nat) (l:List C),(gz n k rs off l).length=l.length
 |off,[]=>rfl
 |off,c::l=>by cases c<;>simp[gz,aaS n k rs (off+1) l]
theorem aqa (n k rs off sz:Nat) (l:List C):sub (gz n k rs 0 l) off sz=(sub l off sz).map (gz n k rs off):=by
 unfold sub
 rw[aaS]
 split
 ·simp[aaR,aaU]
 ·rfl
theorem tw {α β:Type} (f:α->β) (l:List α) (off sz:Nat):sub (l.map f) off sz=(sub l off sz).map (List.map f):=by
 unfold sub
 rw[List.length_map]
 split
 ·simp[List.map_drop,List.map_take]
 ·rfl
def x6 (t:Ty):(ts:List Ty)->t.D->Ty.DL ts->Ty.DL (t::ts)
 |[],x,_=>x
 |_::_,x,y=>(x,y)
theorem MQ (t:Ty) (ts:List Ty) (x:t.D) (y:Ty.DL ts):Ty.aJ (t::ts) (x6 t ts x y)=t.er x::Ty.aJ ts y:=by cases ts<;>rfl
def qA:(ts:List Ty)->List ((t:Ty)×t.D)->Option (Ty.DL ts)
 |[],[]=>some ()
 |t::ts,c::cs=>match Ty.cast c.1 t c.2,qA ts cs with
  |some y,some z=>some (x6 t ts y z)
  |_,_=>none
 |_,_=>none
def cA (l:List ((t:Ty)×t.D)):List C:=l.map fun x=>x.1.er x.2
theorem wS:∀{ts:List Ty} {cs:List ((t:Ty)×t.D)} {y:Ty.DL ts},qA ts cs=some y->Ty.aJ ts y=cA cs
 |[],[],y,h=>rfl
 |t::ts,c::cs,y,h=>by
  simp only[qA] at h
  split at h
  ·rename_i y1 z h1 h2
   injection h with h
   subst h
   have:=wS h2
   simp only[cA] at this
   simp only[MQ,cA,List.map_cons,Ty.Xq h1,this]
  ·cases h
 |[],_::_,y,h=>by simp[qA] at h
 |t::ts,[],y,h=>by simp[qA] at h
def Ty.gW:(ts:List Ty)->Ty.DL ts->List ((t:Ty)×t.D)
 |[],_=>[]
 |[t],x=>[⟨t,x⟩]
 |t::u::ts,x=>⟨t,x.1⟩::Ty.gW (u::ts) x.2
theorem Ty.pN:∀(ts:List Ty) (x:Ty.DL ts),cA (Ty.gW ts x)=Ty.aJ ts x
 |[],_=>rfl
 |[t],x=>rfl
 |t::u::ts,x=>by
  have:=Ty.pN (u::ts) x.2
  simp only[cA] at this
  simp only[Ty.gW,Ty.aJ,cA,List.map_cons,this]
end Go.Am
end
