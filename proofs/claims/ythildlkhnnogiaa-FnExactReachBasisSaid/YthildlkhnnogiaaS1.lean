/- S0, S1: parts of the proof. No condition. -/
import Derived.Test.YthildlkhnnogiaaAm30
import Derived.Test.YthildlkhnnogiaaAmW
set_option linter.unusedVariables false
section
namespace Go.Am
def _root_.Option.U {α β:Type} (o:Option α) (f:α->Option β):Option β:=o.bind f
def aL {α:Type} (b:Bool) (x y:α):α:=cond b x y
def bB (k:IntKind) (a b:Int):Int:=k.wrap (a+b)
def lO (k:IntKind) (a b:Int):Int:=k.wrap (a - b)
def dF (k:IntKind) (a b:Int):Int:=k.wrap (a*b)
def ajM (k:IntKind) (a:Int):Int:=k.wrap (0 - a)
def acS (k:IntKind) (a:Int):Int:=k.wrap a
def HW (k:IntKind) (a b:Int):Int:=bits .and k a b
def orI (k:IntKind) (a b:Int):Int:=bits .or k a b
def am1 (k:IntKind) (a b:Int):Int:=bits .xor k a b
def k8 (a b:Int):Bool:=a==b
def dU (a b:Int):Bool:=a !=b
def bD (a b:Int):Bool:=decide (a<b)
def qZ (a b:Int):Bool:=decide (a<=b)
def eqB (a b:Bool):Bool:=a==b
def Zs (a b:Bool):Bool:=a !=b
def eK (a:Bool):Bool:= !a
def PZ (a b:Int):Int:=if a<b then b else a
def P1 (a b:Int):Int:=if b<a then b else a
def J {α:Type} (xs:List α):Nat:=xs.length
def ba (n:Nat):Int:=(n:Int)
def aV (a b:Nat):Nat:=a+b
def dj {α:Type} (xs:List α) (k:Nat):Option α:=xs[k]?
def cK {α:Type} (xs:List α) (k:Nat) (x:α):List α:=xs.set k x
def cY {α:Type} (xs ys:List α):List α:=xs++ys
def jg {α:Type} (n:Nat) (x:α):List α:=List.replicate n x
def Kv {α:Type} (xs:List α) (lo len:Nat):List α:=(xs.drop lo).take len
def eX {α:Type} (xs:List α) (i:Int):Option α:=if 0<=i then xs[i.toNat]? else none
def fw (i:Int) (len:Nat):Option Nat:=if 0<=i/\i<len then some i.toNat else none
def ye (lo hi:Int) (len:Nat):Option (Nat×Nat):=if 0<=lo/\lo<=hi/\hi<=len then some (lo.toNat,(hi - lo).toNat) else none
def cO {α:Type} (xs:List α) (lo len:Nat):Option (List α):=if lo+len<=xs.length then some ((xs.drop lo).take len) else none
def dH {α:Type} (xs:List α) (len:Nat):Option (List α):=if len<=xs.length then some (xs.take len) else none
def Ip {α:Type} (xs:List α) (lo len:Nat) (ys:List α):Option (List α):=if lo+len<=xs.length then some (xs.take lo++ys++xs.drop (lo+ys.length)) else none
def xJ (a b:Int) (by_:Nat):Option Nat:=if a<=b/\0<=a/\b.toNat*by_<=e8 then some a.toNat else none
def lf (n by_:Nat):Option Unit:=if n*by_<=e8 then some () else none
def iS (a b:Nat):Option Unit:=if a=b then some () else none
def J4 (n:Nat):Option Unit:=if 0<n then some () else none
def sF {α:Type} (xs:List α):List α:=xs.drop 1
def ai (lo len l:Nat):Option Unit:=if lo=0/\len=l then some () else none
def FC (k:IntKind) (a b:Int):Option Int:=if b=0 then none else some (k.wrap (a.tdiv b))
def hH (a b:Int):Option Int:=if b=0 then none else some (a.tmod b)
def aaE (k:IntKind) (a b:Int):Option Int:=if b<0 then none else some (k.wrap (a*2^(min b.toNat k.bits)))
def CY (k:IntKind) (a b:Int):Option Int:=if b<0 then none else some (a/(2^(min b.toNat k.bits)))
def bC {X Y:Type}:Nat->(X->Option (X⊕Y))->X->Option Y
 |0,_,_=>none
 |n+1,f,x=>match f x with
  |some (.inl x')=>bC n f x'
  |some (.inr y)=>some y
  |none=>none
def cI {X ρ:Type} (o:Option (X⊕ρ)) (k:X->Option ρ):Option ρ:=o.bind fun s=>Sum.casesOn s k some
theorem cU {α β:Type} {o:Option α} {f:α->Option β} {b:β}:o.U f=some b↔∃a,o=some a/\f a=some b:=Option.bind_eq_some_iff
theorem Mx {α:Type} (x y:α):aL true x y=x:=rfl
theorem Ik {α:Type} (x y:α):aL false x y=y:=rfl
end Go.Am
end
section
namespace Go.Am
inductive Ty where
 |int (k:IntKind)
 |bool
 |list (ts:List Ty)
instance:Inhabited Ty:=⟨.bool⟩
mutual
def Ty.beq:Ty->Ty->Bool
 |.int k,.int k'=>decide (k=k')
 |.bool,.bool=>true
 |.list ts,.list us=>Ty.rG ts us
 |_,_=>false
def Ty.rG:List Ty->List Ty->Bool
 |[],[]=>true
 |t::ts,u::us=>Ty.beq t u&&Ty.rG ts us
 |_,_=>false
end
mutual
theorem Ty.beq_eq:∀{t u:Ty},Ty.beq t u=true->t=u
 |.int k,.int k',h=>by simp[Ty.beq] at h;rw[h]
 |.bool,.bool,_=>rfl
 |.list ts,.list us,h=>by simp only[Ty.beq] at h;rw[Ty.rH h]
 |.int _,.bool,h=>by simp[Ty.beq] at h
 |.int _,.list _,h=>by simp[Ty.beq] at h
 |.bool,.int _,h=>by simp[Ty.beq] at h
 |.bool,.list _,h=>by simp[Ty.beq] at h
 |.list _,.int _,h=>by simp[Ty.beq] at h
 |.list _,.bool,h=>by simp[Ty.beq] at h
theorem Ty.rH:∀{ts us:List Ty},Ty.rG ts us=true->ts=us
 |[],[],_=>rfl
 |t::ts,u::us,h=>by simp only[Ty.rG,Bool.and_eq_true] at h;rw[Ty.beq_eq h.1,Ty.rH h.2]
 |[],_::_,h=>by simp[Ty.rG] at h
 |_::_,[],h=>by simp[Ty.rG] at h
end
mutual
def Ty.D:Ty->Type
 |.int _=>Int
 |.bool=>Bool
 |.list ts=>List (Ty.DL ts)
def Ty.DL:List Ty->Type
 |[]=>Unit
 |t::ts=>match ts with
  |[]=>Ty.D t
  |u::us=>Ty.D t×Ty.DL (u::us)
end
mutual
def Ty.er:(t:Ty)->t.D->C
 |.int k,n=>.int k n
 |.bool,b=>.bool b
 |.list ts,xs=>.list ts.length (List.map (Ty.aw ts) xs)
def Ty.aw:(ts:List Ty)->Ty.DL ts->List C
 |[],_=>[]
 |[t],x=>[Ty.er t x]
 |t::u::ts,x=>Ty.er t x.1::Ty.aw (u::ts) x.2
end
def Ty.cast (t u:Ty) (x:t.D):Option u.D:=if h:Ty.beq t u=true then some (Ty.beq_eq h▸x) else none
theorem Ty.Mf {t u:Ty} {x:t.D} {y:u.D} (h:Ty.cast t u x=some y):t.er x=u.er y:=by
 unfold Ty.cast at h
 split at h
 ·rename_i he
  have:=Ty.beq_eq he
  subst this
  injection h with h
  rw[<-h]
 ·cases h
def Ty.Bg (ts us:List Ty) (x:Ty.DL ts):Option (Ty.DL us):=if h:Ty.rG ts us=true then some (Ty.rH h▸x) else none
theorem Ty.Bw:∀(ts:List Ty) (x:Ty.DL ts),(Ty.aw ts x).length=ts.length
 |[],_=>rfl
 |[t],_=>rfl
 |t::u::ts,x=>by simp only[Ty.aw,List.length_cons,Ty.Bw (u::ts) x.2]
def Ty.dL:Ty->Bool
 |.list _=>false
 |_=>true
theorem Ty.v9 (t:Ty) (x:t.D):(t.er x).dL=t.dL:=by cases t<;>rfl
def Ty.eo (ts:List Ty):Bool:=ts.all Ty.dL
theorem Ty.FM:∀(ts:List Ty) (x:Ty.DL ts),Am.eo (Ty.aw ts x)=Ty.eo ts
 |[],_=>rfl
 |[t],x=>by simp[Am.eo,Ty.aw,Ty.eo];exact Ty.v9 t x
 |t::u::ts,x=>by
  have:=Ty.FM (u::ts) x.2
  simp only[Am.eo,Ty.eo] at this
  simp only[Am.eo,Ty.eo,Ty.aw,List.all_cons,Ty.v9] at this⊢
  rw[this]
inductive SC where
 |v (t:Ty) (x:t.D)
 |nil (ts:List Ty)
 |ptr (n k sz off:Nat)
 |cd (ts:List Ty) (x:Ty.DL ts) (off:Nat)
 |sl (n sz lo len:Nat)
 |bf (n k au off sz len:Nat)
 |bX (n k au off sz i:Nat)
 |bK (ts:List Ty) (x:Ty.DL ts) (off j n sz len:Nat)
 |fn (f:FuncId) (bI:List SC)
 |aX
instance:Inhabited SC:=⟨.aX⟩
mutual
def SC.er:SC->ab
 |.v t x=>.c (t.er x)
 |.nil ts=>.nil ts.length
 |.ptr n k sz off=>.ptr n k sz off
 |.cd ts x off=>.cd (Ty.aw ts x) off
 |.sl n sz lo len=>.sl n sz lo len
 |.bf n k au off sz len=>.bf n k au off sz len
 |.bX n k au off sz i=>.bX n k au off sz i
 |.bK ts x off j n sz len=>.bK (Ty.aw ts x) off j n sz len
 |.fn f bI=>.fn f (SC.Iz bI)
 |.aX=>.aX
def SC.Iz:List SC->List ab
 |[]=>[]
 |c::cs=>SC.er c::SC.Iz cs
end
theorem SC.y5 (cs:List SC):SC.Iz cs=cs.map SC.er:=by
 induction cs with
 |nil=>rfl
 |cons c cs ih=>simp[SC.Iz,ih]
inductive SB where
 |box (cs:List SC)
 |row (gr:Bool) (m:Mode) (ts:List Ty) (xs:List (Ty.DL ts))
def SB.er:SB->aj
 |.box cs=>.box (cs.map SC.er)
 |.row gr m ts xs=>.row gr m ts.length (List.map (Ty.aw ts) xs)
inductive SV where
 |one (c:SC)
 |agg (cs:List SC)
 |bk (xs:List (Bool×List SC))
instance:Inhabited SV:=⟨.one .aX⟩
def SV.er:SV->ah
 |.one c=>.one c.er
 |.agg cs=>.agg (cs.map SC.er)
 |.bk xs=>.bk (xs.map fun x=>(x.1,x.2.map SC.er))
structure aa where
 env:Nat->SV
 h:Nat->Option SB
 used:Nat->Bool
def qw (env:Nat->SV):Nat->ah:=fun s=>(env s).er
def cf (h:Nat->Option SB):Nat->Option aj:=fun n=>(h n).map SB.er
def aa.er (σ:aa):St:={env:=qw σ.env,h:=cf σ.h,used:=σ.used}
theorem uO (env:Nat->SV) (n:Nat) (v:SV):qw (ao env n v)=ao (qw env) n v.er:=by
 funext s;simp only[qw,iU];split<;>rfl
theorem Ix (h:Nat->Option SB) (n:Nat) (v:Option SB):cf (ao h n v)=ao (cf h) n (v.map SB.er):=by
 funext s;simp only[cf,iU];split<;>rfl
def aa.put (σ:aa) (d:Option Nat) (v:SV):aa:=
 match d with
 |some n=>{σ with env:=ao σ.env n v}
 |none=>σ
def aa.ins (σ:aa) (n:Nat) (b:SB):Option aa:=
 match σ.used n with
 |true=>none
 |false=>some {σ with h:=ao σ.h n (some b),used:=ao σ.used n true}
def aa.cW (σ:aa) (n:Nat) (b:SB):aa:={σ with h:=ao σ.h n (some b)}
def aa.del (σ:aa) (n:Nat):aa:={σ with h:=ao σ.h n none}
theorem aa.cL (σ:aa) (d:Option Nat) (v:SV):(σ.put d v).er=σ.er.put d v.er:=by
 cases d with
 |none=>rfl
 |some n=>simp only[aa.put,aa.er,St.put,uO]
theorem aa.m9 {σ σ1:aa} {n:Nat} {b:SB} (h:σ.ins n b=some σ1):σ.er.ins n b.er=some σ1.er:=by
 unfold aa.ins at h
 split at h
 ·cases h
 ·rename_i hu
  injection h with h
  subst h
  simp[St.ins,aa.er,hu,Ix]
theorem aa.n6 (σ:aa) (n:Nat) (b:SB):(σ.cW n b).er=σ.er.cW n b.er:=by
 simp[aa.cW,aa.er,St.cW,Ix]
theorem aa.y4 (σ:aa) (n:Nat):(σ.del n).er=σ.er.del n:=by
 simp[aa.del,aa.er,St.del,Ix]
def Ty.cells:(ts:List Ty)->Ty.DL ts->List SC
 |[],_=>[]
 |[t],x=>[.v t x]
 |t::u::ts,x=>.v t x.1::Ty.cells (u::ts) x.2
theorem Ty.jo:∀(ts:List Ty) (x:Ty.DL ts),(Ty.cells ts x).map SC.er=(Ty.aw ts x).map .c
 |[],_=>rfl
 |[t],x=>rfl
 |t::u::ts,x=>by simp only[Ty.cells,Ty.aw,List.map_cons,Ty.jo (u::ts) x.2];rfl
def PO (n k rs off:Nat) (t:Ty) (x:t.D):SC:=
 match t,x with
 |.list ts,xs=>.bf n k rs off ts.length (J (α:=Ty.DL ts) xs)
 |.int k',x=>.v (.int k') x
 |.bool,x=>.v .bool x
def Ty.live (n k rs:Nat):Nat->(ts:List Ty)->Ty.DL ts->List SC
 |_,[],_=>[]
 |off,[t],x=>[PO n k rs off t x]
 |off,t::u::ts,x=>PO n k rs off t x.1::Ty.live n k rs (off+1) (u::ts) x.2
theorem YU (n k rs off:Nat) (t:Ty) (x:t.D) (l:List C):gB n k rs off (t.er x::l)=(PO n k rs off t x).er::gB n k rs (off+1) l:=by
 cases t with
 |int k'=>rfl
 |bool=>rfl
 |list ts=>
  exact congrArg (fun m=>ab.bf n k rs off ts.length m::gB n k rs (off+1) l) (List.length_map (Ty.aw ts))
theorem Ty.YZ (n k rs:Nat):∀(off:Nat) (ts:List Ty) (x:Ty.DL ts),(Ty.live n k rs off ts x).map SC.er=gB n k rs off (Ty.aw ts x)
 |_,[],_=>rfl
 |off,[t],x=>(YU n k rs off t x []).symm
 |off,t::u::ts,x=>by simp only[Ty.live,Ty.aw,YU,List.map_cons,Ty.YZ n k rs (off+1) (u::ts) x.2]
theorem YV (n k rs:Nat):∀(j off:Nat) (l:List C),(gB n k rs off l).drop j=gB n k rs (off+j) (l.drop j)
 |0,off,l=>by simp
 |j+1,off,[]=>by simp[gB]
 |j+1,off,c::l=>by
  have ih:=YV n k rs j (off+1) l
  rw[show off+1+j=off+(j+1) by omega] at ih
  cases c<;>simpa[gB] using ih
theorem YY (n k rs:Nat):∀(j off:Nat) (l:List C),(gB n k rs off l).take j=gB n k rs off (l.take j)
 |0,off,l=>by simp[gB]
 |j+1,off,[]=>by simp[gB]
 |j+1,off,c::l=>by cases c<;>simp[gB,YY n k rs j (off+1) l]
theorem YW (n k rs:Nat):∀(off:Nat) (l:List C),(gB n k rs off l).length=l.length
 |off,[]=>rfl
 |off,c::l=>by cases c<;>simp[gB,YW n k rs (off+1) l]
theorem amj (n k rs off sz:Nat) (l:List C):sub (gB n k rs 0 l) off sz=(sub l off sz).map (gB n k rs off):=by
 unfold sub
 rw[YW]
 split
 ·simp[YV,YY]
 ·rfl
theorem rp {α β:Type} (f:α->β) (l:List α) (off sz:Nat):sub (l.map f) off sz=(sub l off sz).map (List.map f):=by
 unfold sub
 rw[List.length_map]
 split
 ·simp[List.map_drop,List.map_take]
 ·rfl
def yV (t:Ty):(ts:List Ty)->t.D->Ty.DL ts->Ty.DL (t::ts)
 |[],x,_=>x
 |_::_,x,y=>(x,y)
theorem Mz (t:Ty) (ts:List Ty) (x:t.D) (y:Ty.DL ts):Ty.aw (t::ts) (yV t ts x y)=t.er x::Ty.aw ts y:=by cases ts<;>rfl
def pP:(ts:List Ty)->List ((t:Ty)×t.D)->Option (Ty.DL ts)
 |[],[]=>some ()
 |t::ts,c::cs=>match Ty.cast c.1 t c.2,pP ts cs with
  |some y,some z=>some (yV t ts y z)
  |_,_=>none
 |_,_=>none
def cg (l:List ((t:Ty)×t.D)):List C:=l.map fun x=>x.1.er x.2
theorem vP:∀{ts:List Ty} {cs:List ((t:Ty)×t.D)} {y:Ty.DL ts},pP ts cs=some y->Ty.aw ts y=cg cs
 |[],[],y,h=>rfl
 |t::ts,c::cs,y,h=>by
  simp only[pP] at h
  split at h
  ·rename_i y1 z h1 h2
   injection h with h
   subst h
   have:=vP h2
   simp only[cg] at this
   simp only[Mz,cg,List.map_cons,Ty.Mf h1,this]
  ·cases h
 |[],_::_,y,h=>by simp[pP] at h
 |t::ts,[],y,h=>by simp[pP] at h
def Ty.fG:(ts:List Ty)->Ty.DL ts->List ((t:Ty)×t.D)
 |[],_=>[]
 |[t],x=>[⟨t,x⟩]
 |t::u::ts,x=>⟨t,x.1⟩::Ty.fG (u::ts) x.2
theorem Ty.n5:∀(ts:List Ty) (x:Ty.DL ts),cg (Ty.fG ts x)=Ty.aw ts x
 |[],_=>rfl
 |[t],x=>rfl
 |t::u::ts,x=>by
  have:=Ty.n5 (u::ts) x.2
  simp only[cg] at this
  simp only[Ty.fG,Ty.aw,cg,List.map_cons,this]
end Go.Am
end
