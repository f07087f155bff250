/- Am3: the abstract machine's code and its evaluator. No condition. -/
import Derived.Test.YtifmggmhdcdgbaaAm2
set_option linter.unusedVariables false
namespace Go.Am
inductive MO where
 |t (n:Nat)
 |k (v:ak)
inductive aC where
 |mv (x:MO)
 |pick (c x y:MO)
 |alloc (zs:List ai)
 |box (sz:Nat) (x:MO)
 |build (zs:List ai) (parts:List (Nat×Nat×MO))
 |fg (sz:Nat) (parts:List MO)
 |load (ag:Bool) (sz:Nat) (x:MO)
 |mQ (ag:Bool) (sz:Nat) (x:MO)
 |store (sz:Nat) (x v:MO)
 |ga (x:MO)
 |bin (op:BinOp) (x y:MO)
 |nV (op:BinOp) (x y:MO)
 |un (op:UnOp) (x:MO)
 |conv (k:IntKind) (x:MO)
 |mb (m:Mode) (sz by_:Nat) (zs:List C) (l c:MO)
 |slice (sz:Nat) (x:MO) (lo hi:Option MO)
 |tail (sz:Nat) (x lo:MO)
 |aB (off:Nat) (x:MO)
 |dZ (sz:Nat) (x i:MO)
 |ext (i:Nat) (x:MO)
 |kj (ag:Bool) (off sz:Nat) (x:MO)
 |kE (f:FuncId) (bD:Bool) (x:MO)
 |len (x:MO)
 |append (fl:Bool) (sz by_:Nat) (x y:MO)
 |copy (sz:Nat) (x y:MO)
 |ki (z:C) (x:MO)
 |mm (mx:Bool) (x y:MO)
 |call (m:Mode) (f:FuncId) (xs:List MO)
 |lG (f:FuncId) (xs:List MO)
 |oA (f:FuncId) (xs:List MO)
 |lH (m:Mode) (x:MO) (xs:List MO)
 |fT (m:Mode) (f:FuncId) (xs:List MO)
 |dn (f:FuncId) (xs:List MO)
structure bN where
 dst:Option Nat
 op:aC
 guard:Option (Nat×Bool)
inductive kN where
 |skip
 |aj (qn:Bool) (ops:List bN)
 |nH (ps:List (Nat×Nat)) (ops:List bN)
 |seq (a b:kN)
 |cond (c:MO) (a b:kN)
 |block (id:Nat) (c:kN)
 |join (ke kh:List Nat) (cn:List (Bool×Nat×Nat×Nat×Mode)) (c:kN)
 |loop (id:Nat) (ke kh:List Nat) (cn:List (Bool×Nat×Nat×Nat×Mode)) (c:kN)
 |exit (id:Nat)
 |ret
inductive K where
 |one|agg|ptr
 deriving DecidableEq
abbrev Dv:=K×List C
abbrev bo:=List (List (Option Mode))
structure bg where
 pure:List (FuncId×(List Dv->Option (List Dv)))
 AP:List (FuncId×bo×(List Dv->Option (List Dv×List C)))
 vs:List (FuncId×(List Dv->Option (List Dv×List C)))
def bg.qt:List (FuncId×bo×(List Dv->Option (List Dv×List C)))->FuncId->Option (bo×(List Dv->Option (List Dv×List C)))
 |[],_=>none
 |(g,M)::l,f=>if f=g then some M else bg.qt l f
def bg.ni:List (FuncId×(List Dv->Option (List Dv×List C)))->FuncId->Option (List Dv->Option (List Dv×List C))
 |[],_=>none
 |(g,M)::l,f=>if f=g then some M else bg.ni l f
def bg.find:List (FuncId×(List Dv->Option (List Dv)))->FuncId->Option (List Dv->Option (List Dv))
 |[],_=>none
 |(g,M)::l,f=>if f=g then some M else bg.find l f
inductive uB where
 |ft (σ:St)
 |ext (id:Nat) (σ:St)
 |ret (σ:St)
def St.ev (σ:St):MO->ak
 |.t n=>σ.env n
 |.k v=>v
def St.put (σ:St) (d:Option Nat) (v:ak):St:=
 match d with
 |some n=>{σ with env:=au σ.env n v}
 |none=>σ
def St.ins (σ:St) (n:Nat) (b:aq):Option St:=
 if σ.used n=true then none else some {σ with h:=au σ.h n (some b),used:=au σ.used n true}
def St.dd (σ:St) (n:Nat) (b:aq):St:={σ with h:=au σ.h n (some b)}
def St.del (σ:St) (n:Nat):St:={σ with h:=au σ.h n none}
def ak.cells?:ak->Option (Bool×List ai)
 |.one .bf=>none
 |.one c=>some (false,[c])
 |.agg cs=>some (true,cs)
 |.bn _=>none
def kI:Bool->List ai->ak
 |true,cs=>.agg cs
 |false,[c]=>.one c
 |false,_=>.one .bf
def sub {α:Type} (l:List α) (off sz:Nat):Option (List α):=if off+sz<=l.length then some ((l.drop off).take sz) else none
def bW {α:Type} (l:List α) (off:Nat) (vs:List α):List α:=l.take off++vs++l.drop (off+vs.length)
def C.dT:C->Bool
 |.list ..=>false
 |_=>true
def eW (l:List C):Bool:=l.all C.dT
def fB (l:List (List C)):Bool:=l.all eW
def f9 (n k rs:Nat):Nat->List C->List ai
 |_,[]=>[]
 |off,.list sz ys::l=>.bx n k rs off sz ys.length::f9 n k rs (off+1) l
 |off,x::l=>.c x::f9 n k rs (off+1) l
def loadAt (h:Nat->Option aq) (p:ai) (sz:Nat):Option (List ai):=
 match p with
 |.ptr n k ax off=>
  match h n with
  |some (.box cs)=>if k=0 then sub cs off sz else none
  |some (.row _ m rs xs)=>
   if ax=rs then
    match xs[k]? with
    |some e=>match sub e off sz with
     |some l=>some (if m=.live then f9 n k rs off l else l.map .c)
     |none=>none
    |none=>none
   else none
  |none=>none
 |.cd xs off=>(sub xs off sz).map (·.map .c)
 |_=>none
def bU (h:Nat->Option aq):ai->Option C
 |.c x=>some x
 |.nil sz=>if 0<sz then some (.list sz []) else none
 |.sl n sz lo len=>
  match h n with
  |some (.row _ _ rs xs)=>if rs=sz/\lo+len<=xs.length then some (.list sz ((xs.drop lo).take len)) else none
  |_=>none
 |.bx n k ax off sz len=>
  match h n with
  |some (.row _ .live rs xs)=>if rs=ax then(xs[k]?).bind (·[off]?) else none
  |_=>none
 |_=>none
def gh (h:Nat->Option aq):List ai->Option (List C)
 |[]=>some []
 |c::cs=>match bU h c,gh h cs with
  |some x,some xs=>some (x::xs)
  |_,_=>none
def gQ (h:Nat->Option aq):ak->Option Dv
 |.one (.ptr n k sz off)=>
  match h n with
  |some (.box cs)=>if k=0/\off=0 then(gh h cs).map fun l=>(.ptr,l) else none
  |_=>none
 |.one (.cd xs off)=>if off=0 then some (.ptr,xs) else none
 |.one c=>(bU h c).map fun x=>(.one,[x])
 |.agg cs=>(gh h cs).map fun l=>(.agg,l)
 |.bn _=>none
def j9 (h:Nat->Option aq):List ak->Option (List Dv)
 |[]=>some []
 |c::cs=>match gQ h c,j9 h cs with
  |some x,some xs=>some (x::xs)
  |_,_=>none
def St.fC (σ:St):ai->Option (C×Bool×St)
 |.c x=>some (x,x.dT,σ)
 |.nil sz=>if 0<sz then some (.list sz [],true,σ) else none
 |.sl n sz lo len=>
  match σ.h n with
  |some (.row _ m rs xs)=>if rs=sz/\lo=0/\len<=xs.length then some (.list sz (xs.take len),decide (m≠ .aA),σ.del n) else none
  |_=>none
 |_=>none
def St.fc (σ:St):List ai->Option (List C×Bool×St)
 |[]=>some ([],true,σ)
 |c::cs=>match σ.fC c with
  |some (x,o,σ1)=>match σ1.fc cs with
   |some (xs,o',σ2)=>some (x::xs,o&&o',σ2)
   |none=>none
  |none=>none
def St.pf (σ:St):ai->Option St
 |.ptr n _ _ _=>match σ.h n with
  |some (.box cs)=>match σ.fc cs with
   |some (xs,_,σ1)=>some (σ1.dd n (.box (xs.map .c)))
   |none=>none
  |_=>none
 |_=>none
def St.kH (sz:Nat) (σ:St):List ak->Option (List (List C)×Bool×St)
 |[]=>some ([],true,σ)
 |v::vs=>match v.cells? with
  |some (_,cs)=>if cs.length=sz then
   match σ.fc cs with
   |some (e,o,σ1)=>match σ1.kH sz vs with
    |some (es,o',σ2)=>some (e::es,o&&o',σ2)
    |none=>none
   |none=>none
   else none
  |none=>none
def St.imp (m:Mode) (σ:St):Nat->List C->Option (List ai×Nat×St)
 |nm,[]=>some ([],nm,σ)
 |nm,.list sz xs::cs=>match σ.ins nm (.row true m sz xs) with
  |some σ1=>match σ1.imp m (nm+1) cs with
   |some (l,eQ,σ2)=>some (.sl nm sz 0 xs.length::l,eQ,σ2)
   |none=>none
  |none=>none
 |nm,x::cs=>match σ.imp m nm cs with
  |some (l,eQ,σ2)=>some (.c x::l,eQ,σ2)
  |none=>none
def St.iT (m:Mode) (σ:St):Nat->List Dv->Option (List (Bool×List ai)×St)
 |_,[]=>some ([],σ)
 |nm,(.ptr,_)::_=>none
 |nm,(k,cs)::ds=>match σ.imp m nm cs with
  |some (l,eQ,σ1)=>match σ1.iT m eQ ds with
   |some (ls,σ2)=>some ((decide (k=.agg),l)::ls,σ2)
   |none=>none
  |none=>none
def lC:List (Bool×List ai)->ak
 |[(ag,cs)]=>kI ag cs
 |l=>.bn l
def yj (d:Option Nat):Nat:=match d with|some n=>1000*(n+1)|none=>999
def gz:List Dv->Option (List (Bool×List ai))
 |[]=>some []
 |(.ptr,_)::_=>none
 |(k,cs)::ds=>match gz ds with
  |some ls=>some ((decide (k=.agg),cs.map .c)::ls)
  |none=>none
def s6 (T:bg) (f:FuncId) (as:List ak) (h:Nat->Option aq):Option ak:=
 match j9 h as with
 |some ds=>match bg.find T.pure f with
  |some M=>match M ds with
   |some rs=>match gz rs with
    |some ls=>some (lC ls)
    |none=>none
   |none=>none
  |none=>none
 |none=>none
def qm (T:bg) (m:Mode) (d:Option Nat) (f:FuncId) (as:List ak) (σ:St):Option St:=
 match j9 σ.h as with
 |some ds=>match bg.find T.pure f with
  |some M=>match M ds with
   |some rs=>match σ.iT m (yj d) rs with
    |some (ls,σ1)=>some (σ1.put d (lC ls))
    |none=>none
   |none=>none
  |none=>none
 |none=>none
def tN:ai->Option C
 |.c x=>some x
 |.nil sz=>if 0<sz then some (.list sz []) else none
 |_=>none
def lV:List ai->Option (List C)
 |[]=>some []
 |c::cs=>match tN c,lV cs with
  |some x,some xs=>some (x::xs)
  |_,_=>none
def mr (h:Nat->Option aq):ak->Option (Nat×List C)
 |.one (.ptr n k _ off)=>if k=0/\off=0 then match h n with
  |some (.box cs)=>match lV cs with
   |some xs=>some (n,xs)
   |none=>none
  |_=>none
  else none
 |_=>none
def St.gV (σ:St):List ak->Option (List Dv×List Nat×St)
 |[]=>some ([],[],σ)
 |v::vs=>match mr σ.h v with
  |some (n,xs)=>match σ.gV vs with
   |some (ds,ns,σ1)=>some ((.ptr,xs)::ds,n::ns,σ1)
   |none=>none
  |none=>match v.cells? with
   |some (ag,cs)=>match σ.fc cs with
    |some (xs,_,σ1)=>match σ1.gV vs with
     |some (ds,ns,σ2)=>some ((if ag=true then .agg else .one,xs)::ds,ns,σ2)
     |none=>none
    |none=>none
   |none=>none
def St.qU (σ:St):List Nat->List C->Option St
 |[],[]=>some σ
 |[n],out=>match σ.h n with
  |some (.box cs)=>if cs.length=out.length then some (σ.dd n (.box (out.map .c))) else none
  |_=>none
 |_,_=>none
def qi (σ:St) (d:Option Nat):List Dv->Option St
 |[(.ptr,cs)]=>match d with
  |some q=>match σ.ins q (.box (cs.map .c)) with
   |some σ1=>some (σ1.put d (.one (.ptr q 0 0 0)))
   |none=>none
  |none=>none
 |rs=>match gz rs with
  |some ls=>some (σ.put d (lC ls))
  |none=>none
def rG (T:bg) (d:Option Nat) (f:FuncId) (as:List ak) (σ:St):Option St:=
 match σ.gV as,bg.ni T.vs f with
 |some (ds,ns,σ1),some M=>match M ds with
  |some (rs,out)=>match σ1.qU ns out with
   |some σ2=>qi σ2 d rs
   |none=>none
  |none=>none
 |_,_=>none
def C.rE:C->Bool
 |.list _ xs=>fB xs
 |_=>true
def C.pB:C->Bool
 |.list ..=>true
 |_=>false
def rJ:Mode->List (List C)->Bool
 |.ae,xs=>fB xs
 |.live,xs=>xs.all fun e=>e.all C.rE
 |.aA,_=>false
inductive c6 where
 |nil (sz:Nat)
 |row (n:Nat)
 |nest (n k off:Nat)
def yh (h:Nat->Option aq) (md:Mode):ai->Option (c6×C)
 |.nil sz=>if 0<sz/\md≠ .aA then some (.nil sz,.list sz []) else none
 |.sl n sz lo len=>match h n with
  |some (.row _ m rs xs)=>if m≠ .aA/\(md=.live->m=.live)/\rs=sz/\lo=0/\len=xs.length/\rJ md xs=true then some (.row n,.list sz xs) else none
  |_=>none
 |.bx n k ax off sz len=>match h n with
  |some (.row _ .live rs xs)=>if rs=ax/\md=.ae then
   match(xs[k]?).bind (·[off]?) with
   |some (.list s ys)=>if fB ys=true then some (.nest n k off,.list s ys) else none
   |_=>none
   else none
  |_=>none
 |_=>none
def c6.dC:c6->Option Nat
 |.nil _=>none
 |.row n=>some n
 |.nest n _ _=>some n
def ai.dC:ai->Option Nat
 |.sl n _ _ _=>some n
 |.bx n _ _ _ _ _=>some n
 |_=>none
def sv:List (Option Mode)->List ai->List Nat
 |some _::fs,c::cs=>c.dC.toList++sv fs cs
 |none::fs,_::cs=>sv fs cs
 |_,_=>[]
def ma (h h0:Nat->Option aq):List (Option Mode)->List ai->Option (List C×List (c6×Mode))
 |[],cs=>match gh h0 cs with
  |some xs=>some (xs,[])
  |none=>none
 |none::fs,c::cs=>match bU h0 c,ma h h0 fs cs with
  |some x,some (xs,its)=>some (x::xs,its)
  |_,_=>none
 |some md::fs,c::cs=>match yh h md c,ma h h0 fs cs with
  |some (it,x),some (xs,its)=>some (x::xs,(it,md)::its)
  |_,_=>none
 |_::_,[]=>none
def nD:bo->List (Bool×List ai)->List Nat
 |s::sig,a::as=>sv s a.2++nD sig as
 |_,_=>[]
def bo.hd:bo->List (Option Mode)
 |[]=>[]
 |s::_=>s
def bo.tl:bo->bo
 |[]=>[]
 |_::sig=>sig
def oB (h h0:Nat->Option aq):bo->List (Bool×List ai)->Option (List Dv×List (c6×Mode))
 |_,[]=>some ([],[])
 |sig,(ag,cs)::as=>match ma h h0 (bo.hd sig) cs,oB h h0 (bo.tl sig) as with
  |some (xs,its),some (ds,tO)=>some ((if ag=true then(.agg,xs) else(.one,xs))::ds,its++tO)
  |_,_=>none
def vI:List ak->Option (List (Bool×List ai))
 |[]=>some []
 |v::vs=>match v.cells?,vI vs with
  |some x,some xs=>some (x::xs)
  |_,_=>none
def ez (h:Nat->Option aq) (ns:List Nat):Nat->Option aq:=fun n=>if ns.contains n=true then none else h n
def St.mT (σ:St):c6->C->Option St
 |.nil _,_=>some σ
 |.row n,.list sz xs=>match σ.h n with
  |some (.row gr m rs _)=>if rs=sz then some (σ.dd n (.row gr m rs xs)) else none
  |_=>none
 |.nest n k off,x=>match σ.h n with
  |some (.row gr m rs xs)=>match xs[k]? with
   |some e=>some (σ.dd n (.row gr m rs (xs.set k (e.set off x))))
   |none=>none
  |_=>none
 |_,_=>none
def St.oG (σ:St):List (c6×Mode)->List C->Option St
 |[],[]=>some σ
 |it::its,x::xs=>match σ.mT it.1 x with
  |some σ1=>σ1.oG its xs
  |none=>none
 |_,_=>none
def tc (T:bg) (m:Mode) (d:Option Nat) (f:FuncId) (as:List ak) (σ:St):Option St:=
 match bg.qt T.AP f,vI as with
 |some (sig,M),some fh=>
  if(nD sig fh).Nodup then
   match oB σ.h (ez σ.h (nD sig fh)) sig fh with
   |some (ds,its)=>match M ds with
    |some (rs,d7)=>match σ.oG its d7 with
     |some σ1=>match σ1.iT m (yj d) rs with
      |some (ls,σ2)=>some (σ2.put d (lC ls))
      |none=>none
     |none=>none
    |none=>none
   |none=>none
  else none
 |_,_=>none
def zf (op:BinOp) (k:IntKind) (a b:Int):Option C:=
 match op with
 |.add=>some (.int k (k.wrap (a+b)))
 |.sub=>some (.int k (k.wrap (a - b)))
 |.mul=>some (.int k (k.wrap (a*b)))
 |.quo=>if b=0 then none else some (.int k (k.wrap (a.tdiv b)))
 |.rem=>if b=0 then none else some (.int k (a.tmod b))
 |.and=>some (.int k (bits .and k a b))
 |.or=>some (.int k (bits .or k a b))
 |.xor=>some (.int k (bits .xor k a b))
 |.eql=>some (.bool (a==b))
 |.neq=>some (.bool (a !=b))
 |.lss=>some (.bool (decide (a<b)))
 |.leq=>some (.bool (decide (a<=b)))
 |.gtr=>some (.bool (decide (b<a)))
 |.geq=>some (.bool (decide (b<=a)))
 |_=>none
def DW (op:BinOp) (k:IntKind) (a b:Int):Option C:=
 if b<0 then none else
 match op with
 |.shl=>some (.int k (k.wrap (a*2^(min b.toNat k.bits))))
 |.shr=>some (.int k (a/(2^(min b.toNat k.bits))))
 |_=>none
def BinOp.xV:BinOp->Bool
 |.shl|.shr=>true
 |_=>false
def uK (op:BinOp):ak->ak->Option C
 |.one (.c (.int k a)),.one (.c (.int k' b))=>if BinOp.xV op=true then DW op k a b else if k=k' then zf op k a b else none
 |_,_=>none
def ze (op:BinOp):ak->ak->Option C
 |.one (.c (.bool a)),.one (.c (.bool b))=>match op with
  |.eql=>some (.bool (a==b))
  |.neq=>some (.bool (a !=b))
  |_=>none
 |_,_=>none
def Bz (op:UnOp):ak->Option C
 |.one (.c (.bool a))=>match op with
  |.not=>some (.bool (!a))
  |_=>none
 |.one (.c (.int k a))=>match op with
  |.neg=>some (.int k (k.wrap (0 - a)))
  |_=>none
 |_=>none
def ak.cX:ak->Option Int
 |.one (.c (.int _ n))=>some n
 |_=>none
def eK:Nat:=140737488355328
def oL (ev:MO->ak):List ai->List (Nat×Nat×MO)->Option (List ai)
 |zs,[]=>some zs
 |zs,(off,sz,x)::ps=>match(ev x).cells? with
  |some (_,cs)=>if cs.length=sz/\off+sz<=zs.length then oL ev (bW zs off cs) ps else none
  |none=>none
def mn (σ:St) (n:Nat) (gr:Bool) (m:Mode) (rs:Nat) (xs:List (List C)) (k off:Nat) (e:List C) (vs:List ai):Option St:=
 match sub e off vs.length with
 |none=>none
 |some eR=>match σ.fc vs with
  |none=>none
  |some (cs,o,σ1)=>
   if m=.live then
    if eW cs=true/\eW eR=true/\(σ1.h n).isSome=true then some (σ1.dd n (.row gr m rs (xs.set k (bW e off cs)))) else none
   else if(σ1.h n).isSome=true then
    some (σ1.dd n (.row gr (if o=true then m else .aA) rs (xs.set k (bW e off cs))))
   else none
def kT:List ai->Option (List C)
 |[]=>some []
 |.c x::l=>if x.dT=true then(kT l).map (x::·) else none
 |_::_=>none
def ua (xs:List (List C)) (k off s i:Nat) (vs:List ai):Option (List (List C)):=
 match(xs[k]?).bind (·[off]?) with
 |some (.list s' ys)=>if s'=s/\vs.length=s/\i<ys.length/\fB ys=true then(kT vs).map fun cs=>xs.set k ((xs.getD k []).set off (.list s' (ys.set i cs))) else none
 |_=>none
def oU (σ:St) (sz:Nat):ak->Option (List (List C)×Mode×St)
 |.one (.nil _)=>some ([],.ae,σ)
 |.one (.sl a s 0 len)=>match σ.h a with
  |some (.row true m rs xs)=>if rs=sz/\s=sz/\len=xs.length then some (xs,m,σ.del a) else none
  |_=>none
 |_=>none
def kQ (fl:Bool) (σ1:St) (sz:Nat) (m:Mode):ak->Option (List (List C)×Mode×St)
  |.one (.nil _)=>some ([],m,σ1)
  |.one (.c (.list s ys))=>if s=sz then(if(fl&&fB ys)=true then some (ys,m,σ1) else if m=.live then none else some (ys,.aA,σ1)) else none
  |.one (.sl b s lo len)=>match σ1.h b with
   |some (.row _ m' rs ys)=>if rs=sz/\s=sz/\lo+len<=ys.length then
       (if(fl&&fB ((ys.drop lo).take len))=true then some ((ys.drop lo).take len,m,σ1)
        else if lo=0/\len=ys.length then(if m=m' then some (ys,m,σ1.del b) else if m=.live\/m'=.live then none else some (ys,.aA,σ1.del b)) else none)
    else none
   |_=>none
  |_=>none
def ai.DC:ai->Bool
 |.bf=>false
 |_=>true
def kD (bD:Bool) (n:Int) (c:ai):List ai:=if bD=true then[.c (.int .i64 n),.c (.int .i64 1),c] else[.c (.int .i64 1),.c (.int .i64 n),c]
def aE (T:bg) (d:Option Nat) (op:aC) (σ:St):Option St:=
 match op with
 |.mv x=>some (σ.put d (σ.ev x))
 |.pick c x y=>match σ.ev c with
  |.one (.c (.bool b))=>if b=true then some (σ.put d (σ.ev x)) else some (σ.put d (σ.ev y))
  |_=>none
 |.alloc zs=>match d with
  |some n=>match σ.ins n (.box zs) with
   |some σ1=>some (σ1.put d (.one (.ptr n 0 0 0)))
   |none=>none
  |none=>none
 |.box sz x=>match d,(σ.ev x).cells? with
  |some n,some (_,cs)=>if cs.length=sz then
   match σ.ins n (.box cs) with
   |some σ1=>some (σ1.put d (.one (.ptr n 0 0 0)))
   |none=>none
   else none
  |_,_=>none
 |.build zs parts=>match oL σ.ev zs parts with
  |some cs=>some (σ.put d (.agg cs))
  |none=>none
 |.fg sz parts=>match d,σ.kH sz (parts.map σ.ev) with
  |some n,some (es,o,σ1)=>match σ1.ins n (.row true (if o=true then .ae else .aA) sz es) with
   |some σ2=>some (σ2.put d (.one (.sl n sz 0 es.length)))
   |none=>none
  |_,_=>none
 |.load ag sz x=>match σ.ev x with
  |.one p=>match loadAt σ.h p sz with
   |some cs=>some (σ.put d (kI ag cs))
   |none=>none
  |_=>none
 |.mQ ag sz x=>match σ.ev x with
  |.one p=>match σ.pf p with
   |some σ1=>match loadAt σ1.h p sz with
    |some cs=>some (σ1.put d (kI ag cs))
    |none=>none
   |none=>none
  |_=>none
 |.store sz x v=>match σ.ev x,(σ.ev v).cells? with
  |.one (.ptr n k ax off),some (_,vs)=>if vs.length=sz then
   match σ.h n with
   |some (.box cs)=>if k=0/\off+sz<=cs.length then some (σ.dd n (.box (bW cs off vs))) else none
   |some (.row gr m rs xs)=>if ax=rs then
    match xs[k]? with
    |some e=>mn σ n gr m rs xs k off e vs
    |none=>none
    else none
   |none=>none
   else none
  |.one (.cD n k ax off s i),some (_,vs)=>if vs.length=sz then
   match σ.h n with
   |some (.row gr .live rs xs)=>if ax=rs then
    match ua xs k off s i vs with
    |some ar=>some (σ.dd n (.row gr .live rs ar))
    |none=>none
    else none
   |_=>none
   else none
  |_,_=>none
 |.ga x=>match σ.ev x with
  |.one (.ptr n k sz off)=>if(σ.h n).isSome=true then some (σ.put d (.one (.ptr n k sz off))) else none
  |.one (.cd xs off)=>some (σ.put d (.one (.cd xs off)))
  |_=>none
 |.bin op x y=>match uK op (σ.ev x) (σ.ev y) with
  |some c=>some (σ.put d (.one (.c c)))
  |none=>none
 |.nV op x y=>match ze op (σ.ev x) (σ.ev y) with
  |some c=>some (σ.put d (.one (.c c)))
  |none=>none
 |.un op x=>match Bz op (σ.ev x) with
  |some c=>some (σ.put d (.one (.c c)))
  |none=>none
 |.conv k x=>match σ.ev x with
  |.one (.c (.int _ n))=>some (σ.put d (.one (.c (.int k (k.wrap n)))))
  |_=>none
 |.mb m sz by_ zs l c=>match d,(σ.ev l).cX,(σ.ev c).cX with
  |some n,some a,some b=>if a<=b/\0<=a/\b.toNat*by_<=eK/\zs.length=sz then
   match σ.ins n (.row true m sz (List.replicate a.toNat zs)) with
   |some σ1=>some (σ1.put d (.one (.sl n sz 0 a.toNat)))
   |none=>none
   else none
  |_,_,_=>none
 |.slice sz x lo hi=>
  let Oj:Option Int:=match lo with|none=>some 0|some l=>(σ.ev l).cX
  match σ.ev x,Oj with
  |.one (.sl n s l0 len),some l=>
   match(match hi with|none=>some (len:Int)|some h=>(σ.ev h).cX) with
   |some h=>if s=sz/\0<=l/\l<=h/\h<=len/\(σ.h n).isSome=true then some (σ.put d (.one (.sl n s (l0+l.toNat) (h - l).toNat))) else none
   |none=>none
  |.one (.c (.list s xs)),some l=>
   match(match hi with|none=>some (xs.length:Int)|some h=>(σ.ev h).cX) with
   |some h=>if s=sz/\0<=l/\l<=h/\h<=xs.length then some (σ.put d (.one (.c (.list s ((xs.drop l.toNat).take (h - l).toNat))))) else none
   |none=>none
  |_,_=>none
 |.tail sz x lo=>match d,σ.ev x,(σ.ev lo).cX with
  |some n,.one (.sl a s 0 len),some l=>match σ.h a with
   |some (.row true m rs xs)=>if rs=sz/\s=sz/\len=xs.length/\0<=l/\l<=len then
    match(σ.del a).ins n (.row true m sz (xs.drop l.toNat)) with
    |some σ1=>some (σ1.put d (.one (.sl n sz 0 (xs.length - l.toNat))))
    |none=>none
    else none
   |_=>none
  |_,_,_=>none
 |.aB off x=>match σ.ev x with
  |.one (.ptr n k sz o)=>if(σ.h n).isSome=true then some (σ.put d (.one (.ptr n k sz (o+off)))) else none
  |.one (.cd xs o)=>some (σ.put d (.one (.cd xs (o+off))))
  |_=>none
 |.dZ sz x i=>match σ.ev x,(σ.ev i).cX with
  |.one (.sl n s lo len),some k=>if s=sz/\0<=k/\k<len/\(σ.h n).isSome=true then some (σ.put d (.one (.ptr n (lo+k.toNat) s 0))) else none
  |.one (.c (.list s xs)),some k=>if s=sz/\0<=k then
   match xs[k.toNat]? with
   |some e=>some (σ.put d (.one (.cd e 0)))
   |none=>none
   else none
  |.one (.bx n kk ax off s len),some k=>match bU σ.h (.bx n kk ax off s len) with
   |some (.list s' ys)=>if s'=sz/\0<=k/\k<ys.length then some (σ.put d (.one (.cD n kk ax off sz k.toNat))) else none
   |_=>none
  |_,_=>none
 |.ext i x=>match σ.ev x with
  |.bn xs=>match xs[i]? with
   |some (ag,cs)=>some (σ.put d (kI ag cs))
   |none=>none
  |_=>none
 |.kj ag off sz x=>match σ.ev x with
  |.agg cs=>match sub cs off sz with
   |some l=>some (σ.put d (kI ag l))
   |none=>none
  |_=>none
 |.kE f bD x=>match σ.ev x with
  |.one (.sl n sz lo len)=>if(σ.h n).isSome=true then some (σ.put d (.agg (kD bD len (.sl n sz lo len)))) else none
  |.one (.c (.list sz xs))=>some (σ.put d (.agg (kD bD xs.length (.c (.list sz xs)))))
  |.one (.nil sz)=>some (σ.put d (.agg (kD bD 0 (.nil sz))))
  |_=>none
 |.len x=>match σ.ev x with
  |.one (.sl n sz lo len)=>if(σ.h n).isSome=true then some (σ.put d (.one (.c (.int .i64 len)))) else none
  |.one (.c (.list sz xs))=>some (σ.put d (.one (.c (.int .i64 xs.length))))
  |.one (.nil sz)=>some (σ.put d (.one (.c (.int .i64 0))))
  |.one (.bx n k ax off sz len)=>match bU σ.h (.bx n k ax off sz len) with
   |some (.list s ys)=>some (σ.put d (.one (.c (.int .i64 ys.length))))
   |_=>none
  |_=>none
 |.append fl sz by_ x y=>match d with
  |none=>none
  |some n=>match oU σ sz (σ.ev x) with
   |none=>none
   |some (xs,m,σ1)=>match kQ fl σ1 sz m (σ.ev y) with
    |none=>none
    |some (ys,m2,σ2)=>
     if(xs.length+ys.length)*by_<=eK then
      match σ2.ins n (.row true m2 sz (xs++ys)) with
      |some gj=>some (gj.put d (.one (.sl n sz 0 (xs.length+ys.length))))
      |none=>none
     else none
 |.copy sz x y=>match σ.ev x,σ.ev y with
  |.one (.sl n s lo len),.one c=>match σ.h n,bU σ.h c with
   |some (.row gr m rs xs),some (.list s' ys)=>if sz=1/\s=1/\rs=1/\s'=1/\m≠ .aA/\fB xs=true/\fB ys=true/\lo+len<=xs.length then
    some ((σ.dd n (.row gr m 1 (bW xs lo (ys.take len)))).put d (.one (.c (.int .i64 (Nat.min ys.length len:Nat))))) else none
   |_,_=>none
  |_,_=>none
 |.ki z x=>match σ.ev x with
  |.one (.sl n s lo len)=>match σ.h n with
   |some (.row gr m rs xs)=>if s=1/\rs=1/\z.dT=true/\m≠ .aA/\fB xs=true/\lo+len<=xs.length then
    some ((σ.dd n (.row gr m 1 (bW xs lo (List.replicate len [z])))).put d (.bn [])) else none
   |_=>none
  |_=>none
 |.mm mx x y=>match σ.ev x,σ.ev y with
  |.one (.c (.int k a)),.one (.c (.int k' b))=>if mx=true then(if a<b then some (σ.put d (.one (.c (.int k b)))) else some (σ.put d (.one (.c (.int k a)))))
   else(if b<a then some (σ.put d (.one (.c (.int k b)))) else some (σ.put d (.one (.c (.int k a)))))
  |_,_=>none
 |.call m f xs=>qm T m d f (xs.map σ.ev) σ
 |.lG f xs=>match s6 T f (xs.map σ.ev) σ.h with
  |some v=>some (σ.put d v)
  |none=>none
 |.oA f xs=>match(xs.map σ.ev).mapM (fun v=>match v with|.one c=>if c.kx=true then none else some c|_=>none) with
  |some cs=>if cs.all ai.DC=true then some (σ.put d (.one (.fn f cs))) else none
  |none=>none
 |.lH m x xs=>match σ.ev x with
  |.one (.fn f bY)=>qm T m d f (xs.map σ.ev++bY.map .one) σ
  |_=>none
 |.fT m f xs=>tc T m d f (xs.map σ.ev) σ
 |.dn f xs=>rG T d f (xs.map σ.ev) σ
def eg (T:bg) (o:bN) (σ:St):Option St:=
 match o.guard with
 |none=>aE T o.dst o.op σ
 |some (s,ka)=>match σ.env s with
  |.one (.c (.bool b))=>if b=ka then aE T o.dst o.op σ else some (σ.put o.dst (.bn []))
  |.bn []=>some (σ.put o.dst (.bn []))
  |_=>none
def ng (T:bg):List bN->St->Option St
 |[],σ=>some σ
 |o::os,σ=>match eg T o σ with
  |some σ'=>ng T os σ'
  |none=>none
def ai.eS (ok:Nat->Bool):ai->ai
 |.ptr n k sz off=>if ok n=true then .ptr n k sz off else .bf
 |.sl n sz lo len=>if ok n=true then .sl n sz lo len else .bf
 |.bx n k ax off sz len=>if ok n=true then .bx n k ax off sz len else .bf
 |.cD n k ax off sz i=>if ok n=true then .cD n k ax off sz i else .bf
 |x=>x
def ai.cH (ok:Nat->Bool):ai->ai
 |.fn f bY=>.fn f (bY.map (·.eS ok))
 |x=>x.eS ok
def ak.cH (ok:Nat->Bool):ak->ak
 |.one c=>.one (c.cH ok)
 |.agg cs=>.agg (cs.map (·.cH ok))
 |.bn xs=>.bn (xs.map fun x=>(x.1,x.2.map (·.cH ok)))
def aq.cH (ok:Nat->Bool):aq->aq
 |.box cs=>.box (cs.map (·.cH ok))
 |b=>b
def uP:Nat->ak:=fun _=>.one .bf
def zw:Nat->Option aq:=fun _=>none
def Ub:Nat->Bool:=fun _=>false
def tZ (ok:Nat->Bool) (env:Nat->ak):List Nat->(Nat->ak)
 |[]=>uP
 |s::ss=>au (tZ ok env ss) s ((env s).cH ok)
def pO (ok:Nat->Bool) (h:Nat->Option aq):List Nat->(Nat->Option aq)
 |[]=>zw
 |s::ss=>if ok s=true then match h s with
  |some b=>au (pO ok h ss) s (some (b.cH ok))
  |none=>pO ok h ss
  else pO ok h ss
def t7 (ok:Nat->Bool):List Nat->(Nat->Bool)
 |[]=>Ub
 |s::ss=>if ok s=true then au (t7 ok ss) s true else t7 ok ss
def ai.vV (n:Nat):ai->Bool
 |.ptr m _ _ _=>m==n
 |.sl m _ _ _=>m==n
 |.bx m _ _ _ _ _=>m==n
 |.cD m _ _ _ _ _=>m==n
 |_=>false
def ai.gb (n:Nat):ai->Bool
 |.fn _ bY=>bY.any (·.vV n)
 |x=>x.vV n
def ak.gb (n:Nat):ak->Bool
 |.one c=>c.gb n
 |.agg cs=>cs.any (·.gb n)
 |.bn xs=>xs.any fun x=>x.2.any (·.gb n)
def St.ir (σ:St) (ke kh:List Nat):Nat->Bool:=fun n=>kh.contains n&&(σ.h n).isSome&&
 (Nat.ble aF n||ke.any (fun s=>(σ.env s).gb n)||kh.any fun k=>match σ.h k with|some (.box cs)=>cs.any (·.gb n)|_=>false)
def St.gP (σ:St) (ke kh:List Nat):St:=
 {env:=tZ (σ.ir ke kh) σ.env ke,h:=pO (σ.ir ke kh) σ.h kh,used:=fun n=>Nat.ble aF n||t7 (σ.ir ke kh) kh n}
def mU (x c n:Nat):Nat:=if n=x then c else n
def ai.nI (x c:Nat):ai->ai
 |.ptr n k sz off=>.ptr (mU x c n) k sz off
 |.sl n sz lo len=>.sl (mU x c n) sz lo len
 |.bx n k ax off sz len=>.bx (mU x c n) k ax off sz len
 |.cD n k ax off sz i=>.cD (mU x c n) k ax off sz i
 |y=>y
def ai.aU (x c:Nat):ai->ai
 |.fn f bY=>.fn f (bY.map (·.nI x c))
 |y=>y.nI x c
def ak.aU (x c:Nat):ak->ak
 |.one y=>.one (y.aU x c)
 |.agg ys=>.agg (ys.map (·.aU x c))
 |.bn ys=>.bn (ys.map fun y=>(y.1,y.2.map (·.aU x c)))
def aq.aU (x c:Nat):aq->aq
 |.box cs=>.box (cs.map (·.aU x c))
 |b=>b
def St.aU (σ:St) (x c:Nat):Option St:=
 if x=c then some σ else if Nat.ble aF x=true then some σ else if σ.used c=true then none else
 some {env:=fun s=>(σ.env s).aU x c,h:=fun n=>if n=c then(σ.h x).map (·.aU x c) else if n=x then none else(σ.h n).map (·.aU x c),used:=fun n=>if n=c then σ.used x else if n=x then false else σ.used n}
def St.jd (σ:St) (c:Nat):Mode->St
 |.aA=>match σ.h c with
  |some (.row gr .ae rs xs)=>σ.dd c (.row gr .aA rs xs)
  |_=>σ
 |_=>σ
def St.canon (σ:St):Bool×Nat×Nat×Nat×Mode->Option St
 |(true,n,j,c,m)=>match σ.h n with
  |some (.box cs)=>match cs[j]? with
   |some (.sl a _ _ _)=>(σ.aU a c).map fun σ1=>σ1.jd c m
   |some (.nil sz)=>if 0<sz then match σ.ins c (.row true m sz []) with
    |some σ1=>some (σ1.dd n (.box (cs.set j (.sl c sz 0 0))))
    |none=>none
    else some σ
   |_=>some σ
  |_=>some σ
 |(false,n,j,c,m)=>match σ.env n with
  |.one (.sl a _ _ _)=>(σ.aU a c).map fun σ1=>σ1.jd c m
  |.one (.nil sz)=>if 0<sz then match σ.ins c (.row true m sz []) with
   |some σ1=>some (σ1.put (some n) (.one (.sl c sz 0 0)))
   |none=>none
   else some σ
  |_=>some σ
def St.rA (σ:St):List (Bool×Nat×Nat×Nat×Mode)->Option St
 |[]=>some σ
 |x::l=>match σ.canon x with
  |some σ1=>σ1.rA l
  |none=>none
def St.head (σ:St) (ke kh:List Nat) (cn:List (Bool×Nat×Nat×Nat×Mode)):Option St:=
 match((σ.gP ke kh).gP ke kh).rA cn with
 |some σ1=>some (σ1.gP ke kh)
 |none=>none
def aC.args:aC->List MO
 |.mv x|.box _ x|.load _ _ x|.mQ _ _ x|.ga x|.un _ x|.conv _ x|.aB _ x|.ext _ x|.kj _ _ _ x|.kE _ _ x|.len x|.ki _ x=>[x]
 |.pick c x y=>[c,x,y]
 |.alloc _=>[]
 |.build _ ps=>ps.map (·.2.2)
 |.fg _ ps=>ps
 |.store _ x v=>[x,v]
 |.bin _ x y|.nV _ x y|.mm _ x y|.append _ _ _ x y|.copy _ x y|.dZ _ x y|.tail _ x y=>[x,y]
 |.mb _ _ _ _ l c=>[l,c]
 |.slice _ x lo hi=>x::(lo.toList++hi.toList)
 |.call _ _ xs|.oA _ xs|.fT _ _ xs|.lG _ xs|.dn _ xs=>xs
 |.lH _ x xs=>x::xs
def aC.Dh:aC->Bool
 |.call ..|.lH ..|.lG ..=>true
 |_=>false
def ai.qT:ai->List Nat
 |.ptr n _ _ _=>[n]
 |.sl n _ _ _=>[n]
 |.bx n _ _ _ _ _=>[n]
 |.cD n _ _ _ _ _=>[n]
 |_=>[]
def ai.nm:ai->List Nat
 |.fn _ bY=>bY.flatMap ai.qT
 |x=>x.qT
def ak.fQ:ak->List Nat
 |.one c=>c.nm
 |.agg cs=>cs.flatMap ai.nm
 |.bn xs=>xs.flatMap fun x=>x.2.flatMap ai.nm
def zh (h:Nat->Option aq) (l:List Nat):List Nat:=l.flatMap fun n=>match h n with
 |some (.box cs)=>cs.flatMap ai.nm
 |_=>[]
def aC.iq (op:aC) (ev:MO->ak):List Nat:=op.args.flatMap fun x=>(ev x).fQ
def aC.lB (op:aC) (ev:MO->ak) (h:Nat->Option aq):List Nat:=cond op.Dh (op.iq ev++zh h (op.iq ev)) (op.iq ev)
def aC.jF (op:aC) (ev:MO->ak) (h:Nat->Option aq):Option (List Nat):=
 match op with
 |.store _ x v=>match ev x with
  |.one (.ptr n _ _ _)=>match h n with
   |some (.box _)=>some [n]
   |some (.row ..)=>some (n::(ev v).fQ)
   |none=>none
  |.one (.cD n _ _ _ _ _)=>some [n]
  |_=>none
 |.fg _ ps=>some (ps.flatMap fun p=>(ev p).fQ)
 |.dn _ xs=>some (xs.flatMap fun p=>(ev p).fQ)
 |.append _ _ _ x y=>some ((ev x).fQ++(ev y).fQ)
 |.copy _ x _|.ki _ x=>match ev x with
  |.one (.sl n _ _ _)=>some [n]
  |_=>none
 |.fT ..|.tail ..|.mQ ..=>none
 |_=>some []
abbrev FP:=List Nat×List Nat
def aC.fp (op:aC) (σ:St):Option FP:=(op.jF σ.ev σ.h).map fun w=>(op.lB σ.ev σ.h,w)
def Ca (f g:FP):Bool:=f.2.all (fun n=> !(g.1.contains n))&&g.2.all (fun n=> !(f.1.contains n))
def Cb:Option FP->Option FP->Bool
 |some f,some g=>Ca f g
 |_,_=>false
def lJ (o:bN) (e:Nat->ak):Option aC:=
 match o.guard with
 |none=>some o.op
 |some (s,ka)=>match e s with
  |.one (.c (.bool b))=>if b=ka then some o.op else some (.mv (.k (.bn [])))
  |.bn []=>some (.mv (.k (.bn [])))
  |_=>none
def bN.fp (o:bN) (σ:St):Option FP:=
 match lJ o σ.env with
 |some op=>op.fp σ
 |none=>none
def vR (ps:List (Nat×Nat)) (fs:List (Option FP)):Bool:=ps.all fun p=>Cb (fs.getD p.1 none) (fs.getD p.2 none)
def qq (T:bg):List bN->List (Option FP)->St->Option (List (Option FP)×St)
 |[],cK,σ=>some (cK,σ)
 |o::os,cK,σ=>match eg T o σ with
  |some σ1=>qq T os (cK++[o.fp σ]) σ1
  |none=>none
def aN:Nat:=2^64
def AK:Nat->(St->Option uB)->St->Option uB
 |0,_,_=>none
 |n+1,f,σ=>match f σ with
  |some (.ft σ')=>AK n f σ'
  |o=>o
def dF (T:bg):kN->St->Option uB
 |.skip,σ=>some (.ft σ)
 |.aj _ ops,σ=>match ng T ops σ with
  |some σ'=>some (.ft σ')
  |none=>none
 |.nH ps ops,σ=>match qq T ops [] σ with
  |some (fs,σ')=>cond (vR ps fs) (some (.ft σ')) none
  |none=>none
 |.seq a b,σ=>match dF T a σ with
  |some (.ft σ')=>dF T b σ'
  |o=>o
 |.cond c a b,σ=>match σ.ev c with
  |.one (.c (.bool t))=>if t=true then dF T a σ else dF T b σ
  |_=>none
 |.block id c,σ=>match dF T c σ with
  |some (.ext i σ')=>if i=id then some (.ft σ') else some (.ext i σ')
  |o=>o
 |.join ke kh cn c,σ=>match dF T c σ with
  |some (.ft σ')=>match σ'.head ke kh cn with
   |some σ1=>some (.ft σ1)
   |none=>none
  |o=>o
 |.loop id ke kh cn c,σ=>AK aN (fun σ=>match σ.head ke kh cn with|some σ1=>dF T c σ1|none=>none) σ
 |.exit id,σ=>some (.ext id σ)
 |.ret,σ=>some (.ret σ)
end Go.Am
