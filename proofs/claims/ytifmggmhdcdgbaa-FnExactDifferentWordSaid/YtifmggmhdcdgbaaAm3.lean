/- Am3: the abstract machine's code and its evaluator. No condition. -/
import Derived.Test.YtifmggmhdcdgbaaAm2
set_option linter.unusedVariables false
namespace Go.Am
inductive MO where
 |t (n:Nat)
 |k (v:ai)
inductive aC where
 |mv (x:MO)
 |pick (c x y:MO)
 |alloc (zs:List ah)
 |box (sz:Nat) (x:MO)
 |build (zs:List ah) (parts:List (Nat×Nat×MO))
 |dT (sz:Nat) (parts:List MO)
 |load (ag:Bool) (sz:Nat) (x:MO)
 |lV (ag:Bool) (sz:Nat) (x:MO)
 |store (sz:Nat) (x v:MO)
 |nM (x:MO)
 |bin (op:BinOp) (x y:MO)
 |lz (op:BinOp) (x y:MO)
 |un (op:UnOp) (x:MO)
 |conv (k:IntKind) (x:MO)
 |ld (m:Mode) (sz by_:Nat) (zs:List C) (l c:MO)
 |slice (sz:Nat) (x:MO) (lo hi:Option MO)
 |tail (sz:Nat) (x lo:MO)
 |ak (off:Nat) (x:MO)
 |bO (sz:Nat) (x i:MO)
 |ext (i:Nat) (x:MO)
 |mA (ag:Bool) (off sz:Nat) (x:MO)
 |lr (f:FuncId) (bE:Bool) (x:MO)
 |len (x:MO)
 |append (fl:Bool) (sz by_:Nat) (x y:MO)
 |copy (sz:Nat) (x y:MO)
 |j7 (z:C) (x:MO)
 |mm (mx:Bool) (x y:MO)
 |call (m:Mode) (f:FuncId) (xs:List MO)
 |lA (f:FuncId) (xs:List MO)
 |oN (f:FuncId) (xs:List MO)
 |lB (m:Mode) (x:MO) (xs:List MO)
 |eQ (m:Mode) (f:FuncId) (xs:List MO)
 |iJ (f:FuncId) (xs:List MO)
structure bH where
 dst:Option Nat
 op:aC
 guard:Option (Nat×Bool)
inductive kI where
 |skip
 |ae (qy:Bool) (ops:List bH)
 |pZ (ps:List (Nat×Nat)) (ops:List bH)
 |seq (a b:kI)
 |cond (c:MO) (a b:kI)
 |block (id:Nat) (c:kI)
 |join (ke kh:List Nat) (cn:List (Bool×Nat×Nat×Nat×Mode)) (c:kI)
 |loop (id:Nat) (ke kh:List Nat) (cn:List (Bool×Nat×Nat×Nat×Mode)) (c:kI)
 |exit (id:Nat)
 |ret
inductive K where
 |one|agg|ptr
 deriving DecidableEq
abbrev Dv:=K×List C
abbrev aY:=List (List (Option Mode))
structure be where
 pure:List (FuncId×(List Dv->Option (List Dv)))
 Bi:List (FuncId×aY×(List Dv->Option (List Dv×List C)))
 vs:List (FuncId×(List Dv->Option (List Dv×List C)))
def be.qA:List (FuncId×aY×(List Dv->Option (List Dv×List C)))->FuncId->Option (aY×(List Dv->Option (List Dv×List C)))
 |[],_=>none
 |(g,M)::l,f=>if f=g then some M else be.qA l f
def be.nk:List (FuncId×(List Dv->Option (List Dv×List C)))->FuncId->Option (List Dv->Option (List Dv×List C))
 |[],_=>none
 |(g,M)::l,f=>if f=g then some M else be.nk l f
def be.find:List (FuncId×(List Dv->Option (List Dv)))->FuncId->Option (List Dv->Option (List Dv))
 |[],_=>none
 |(g,M)::l,f=>if f=g then some M else be.find l f
inductive u6 where
 |fe (σ:St)
 |ext (id:Nat) (σ:St)
 |ret (σ:St)
def St.ev (σ:St):MO->ai
 |.t n=>σ.env n
 |.k v=>v
def St.put (σ:St) (d:Option Nat) (v:ai):St:=
 match d with
 |some n=>{σ with env:=av σ.env n v}
 |none=>σ
def St.ins (σ:St) (n:Nat) (b:ar):Option St:=
 if σ.used n=true then none else some {σ with h:=av σ.h n (some b),used:=av σ.used n true}
def St.cX (σ:St) (n:Nat) (b:ar):St:={σ with h:=av σ.h n (some b)}
def St.del (σ:St) (n:Nat):St:={σ with h:=av σ.h n none}
def ai.cells?:ai->Option (Bool×List ah)
 |.one .bg=>none
 |.one c=>some (false,[c])
 |.agg cs=>some (true,cs)
 |.bj _=>none
def kC:Bool->List ah->ai
 |true,cs=>.agg cs
 |false,[c]=>.one c
 |false,_=>.one .bg
def sub {α:Type} (l:List α) (off sz:Nat):Option (List α):=if off+sz<=l.length then some ((l.drop off).take sz) else none
def bP {α:Type} (l:List α) (off:Nat) (vs:List α):List α:=l.take off++vs++l.drop (off+vs.length)
def C.dR:C->Bool
 |.list ..=>false
 |_=>true
def eO (l:List C):Bool:=l.all C.dR
def ft (l:List (List C)):Bool:=l.all eO
def fZ (n k rs:Nat):Nat->List C->List ah
 |_,[]=>[]
 |off,.list sz ys::l=>.br n k rs off sz ys.length::fZ n k rs (off+1) l
 |off,x::l=>.c x::fZ n k rs (off+1) l
def loadAt (h:Nat->Option ar) (p:ah) (sz:Nat):Option (List ah):=
 match p with
 |.ptr n k ax off=>
  match h n with
  |some (.box cs)=>if k=0 then sub cs off sz else none
  |some (.row _ m rs xs)=>
   if ax=rs then
    match xs[k]? with
    |some e=>match sub e off sz with
     |some l=>some (if m=.live then fZ n k rs off l else l.map .c)
     |none=>none
    |none=>none
   else none
  |none=>none
 |.bT xs off=>(sub xs off sz).map (·.map .c)
 |_=>none
def bM (h:Nat->Option ar):ah->Option C
 |.c x=>some x
 |.nil sz=>if 0<sz then some (.list sz []) else none
 |.sl n sz lo len=>
  match h n with
  |some (.row _ _ rs xs)=>if rs=sz/\lo+len<=xs.length then some (.list sz ((xs.drop lo).take len)) else none
  |_=>none
 |.br n k ax off sz len=>
  match h n with
  |some (.row _ .live rs xs)=>if rs=ax then(xs[k]?).bind (·[off]?) else none
  |_=>none
 |_=>none
def f7 (h:Nat->Option ar):List ah->Option (List C)
 |[]=>some []
 |c::cs=>match bM h c,f7 h cs with
  |some x,some xs=>some (x::xs)
  |_,_=>none
def gG (h:Nat->Option ar):ai->Option Dv
 |.one (.ptr n k sz off)=>
  match h n with
  |some (.box cs)=>if k=0/\off=0 then(f7 h cs).map fun l=>(.ptr,l) else none
  |_=>none
 |.one (.bT xs off)=>if off=0 then some (.ptr,xs) else none
 |.one c=>(bM h c).map fun x=>(.one,[x])
 |.agg cs=>(f7 h cs).map fun l=>(.agg,l)
 |.bj _=>none
def jV (h:Nat->Option ar):List ai->Option (List Dv)
 |[]=>some []
 |c::cs=>match gG h c,jV h cs with
  |some x,some xs=>some (x::xs)
  |_,_=>none
def St.fu (σ:St):ah->Option (C×Bool×St)
 |.c x=>some (x,x.dR,σ)
 |.nil sz=>if 0<sz then some (.list sz [],true,σ) else none
 |.sl n sz lo len=>
  match σ.h n with
  |some (.row _ m rs xs)=>if rs=sz/\lo=0/\len<=xs.length then some (.list sz (xs.take len),decide (m≠ .aE),σ.del n) else none
  |_=>none
 |_=>none
def St.eY (σ:St):List ah->Option (List C×Bool×St)
 |[]=>some ([],true,σ)
 |c::cs=>match σ.fu c with
  |some (x,o,σ1)=>match σ1.eY cs with
   |some (xs,o',σ2)=>some (x::xs,o&&o',σ2)
   |none=>none
  |none=>none
def St.pt (σ:St):ah->Option St
 |.ptr n _ _ _=>match σ.h n with
  |some (.box cs)=>match σ.eY cs with
   |some (xs,_,σ1)=>some (σ1.cX n (.box (xs.map .c)))
   |none=>none
  |_=>none
 |_=>none
def St.kB (sz:Nat) (σ:St):List ai->Option (List (List C)×Bool×St)
 |[]=>some ([],true,σ)
 |v::vs=>match v.cells? with
  |some (_,cs)=>if cs.length=sz then
   match σ.eY cs with
   |some (e,o,σ1)=>match σ1.kB sz vs with
    |some (es,o',σ2)=>some (e::es,o&&o',σ2)
    |none=>none
   |none=>none
   else none
  |none=>none
def St.imp (m:Mode) (σ:St):Nat->List C->Option (List ah×Nat×St)
 |nm,[]=>some ([],nm,σ)
 |nm,.list sz xs::cs=>match σ.ins nm (.row true m sz xs) with
  |some σ1=>match σ1.imp m (nm+1) cs with
   |some (l,eG,σ2)=>some (.sl nm sz 0 xs.length::l,eG,σ2)
   |none=>none
  |none=>none
 |nm,x::cs=>match σ.imp m nm cs with
  |some (l,eG,σ2)=>some (.c x::l,eG,σ2)
  |none=>none
def St.iT (m:Mode) (σ:St):Nat->List Dv->Option (List (Bool×List ah)×St)
 |_,[]=>some ([],σ)
 |nm,(.ptr,_)::_=>none
 |nm,(k,cs)::ds=>match σ.imp m nm cs with
  |some (l,eG,σ1)=>match σ1.iT m eG ds with
   |some (ls,σ2)=>some ((decide (k=.agg),l)::ls,σ2)
   |none=>none
  |none=>none
def lp:List (Bool×List ah)->ai
 |[(ag,cs)]=>kC ag cs
 |l=>.bj l
def yI (d:Option Nat):Nat:=match d with|some n=>1000*(n+1)|none=>999
def gw:List Dv->Option (List (Bool×List ah))
 |[]=>some []
 |(.ptr,_)::_=>none
 |(k,cs)::ds=>match gw ds with
  |some ls=>some ((decide (k=.agg),cs.map .c)::ls)
  |none=>none
def tt (T:be) (f:FuncId) (as:List ai) (h:Nat->Option ar):Option ai:=
 match jV h as with
 |some ds=>match be.find T.pure f with
  |some M=>match M ds with
   |some rs=>match gw rs with
    |some ls=>some (lp ls)
    |none=>none
   |none=>none
  |none=>none
 |none=>none
def qx (T:be) (m:Mode) (d:Option Nat) (f:FuncId) (as:List ai) (σ:St):Option St:=
 match jV σ.h as with
 |some ds=>match be.find T.pure f with
  |some M=>match M ds with
   |some rs=>match σ.iT m (yI d) rs with
    |some (ls,σ1)=>some (σ1.put d (lp ls))
    |none=>none
   |none=>none
  |none=>none
 |none=>none
def uf:ah->Option C
 |.c x=>some x
 |.nil sz=>if 0<sz then some (.list sz []) else none
 |_=>none
def lN:List ah->Option (List C)
 |[]=>some []
 |c::cs=>match uf c,lN cs with
  |some x,some xs=>some (x::xs)
  |_,_=>none
def mr (h:Nat->Option ar):ai->Option (Nat×List C)
 |.one (.ptr n k _ off)=>if k=0/\off=0 then match h n with
  |some (.box cs)=>match lN cs with
   |some xs=>some (n,xs)
   |none=>none
  |_=>none
  else none
 |_=>none
def St.gL (σ:St):List ai->Option (List Dv×List Nat×St)
 |[]=>some ([],[],σ)
 |v::vs=>match mr σ.h v with
  |some (n,xs)=>match σ.gL vs with
   |some (ds,ns,σ1)=>some ((.ptr,xs)::ds,n::ns,σ1)
   |none=>none
  |none=>match v.cells? with
   |some (ag,cs)=>match σ.eY cs with
    |some (xs,_,σ1)=>match σ1.gL vs with
     |some (ds,ns,σ2)=>some ((if ag=true then .agg else .one,xs)::ds,ns,σ2)
     |none=>none
    |none=>none
   |none=>none
def St.rj (σ:St):List Nat->List C->Option St
 |[],[]=>some σ
 |[n],out=>match σ.h n with
  |some (.box cs)=>if cs.length=out.length then some (σ.cX n (.box (out.map .c))) else none
  |_=>none
 |_,_=>none
def qq (σ:St) (d:Option Nat):List Dv->Option St
 |[(.ptr,cs)]=>match d with
  |some q=>match σ.ins q (.box (cs.map .c)) with
   |some σ1=>some (σ1.put d (.one (.ptr q 0 0 0)))
   |none=>none
  |none=>none
 |rs=>match gw rs with
  |some ls=>some (σ.put d (lp ls))
  |none=>none
def rN (T:be) (d:Option Nat) (f:FuncId) (as:List ai) (σ:St):Option St:=
 match σ.gL as,be.nk T.vs f with
 |some (ds,ns,σ1),some M=>match M ds with
  |some (rs,out)=>match σ1.rj ns out with
   |some σ2=>qq σ2 d rs
   |none=>none
  |none=>none
 |_,_=>none
def C.rM:C->Bool
 |.list _ xs=>ft xs
 |_=>true
def C.pJ:C->Bool
 |.list ..=>true
 |_=>false
def rQ:Mode->List (List C)->Bool
 |.aa,xs=>ft xs
 |.live,xs=>xs.all fun e=>e.all C.rM
 |.aE,_=>false
inductive cQ where
 |nil (sz:Nat)
 |row (n:Nat)
 |nest (n k off:Nat)
def yF (h:Nat->Option ar) (md:Mode):ah->Option (cQ×C)
 |.nil sz=>if 0<sz/\md≠ .aE then some (.nil sz,.list sz []) else none
 |.sl n sz lo len=>match h n with
  |some (.row _ m rs xs)=>if m≠ .aE/\(md=.live->m=.live)/\rs=sz/\lo=0/\len=xs.length/\rQ md xs=true then some (.row n,.list sz xs) else none
  |_=>none
 |.br n k ax off sz len=>match h n with
  |some (.row _ .live rs xs)=>if rs=ax/\md=.aa then
   match(xs[k]?).bind (·[off]?) with
   |some (.list s ys)=>if ft ys=true then some (.nest n k off,.list s ys) else none
   |_=>none
   else none
  |_=>none
 |_=>none
def cQ.dr:cQ->Option Nat
 |.nil _=>none
 |.row n=>some n
 |.nest n _ _=>some n
def ah.dr:ah->Option Nat
 |.sl n _ _ _=>some n
 |.br n _ _ _ _ _=>some n
 |_=>none
def sR:List (Option Mode)->List ah->List Nat
 |some _::fs,c::cs=>c.dr.toList++sR fs cs
 |none::fs,_::cs=>sR fs cs
 |_,_=>[]
def lW (h h0:Nat->Option ar):List (Option Mode)->List ah->Option (List C×List (cQ×Mode))
 |[],cs=>match f7 h0 cs with
  |some xs=>some (xs,[])
  |none=>none
 |none::fs,c::cs=>match bM h0 c,lW h h0 fs cs with
  |some x,some (xs,its)=>some (x::xs,its)
  |_,_=>none
 |some md::fs,c::cs=>match yF h md c,lW h h0 fs cs with
  |some (it,x),some (xs,its)=>some (x::xs,(it,md)::its)
  |_,_=>none
 |_::_,[]=>none
def nK:aY->List (Bool×List ah)->List Nat
 |s::sig,a::as=>sR s a.2++nK sig as
 |_,_=>[]
def aY.hd:aY->List (Option Mode)
 |[]=>[]
 |s::_=>s
def aY.tl:aY->aY
 |[]=>[]
 |_::sig=>sig
def oO (h h0:Nat->Option ar):aY->List (Bool×List ah)->Option (List Dv×List (cQ×Mode))
 |_,[]=>some ([],[])
 |sig,(ag,cs)::as=>match lW h h0 (aY.hd sig) cs,oO h h0 (aY.tl sig) as with
  |some (xs,its),some (ds,ug)=>some ((if ag=true then(.agg,xs) else(.one,xs))::ds,its++ug)
  |_,_=>none
def wq:List ai->Option (List (Bool×List ah))
 |[]=>some []
 |v::vs=>match v.cells?,wq vs with
  |some x,some xs=>some (x::xs)
  |_,_=>none
def ed (h:Nat->Option ar) (ns:List Nat):Nat->Option ar:=fun n=>if ns.contains n=true then none else h n
def St.mV (σ:St):cQ->C->Option St
 |.nil _,_=>some σ
 |.row n,.list sz xs=>match σ.h n with
  |some (.row gr m rs _)=>if rs=sz then some (σ.cX n (.row gr m rs xs)) else none
  |_=>none
 |.nest n k off,x=>match σ.h n with
  |some (.row gr m rs xs)=>match xs[k]? with
   |some e=>some (σ.cX n (.row gr m rs (xs.set k (e.set off x))))
   |none=>none
  |_=>none
 |_,_=>none
def St.oS (σ:St):List (cQ×Mode)->List C->Option St
 |[],[]=>some σ
 |it::its,x::xs=>match σ.mV it.1 x with
  |some σ1=>σ1.oS its xs
  |none=>none
 |_,_=>none
def tw (T:be) (m:Mode) (d:Option Nat) (f:FuncId) (as:List ai) (σ:St):Option St:=
 match be.qA T.Bi f,wq as with
 |some (sig,M),some eZ=>
  if(nK sig eZ).Nodup then
   match oO σ.h (ed σ.h (nK sig eZ)) sig eZ with
   |some (ds,its)=>match M ds with
    |some (rs,dZ)=>match σ.oS its dZ with
     |some σ1=>match σ1.iT m (yI d) rs with
      |some (ls,σ2)=>some (σ2.put d (lp ls))
      |none=>none
     |none=>none
    |none=>none
   |none=>none
  else none
 |_,_=>none
def zD (op:BinOp) (k:IntKind) (a b:Int):Option C:=
 match op with
 |.add=>some (.int k (k.wrap (a+b)))
 |.sub=>some (.int k (k.wrap (a - b)))
 |.mul=>some (.int k (k.wrap (a*b)))
 |.quo=>if b=0 then none else some (.int k (k.wrap (a.tdiv b)))
 |.rem=>if b=0 then none else some (.int k (a.tmod b))
 |.and=>some (.int k (bits .and k a b))
 |.or=>some (.int k (bits .or k a b))
 |.xor=>some (.int k (bits .xor k a b))
 |.eql=>some (.bool (a==b))
 |.neq=>some (.bool (a !=b))
 |.lss=>some (.bool (decide (a<b)))
 |.leq=>some (.bool (decide (a<=b)))
 |.gtr=>some (.bool (decide (b<a)))
 |.geq=>some (.bool (decide (b<=a)))
 |_=>none
def EI (op:BinOp) (k:IntKind) (a b:Int):Option C:=
 if b<0 then none else
 match op with
 |.shl=>some (.int k (k.wrap (a*2^(min b.toNat k.bits))))
 |.shr=>some (.int k (a/(2^(min b.toNat k.bits))))
 |_=>none
def BinOp.yu:BinOp->Bool
 |.shl|.shr=>true
 |_=>false
def vh (op:BinOp):ai->ai->Option C
 |.one (.c (.int k a)),.one (.c (.int k' b))=>if BinOp.yu op=true then EI op k a b else if k=k' then zD op k a b else none
 |_,_=>none
def zC (op:BinOp):ai->ai->Option C
 |.one (.c (.bool a)),.one (.c (.bool b))=>match op with
  |.eql=>some (.bool (a==b))
  |.neq=>some (.bool (a !=b))
  |_=>none
 |_,_=>none
def B3 (op:UnOp):ai->Option C
 |.one (.c (.bool a))=>match op with
  |.not=>some (.bool (!a))
  |_=>none
 |.one (.c (.int k a))=>match op with
  |.neg=>some (.int k (k.wrap (0 - a)))
  |_=>none
 |_=>none
def ai.cN:ai->Option Int
 |.one (.c (.int _ n))=>some n
 |_=>none
def dA:Nat:=140737488355328
def oW (ev:MO->ai):List ah->List (Nat×Nat×MO)->Option (List ah)
 |zs,[]=>some zs
 |zs,(off,sz,x)::ps=>match(ev x).cells? with
  |some (_,cs)=>if cs.length=sz/\off+sz<=zs.length then oW ev (bP zs off cs) ps else none
  |none=>none
def ma (σ:St) (n:Nat) (gr:Bool) (m:Mode) (rs:Nat) (xs:List (List C)) (k off:Nat) (e:List C) (vs:List ah):Option St:=
 match sub e off vs.length with
 |none=>none
 |some fB=>match σ.eY vs with
  |none=>none
  |some (cs,o,σ1)=>
   if m=.live then
    if eO cs=true/\eO fB=true/\(σ1.h n).isSome=true then some (σ1.cX n (.row gr m rs (xs.set k (bP e off cs)))) else none
   else if(σ1.h n).isSome=true then
    some (σ1.cX n (.row gr (if o=true then m else .aE) rs (xs.set k (bP e off cs))))
   else none
def kN:List ah->Option (List C)
 |[]=>some []
 |.c x::l=>if x.dR=true then(kN l).map (x::·) else none
 |_::_=>none
def uD (xs:List (List C)) (k off s i:Nat) (vs:List ah):Option (List (List C)):=
 match(xs[k]?).bind (·[off]?) with
 |some (.list s' ys)=>if s'=s/\vs.length=s/\i<ys.length/\ft ys=true then(kN vs).map fun cs=>xs.set k ((xs.getD k []).set off (.list s' (ys.set i cs))) else none
 |_=>none
def pd (σ:St) (sz:Nat):ai->Option (List (List C)×Mode×St)
 |.one (.nil _)=>some ([],.aa,σ)
 |.one (.sl a s 0 len)=>match σ.h a with
  |some (.row true m rs xs)=>if rs=sz/\s=sz/\len=xs.length then some (xs,m,σ.del a) else none
  |_=>none
 |_=>none
def kK (fl:Bool) (σ1:St) (sz:Nat) (m:Mode):ai->Option (List (List C)×Mode×St)
  |.one (.nil _)=>some ([],m,σ1)
  |.one (.c (.list s ys))=>if s=sz then(if(fl&&ft ys)=true then some (ys,m,σ1) else if m=.live then none else some (ys,.aE,σ1)) else none
  |.one (.sl b s lo len)=>match σ1.h b with
   |some (.row _ m' rs ys)=>if rs=sz/\s=sz/\lo+len<=ys.length then
       (if(fl&&ft ((ys.drop lo).take len))=true then some ((ys.drop lo).take len,m,σ1)
        else if lo=0/\len=ys.length then(if m=m' then some (ys,m,σ1.del b) else if m=.live\/m'=.live then none else some (ys,.aE,σ1.del b)) else none)
    else none
   |_=>none
  |_=>none
def ah.Em:ah->Bool
 |.bg=>false
 |_=>true
def kz (bE:Bool) (n:Int) (c:ah):List ah:=if bE=true then[.c (.int .i64 n),.c (.int .i64 1),c] else[.c (.int .i64 1),.c (.int .i64 n),c]
def aI (T:be) (d:Option Nat) (op:aC) (σ:St):Option St:=
 match op with
 |.mv x=>some (σ.put d (σ.ev x))
 |.pick c x y=>match σ.ev c with
  |.one (.c (.bool b))=>if b=true then some (σ.put d (σ.ev x)) else some (σ.put d (σ.ev y))
  |_=>none
 |.alloc zs=>match d with
  |some n=>match σ.ins n (.box zs) with
   |some σ1=>some (σ1.put d (.one (.ptr n 0 0 0)))
   |none=>none
  |none=>none
 |.box sz x=>match d,(σ.ev x).cells? with
  |some n,some (_,cs)=>if cs.length=sz then
   match σ.ins n (.box cs) with
   |some σ1=>some (σ1.put d (.one (.ptr n 0 0 0)))
   |none=>none
   else none
  |_,_=>none
 |.build zs parts=>match oW σ.ev zs parts with
  |some cs=>some (σ.put d (.agg cs))
  |none=>none
 |.dT sz parts=>match d,σ.kB sz (parts.map σ.ev) with
  |some n,some (es,o,σ1)=>match σ1.ins n (.row true (if o=true then .aa else .aE) sz es) with
   |some σ2=>some (σ2.put d (.one (.sl n sz 0 es.length)))
   |none=>none
  |_,_=>none
 |.load ag sz x=>match σ.ev x with
  |.one p=>match loadAt σ.h p sz with
   |some cs=>some (σ.put d (kC ag cs))
   |none=>none
  |_=>none
 |.lV ag sz x=>match σ.ev x with
  |.one p=>match σ.pt p with
   |some σ1=>match loadAt σ1.h p sz with
    |some cs=>some (σ1.put d (kC ag cs))
    |none=>none
   |none=>none
  |_=>none
 |.store sz x v=>match σ.ev x,(σ.ev v).cells? with
  |.one (.ptr n k ax off),some (_,vs)=>if vs.length=sz then
   match σ.h n with
   |some (.box cs)=>if k=0/\off+sz<=cs.length then some (σ.cX n (.box (bP cs off vs))) else none
   |some (.row gr m rs xs)=>if ax=rs then
    match xs[k]? with
    |some e=>ma σ n gr m rs xs k off e vs
    |none=>none
    else none
   |none=>none
   else none
  |.one (.cr n k ax off s i),some (_,vs)=>if vs.length=sz then
   match σ.h n with
   |some (.row gr .live rs xs)=>if ax=rs then
    match uD xs k off s i vs with
    |some au=>some (σ.cX n (.row gr .live rs au))
    |none=>none
    else none
   |_=>none
   else none
  |_,_=>none
 |.nM x=>match σ.ev x with
  |.one (.ptr n k sz off)=>if(σ.h n).isSome=true then some (σ.put d (.one (.ptr n k sz off))) else none
  |.one (.bT xs off)=>some (σ.put d (.one (.bT xs off)))
  |_=>none
 |.bin op x y=>match vh op (σ.ev x) (σ.ev y) with
  |some c=>some (σ.put d (.one (.c c)))
  |none=>none
 |.lz op x y=>match zC op (σ.ev x) (σ.ev y) with
  |some c=>some (σ.put d (.one (.c c)))
  |none=>none
 |.un op x=>match B3 op (σ.ev x) with
  |some c=>some (σ.put d (.one (.c c)))
  |none=>none
 |.conv k x=>match σ.ev x with
  |.one (.c (.int _ n))=>some (σ.put d (.one (.c (.int k (k.wrap n)))))
  |_=>none
 |.ld m sz by_ zs l c=>match d,(σ.ev l).cN,(σ.ev c).cN with
  |some n,some a,some b=>if a<=b/\0<=a/\b.toNat*by_<=dA/\zs.length=sz then
   match σ.ins n (.row true m sz (List.replicate a.toNat zs)) with
   |some σ1=>some (σ1.put d (.one (.sl n sz 0 a.toNat)))
   |none=>none
   else none
  |_,_,_=>none
 |.slice sz x lo hi=>
  let PM:Option Int:=match lo with|none=>some 0|some l=>(σ.ev l).cN
  match σ.ev x,PM with
  |.one (.sl n s l0 len),some l=>
   match(match hi with|none=>some (len:Int)|some h=>(σ.ev h).cN) with
   |some h=>if s=sz/\0<=l/\l<=h/\h<=len/\(σ.h n).isSome=true then some (σ.put d (.one (.sl n s (l0+l.toNat) (h - l).toNat))) else none
   |none=>none
  |.one (.c (.list s xs)),some l=>
   match(match hi with|none=>some (xs.length:Int)|some h=>(σ.ev h).cN) with
   |some h=>if s=sz/\0<=l/\l<=h/\h<=xs.length then some (σ.put d (.one (.c (.list s ((xs.drop l.toNat).take (h - l).toNat))))) else none
   |none=>none
  |_,_=>none
 |.tail sz x lo=>match d,σ.ev x,(σ.ev lo).cN with
  |some n,.one (.sl a s 0 len),some l=>match σ.h a with
   |some (.row true m rs xs)=>if rs=sz/\s=sz/\len=xs.length/\0<=l/\l<=len then
    match(σ.del a).ins n (.row true m sz (xs.drop l.toNat)) with
    |some σ1=>some (σ1.put d (.one (.sl n sz 0 (xs.length - l.toNat))))
    |none=>none
    else none
   |_=>none
  |_,_,_=>none
 |.ak off x=>match σ.ev x with
  |.one (.ptr n k sz o)=>if(σ.h n).isSome=true then some (σ.put d (.one (.ptr n k sz (o+off)))) else none
  |.one (.bT xs o)=>some (σ.put d (.one (.bT xs (o+off))))
  |_=>none
 |.bO sz x i=>match σ.ev x,(σ.ev i).cN with
  |.one (.sl n s lo len),some k=>if s=sz/\0<=k/\k<len/\(σ.h n).isSome=true then some (σ.put d (.one (.ptr n (lo+k.toNat) s 0))) else none
  |.one (.c (.list s xs)),some k=>if s=sz/\0<=k then
   match xs[k.toNat]? with
   |some e=>some (σ.put d (.one (.bT e 0)))
   |none=>none
   else none
  |.one (.br n kk ax off s len),some k=>match bM σ.h (.br n kk ax off s len) with
   |some (.list s' ys)=>if s'=sz/\0<=k/\k<ys.length then some (σ.put d (.one (.cr n kk ax off sz k.toNat))) else none
   |_=>none
  |_,_=>none
 |.ext i x=>match σ.ev x with
  |.bj xs=>match xs[i]? with
   |some (ag,cs)=>some (σ.put d (kC ag cs))
   |none=>none
  |_=>none
 |.mA ag off sz x=>match σ.ev x with
  |.agg cs=>match sub cs off sz with
   |some l=>some (σ.put d (kC ag l))
   |none=>none
  |_=>none
 |.lr f bE x=>match σ.ev x with
  |.one (.sl n sz lo len)=>if(σ.h n).isSome=true then some (σ.put d (.agg (kz bE len (.sl n sz lo len)))) else none
  |.one (.c (.list sz xs))=>some (σ.put d (.agg (kz bE xs.length (.c (.list sz xs)))))
  |.one (.nil sz)=>some (σ.put d (.agg (kz bE 0 (.nil sz))))
  |_=>none
 |.len x=>match σ.ev x with
  |.one (.sl n sz lo len)=>if(σ.h n).isSome=true then some (σ.put d (.one (.c (.int .i64 len)))) else none
  |.one (.c (.list sz xs))=>some (σ.put d (.one (.c (.int .i64 xs.length))))
  |.one (.nil sz)=>some (σ.put d (.one (.c (.int .i64 0))))
  |.one (.br n k ax off sz len)=>match bM σ.h (.br n k ax off sz len) with
   |some (.list s ys)=>some (σ.put d (.one (.c (.int .i64 ys.length))))
   |_=>none
  |_=>none
 |.append fl sz by_ x y=>match d with
  |none=>none
  |some n=>match pd σ sz (σ.ev x) with
   |none=>none
   |some (xs,m,σ1)=>match kK fl σ1 sz m (σ.ev y) with
    |none=>none
    |some (ys,m2,σ2)=>
     if(xs.length+ys.length)*by_<=dA then
      match σ2.ins n (.row true m2 sz (xs++ys)) with
      |some f9=>some (f9.put d (.one (.sl n sz 0 (xs.length+ys.length))))
      |none=>none
     else none
 |.copy sz x y=>match σ.ev x,σ.ev y with
  |.one (.sl n s lo len),.one c=>match σ.h n,bM σ.h c with
   |some (.row gr m rs xs),some (.list s' ys)=>if sz=1/\s=1/\rs=1/\s'=1/\m≠ .aE/\ft xs=true/\ft ys=true/\lo+len<=xs.length then
    some ((σ.cX n (.row gr m 1 (bP xs lo (ys.take len)))).put d (.one (.c (.int .i64 (Nat.min ys.length len:Nat))))) else none
   |_,_=>none
  |_,_=>none
 |.j7 z x=>match σ.ev x with
  |.one (.sl n s lo len)=>match σ.h n with
   |some (.row gr m rs xs)=>if s=1/\rs=1/\z.dR=true/\m≠ .aE/\ft xs=true/\lo+len<=xs.length then
    some ((σ.cX n (.row gr m 1 (bP xs lo (List.replicate len [z])))).put d (.bj [])) else none
   |_=>none
  |_=>none
 |.mm mx x y=>match σ.ev x,σ.ev y with
  |.one (.c (.int k a)),.one (.c (.int k' b))=>if mx=true then(if a<b then some (σ.put d (.one (.c (.int k b)))) else some (σ.put d (.one (.c (.int k a)))))
   else(if b<a then some (σ.put d (.one (.c (.int k b)))) else some (σ.put d (.one (.c (.int k a)))))
  |_,_=>none
 |.call m f xs=>qx T m d f (xs.map σ.ev) σ
 |.lA f xs=>match tt T f (xs.map σ.ev) σ.h with
  |some v=>some (σ.put d v)
  |none=>none
 |.oN f xs=>match(xs.map σ.ev).mapM (fun v=>match v with|.one c=>if c.kl=true then none else some c|_=>none) with
  |some cs=>if cs.all ah.Em=true then some (σ.put d (.one (.fn f cs))) else none
  |none=>none
 |.lB m x xs=>match σ.ev x with
  |.one (.fn f bR)=>qx T m d f (xs.map σ.ev++bR.map .one) σ
  |_=>none
 |.eQ m f xs=>tw T m d f (xs.map σ.ev) σ
 |.iJ f xs=>rN T d f (xs.map σ.ev) σ
def d8 (T:be) (o:bH) (σ:St):Option St:=
 match o.guard with
 |none=>aI T o.dst o.op σ
 |some (s,jW)=>match σ.env s with
  |.one (.c (.bool b))=>if b=jW then aI T o.dst o.op σ else some (σ.put o.dst (.bj []))
  |.bj []=>some (σ.put o.dst (.bj []))
  |_=>none
def ni (T:be):List bH->St->Option St
 |[],σ=>some σ
 |o::os,σ=>match d8 T o σ with
  |some σ'=>ni T os σ'
  |none=>none
def ah.eI (ok:Nat->Bool):ah->ah
 |.ptr n k sz off=>if ok n=true then .ptr n k sz off else .bg
 |.sl n sz lo len=>if ok n=true then .sl n sz lo len else .bg
 |.br n k ax off sz len=>if ok n=true then .br n k ax off sz len else .bg
 |.cr n k ax off sz i=>if ok n=true then .cr n k ax off sz i else .bg
 |x=>x
def ah.cv (ok:Nat->Bool):ah->ah
 |.fn f bR=>.fn f (bR.map (·.eI ok))
 |x=>x.eI ok
def ai.cv (ok:Nat->Bool):ai->ai
 |.one c=>.one (c.cv ok)
 |.agg cs=>.agg (cs.map (·.cv ok))
 |.bj xs=>.bj (xs.map fun x=>(x.1,x.2.map (·.cv ok)))
def ar.cv (ok:Nat->Bool):ar->ar
 |.box cs=>.box (cs.map (·.cv ok))
 |b=>b
def vn:Nat->ai:=fun _=>.one .bg
def zS:Nat->Option ar:=fun _=>none
def V3:Nat->Bool:=fun _=>false
def uu (ok:Nat->Bool) (env:Nat->ai):List Nat->(Nat->ai)
 |[]=>vn
 |s::ss=>av (uu ok env ss) s ((env s).cv ok)
def p9 (ok:Nat->Bool) (h:Nat->Option ar):List Nat->(Nat->Option ar)
 |[]=>zS
 |s::ss=>if ok s=true then match h s with
  |some b=>av (p9 ok h ss) s (some (b.cv ok))
  |none=>p9 ok h ss
  else p9 ok h ss
def uv (ok:Nat->Bool):List Nat->(Nat->Bool)
 |[]=>V3
 |s::ss=>if ok s=true then av (uv ok ss) s true else uv ok ss
def ah.wH (n:Nat):ah->Bool
 |.ptr m _ _ _=>m==n
 |.sl m _ _ _=>m==n
 |.br m _ _ _ _ _=>m==n
 |.cr m _ _ _ _ _=>m==n
 |_=>false
def ah.f6 (n:Nat):ah->Bool
 |.fn _ bR=>bR.any (·.wH n)
 |x=>x.wH n
def ai.f6 (n:Nat):ai->Bool
 |.one c=>c.f6 n
 |.agg cs=>cs.any (·.f6 n)
 |.bj xs=>xs.any fun x=>x.2.any (·.f6 n)
def St.h9 (σ:St) (ke kh:List Nat):Nat->Bool:=fun n=>kh.contains n&&(σ.h n).isSome&&
 (Nat.ble aJ n||ke.any (fun s=>(σ.env s).f6 n)||kh.any fun k=>match σ.h k with|some (.box cs)=>cs.any (·.f6 n)|_=>false)
def St.gF (σ:St) (ke kh:List Nat):St:=
 {env:=uu (σ.h9 ke kh) σ.env ke,h:=p9 (σ.h9 ke kh) σ.h kh,used:=fun n=>Nat.ble aJ n||uv (σ.h9 ke kh) kh n}
def mW (x c n:Nat):Nat:=if n=x then c else n
def ah.nQ (x c:Nat):ah->ah
 |.ptr n k sz off=>.ptr (mW x c n) k sz off
 |.sl n sz lo len=>.sl (mW x c n) sz lo len
 |.br n k ax off sz len=>.br (mW x c n) k ax off sz len
 |.cr n k ax off sz i=>.cr (mW x c n) k ax off sz i
 |y=>y
def ah.aX (x c:Nat):ah->ah
 |.fn f bR=>.fn f (bR.map (·.nQ x c))
 |y=>y.nQ x c
def ai.aX (x c:Nat):ai->ai
 |.one y=>.one (y.aX x c)
 |.agg ys=>.agg (ys.map (·.aX x c))
 |.bj ys=>.bj (ys.map fun y=>(y.1,y.2.map (·.aX x c)))
def ar.aX (x c:Nat):ar->ar
 |.box cs=>.box (cs.map (·.aX x c))
 |b=>b
def St.aX (σ:St) (x c:Nat):Option St:=
 if x=c then some σ else if Nat.ble aJ x=true then some σ else if σ.used c=true then none else
 some {env:=fun s=>(σ.env s).aX x c,h:=fun n=>if n=c then(σ.h x).map (·.aX x c) else if n=x then none else(σ.h n).map (·.aX x c),used:=fun n=>if n=c then σ.used x else if n=x then false else σ.used n}
def St.ja (σ:St) (c:Nat):Mode->St
 |.aE=>match σ.h c with
  |some (.row gr .aa rs xs)=>σ.cX c (.row gr .aE rs xs)
  |_=>σ
 |_=>σ
def St.canon (σ:St):Bool×Nat×Nat×Nat×Mode->Option St
 |(true,n,j,c,m)=>match σ.h n with
  |some (.box cs)=>match cs[j]? with
   |some (.sl a _ _ _)=>(σ.aX a c).map fun σ1=>σ1.ja c m
   |some (.nil sz)=>if 0<sz then match σ.ins c (.row true m sz []) with
    |some σ1=>some (σ1.cX n (.box (cs.set j (.sl c sz 0 0))))
    |none=>none
    else some σ
   |_=>some σ
  |_=>some σ
 |(false,n,j,c,m)=>match σ.env n with
  |.one (.sl a _ _ _)=>(σ.aX a c).map fun σ1=>σ1.ja c m
  |.one (.nil sz)=>if 0<sz then match σ.ins c (.row true m sz []) with
   |some σ1=>some (σ1.put (some n) (.one (.sl c sz 0 0)))
   |none=>none
   else some σ
  |_=>some σ
def St.rI (σ:St):List (Bool×Nat×Nat×Nat×Mode)->Option St
 |[]=>some σ
 |x::l=>match σ.canon x with
  |some σ1=>σ1.rI l
  |none=>none
def St.head (σ:St) (ke kh:List Nat) (cn:List (Bool×Nat×Nat×Nat×Mode)):Option St:=
 match((σ.gF ke kh).gF ke kh).rI cn with
 |some σ1=>some (σ1.gF ke kh)
 |none=>none
def aC.args:aC->List MO
 |.mv x|.box _ x|.load _ _ x|.lV _ _ x|.nM x|.un _ x|.conv _ x|.ak _ x|.ext _ x|.mA _ _ _ x|.lr _ _ x|.len x|.j7 _ x=>[x]
 |.pick c x y=>[c,x,y]
 |.alloc _=>[]
 |.build _ ps=>ps.map (·.2.2)
 |.dT _ ps=>ps
 |.store _ x v=>[x,v]
 |.bin _ x y|.lz _ x y|.mm _ x y|.append _ _ _ x y|.copy _ x y|.bO _ x y|.tail _ x y=>[x,y]
 |.ld _ _ _ _ l c=>[l,c]
 |.slice _ x lo hi=>x::(lo.toList++hi.toList)
 |.call _ _ xs|.oN _ xs|.eQ _ _ xs|.lA _ xs|.iJ _ xs=>xs
 |.lB _ x xs=>x::xs
def aC.DR:aC->Bool
 |.call ..|.lB ..|.lA ..=>true
 |_=>false
def ah.rh:ah->List Nat
 |.ptr n _ _ _=>[n]
 |.sl n _ _ _=>[n]
 |.br n _ _ _ _ _=>[n]
 |.cr n _ _ _ _ _=>[n]
 |_=>[]
def ah.nm:ah->List Nat
 |.fn _ bR=>bR.flatMap ah.rh
 |x=>x.rh
def ai.fP:ai->List Nat
 |.one c=>c.nm
 |.agg cs=>cs.flatMap ah.nm
 |.bj xs=>xs.flatMap fun x=>x.2.flatMap ah.nm
def zF (h:Nat->Option ar) (l:List Nat):List Nat:=l.flatMap fun n=>match h n with
 |some (.box cs)=>cs.flatMap ah.nm
 |_=>[]
def aC.hZ (op:aC) (ev:MO->ai):List Nat:=op.args.flatMap fun x=>(ev x).fP
def aC.lm (op:aC) (ev:MO->ai) (h:Nat->Option ar):List Nat:=cond op.DR (op.hZ ev++zF h (op.hZ ev)) (op.hZ ev)
def aC.ju (op:aC) (ev:MO->ai) (h:Nat->Option ar):Option (List Nat):=
 match op with
 |.store _ x v=>match ev x with
  |.one (.ptr n _ _ _)=>match h n with
   |some (.box _)=>some [n]
   |some (.row ..)=>some (n::(ev v).fP)
   |none=>none
  |.one (.cr n _ _ _ _ _)=>some [n]
  |_=>none
 |.dT _ ps=>some (ps.flatMap fun p=>(ev p).fP)
 |.iJ _ xs=>some (xs.flatMap fun p=>(ev p).fP)
 |.append _ _ _ x y=>some ((ev x).fP++(ev y).fP)
 |.copy _ x _|.j7 _ x=>match ev x with
  |.one (.sl n _ _ _)=>some [n]
  |_=>none
 |.eQ ..|.tail ..|.lV ..=>none
 |_=>some []
abbrev FP:=List Nat×List Nat
def aC.fp (op:aC) (σ:St):Option FP:=(op.ju σ.ev σ.h).map fun w=>(op.lm σ.ev σ.h,w)
def CF (f g:FP):Bool:=f.2.all (fun n=> !(g.1.contains n))&&g.2.all (fun n=> !(f.1.contains n))
def CG:Option FP->Option FP->Bool
 |some f,some g=>CF f g
 |_,_=>false
def lD (o:bH) (e:Nat->ai):Option aC:=
 match o.guard with
 |none=>some o.op
 |some (s,jW)=>match e s with
  |.one (.c (.bool b))=>if b=jW then some o.op else some (.mv (.k (.bj [])))
  |.bj []=>some (.mv (.k (.bj [])))
  |_=>none
def bH.fp (o:bH) (σ:St):Option FP:=
 match lD o σ.env with
 |some op=>op.fp σ
 |none=>none
def wE (ps:List (Nat×Nat)) (fs:List (Option FP)):Bool:=ps.all fun p=>CG (fs.getD p.1 none) (fs.getD p.2 none)
def qz (T:be):List bH->List (Option FP)->St->Option (List (Option FP)×St)
 |[],cC,σ=>some (cC,σ)
 |o::os,cC,σ=>match d8 T o σ with
  |some σ1=>qz T os (cC++[o.fp σ]) σ1
  |none=>none
def aD:Nat:=2^64
def Be:Nat->(St->Option u6)->St->Option u6
 |0,_,_=>none
 |n+1,f,σ=>match f σ with
  |some (.fe σ')=>Be n f σ'
  |o=>o
def dw (T:be):kI->St->Option u6
 |.skip,σ=>some (.fe σ)
 |.ae _ ops,σ=>match ni T ops σ with
  |some σ'=>some (.fe σ')
  |none=>none
 |.pZ ps ops,σ=>match qz T ops [] σ with
  |some (fs,σ')=>cond (wE ps fs) (some (.fe σ')) none
  |none=>none
 |.seq a b,σ=>match dw T a σ with
  |some (.fe σ')=>dw T b σ'
  |o=>o
 |.cond c a b,σ=>match σ.ev c with
  |.one (.c (.bool t))=>if t=true then dw T a σ else dw T b σ
  |_=>none
 |.block id c,σ=>match dw T c σ with
  |some (.ext i σ')=>if i=id then some (.fe σ') else some (.ext i σ')
  |o=>o
 |.join ke kh cn c,σ=>match dw T c σ with
  |some (.fe σ')=>match σ'.head ke kh cn with
   |some σ1=>some (.fe σ1)
   |none=>none
  |o=>o
 |.loop id ke kh cn c,σ=>Be aD (fun σ=>match σ.head ke kh cn with|some σ1=>dw T c σ1|none=>none) σ
 |.exit id,σ=>some (.ext id σ)
 |.ret,σ=>some (.ret σ)
end Go.Am
