/- Am3: the abstract machine's code and its evaluator. No condition. -/
import Derived.Test.YtifmggmhdcdgbaaAm2
set_option linter.unusedVariables false
namespace Go.Am
inductive MO where
 |t (n:Nat)
 |k (v:aj)
inductive aC where
 |mv (x:MO)
 |pick (c x y:MO)
 |alloc (zs:List ai)
 |box (sz:Nat) (x:MO)
 |build (zs:List ai) (parts:List (Nat×Nat×MO))
 |dM (sz:Nat) (parts:List MO)
 |load (ag:Bool) (sz:Nat) (x:MO)
 |mw (ag:Bool) (sz:Nat) (x:MO)
 |store (sz:Nat) (x v:MO)
 |gv (x:MO)
 |bin (op:BinOp) (x y:MO)
 |nB (op:BinOp) (x y:MO)
 |un (op:UnOp) (x:MO)
 |conv (k:IntKind) (x:MO)
 |nb (m:Mode) (sz by_:Nat) (zs:List C) (l c:MO)
 |slice (sz:Nat) (x:MO) (lo hi:Option MO)
 |tail (sz:Nat) (x lo:MO)
 |aq (off:Nat) (x:MO)
 |bY (sz:Nat) (x i:MO)
 |ext (i:Nat) (x:MO)
 |lp (ag:Bool) (off sz:Nat) (x:MO)
 |lO (f:FuncId) (bE:Bool) (x:MO)
 |len (x:MO)
 |append (fl:Bool) (sz by_:Nat) (x y:MO)
 |copy (sz:Nat) (x y:MO)
 |kt (z:C) (x:MO)
 |mm (mx:Bool) (x y:MO)
 |call (m:Mode) (f:FuncId) (xs:List MO)
 |lS (f:FuncId) (xs:List MO)
 |oV (f:FuncId) (xs:List MO)
 |lT (m:Mode) (x:MO) (xs:List MO)
 |gI (m:Mode) (f:FuncId) (xs:List MO)
 |dC (f:FuncId) (xs:List MO)
structure bL where
 dst:Option Nat
 op:aC
 guard:Option (Nat×Bool)
inductive kY where
 |skip
 |af (qS:Bool) (ops:List bL)
 |od (ps:List (Nat×Nat)) (ops:List bL)
 |seq (a b:kY)
 |cond (c:MO) (a b:kY)
 |block (id:Nat) (c:kY)
 |join (ke kh:List Nat) (cn:List (Bool×Nat×Nat×Nat×Mode)) (c:kY)
 |loop (id:Nat) (ke kh:List Nat) (cn:List (Bool×Nat×Nat×Nat×Mode)) (c:kY)
 |exit (id:Nat)
 |ret
inductive K where
 |one|agg|ptr
 deriving DecidableEq
abbrev Dv:=K×List C
abbrev be:=List (List (Option Mode))
structure bj where
 pure:List (FuncId×(List Dv->Option (List Dv)))
 BW:List (FuncId×be×(List Dv->Option (List Dv×List C)))
 vs:List (FuncId×(List Dv->Option (List Dv×List C)))
def bj.qV:List (FuncId×be×(List Dv->Option (List Dv×List C)))->FuncId->Option (be×(List Dv->Option (List Dv×List C)))
 |[],_=>none
 |(g,M)::l,f=>if f=g then some M else bj.qV l f
def bj.nI:List (FuncId×(List Dv->Option (List Dv×List C)))->FuncId->Option (List Dv->Option (List Dv×List C))
 |[],_=>none
 |(g,M)::l,f=>if f=g then some M else bj.nI l f
def bj.find:List (FuncId×(List Dv->Option (List Dv)))->FuncId->Option (List Dv->Option (List Dv))
 |[],_=>none
 |(g,M)::l,f=>if f=g then some M else bj.find l f
inductive vH where
 |fD (σ:St)
 |ext (id:Nat) (σ:St)
 |ret (σ:St)
def St.ev (σ:St):MO->aj
 |.t n=>σ.env n
 |.k v=>v
def St.put (σ:St) (d:Option Nat) (v:aj):St:=
 match d with
 |some n=>{σ with env:=aw σ.env n v}
 |none=>σ
def St.ins (σ:St) (n:Nat) (b:ar):Option St:=
 if σ.used n=true then none else some {σ with h:=aw σ.h n (some b),used:=aw σ.used n true}
def St.dc (σ:St) (n:Nat) (b:ar):St:={σ with h:=aw σ.h n (some b)}
def St.del (σ:St) (n:Nat):St:={σ with h:=aw σ.h n none}
def aj.cells?:aj->Option (Bool×List ai)
 |.one .bh=>none
 |.one c=>some (false,[c])
 |.agg cs=>some (true,cs)
 |.bn _=>none
def kQ:Bool->List ai->aj
 |true,cs=>.agg cs
 |false,[c]=>.one c
 |false,_=>.one .bh
def sub {α:Type} (l:List α) (off sz:Nat):Option (List α):=if off+sz<=l.length then some ((l.drop off).take sz) else none
def bS {α:Type} (l:List α) (off:Nat) (vs:List α):List α:=l.take off++vs++l.drop (off+vs.length)
def C.d7:C->Bool
 |.list ..=>false
 |_=>true
def fe (l:List C):Bool:=l.all C.d7
def fN (l:List (List C)):Bool:=l.all fe
def gp (n k rs:Nat):Nat->List C->List ai
 |_,[]=>[]
 |off,.list sz ys::l=>.bx n k rs off sz ys.length::gp n k rs (off+1) l
 |off,x::l=>.c x::gp n k rs (off+1) l
def loadAt (h:Nat->Option ar) (p:ai) (sz:Nat):Option (List ai):=
 match p with
 |.ptr n k az off=>
  match h n with
  |some (.box cs)=>if k=0 then sub cs off sz else none
  |some (.row _ m rs xs)=>
   if az=rs then
    match xs[k]? with
    |some e=>match sub e off sz with
     |some l=>some (if m=.live then gp n k rs off l else l.map .c)
     |none=>none
    |none=>none
   else none
  |none=>none
 |.ca xs off=>(sub xs off sz).map (·.map .c)
 |_=>none
def bR (h:Nat->Option ar):ai->Option C
 |.c x=>some x
 |.nil sz=>if 0<sz then some (.list sz []) else none
 |.sl n sz lo len=>
  match h n with
  |some (.row _ _ rs xs)=>if rs=sz/\lo+len<=xs.length then some (.list sz ((xs.drop lo).take len)) else none
  |_=>none
 |.bx n k az off sz len=>
  match h n with
  |some (.row _ .live rs xs)=>if rs=az then(xs[k]?).bind (·[off]?) else none
  |_=>none
 |_=>none
def gx (h:Nat->Option ar):List ai->Option (List C)
 |[]=>some []
 |c::cs=>match bR h c,gx h cs with
  |some x,some xs=>some (x::xs)
  |_,_=>none
def gZ (h:Nat->Option ar):aj->Option Dv
 |.one (.ptr n k sz off)=>
  match h n with
  |some (.box cs)=>if k=0/\off=0 then(gx h cs).map fun l=>(.ptr,l) else none
  |_=>none
 |.one (.ca xs off)=>if off=0 then some (.ptr,xs) else none
 |.one c=>(bR h c).map fun x=>(.one,[x])
 |.agg cs=>(gx h cs).map fun l=>(.agg,l)
 |.bn _=>none
def kj (h:Nat->Option ar):List aj->Option (List Dv)
 |[]=>some []
 |c::cs=>match gZ h c,kj h cs with
  |some x,some xs=>some (x::xs)
  |_,_=>none
def St.fO (σ:St):ai->Option (C×Bool×St)
 |.c x=>some (x,x.d7,σ)
 |.nil sz=>if 0<sz then some (.list sz [],true,σ) else none
 |.sl n sz lo len=>
  match σ.h n with
  |some (.row _ m rs xs)=>if rs=sz/\lo=0/\len<=xs.length then some (.list sz (xs.take len),decide (m≠ .aA),σ.del n) else none
  |_=>none
 |_=>none
def St.ft (σ:St):List ai->Option (List C×Bool×St)
 |[]=>some ([],true,σ)
 |c::cs=>match σ.fO c with
  |some (x,o,σ1)=>match σ1.ft cs with
   |some (xs,o',σ2)=>some (x::xs,o&&o',σ2)
   |none=>none
  |none=>none
def St.pH (σ:St):ai->Option St
 |.ptr n _ _ _=>match σ.h n with
  |some (.box cs)=>match σ.ft cs with
   |some (xs,_,σ1)=>some (σ1.dc n (.box (xs.map .c)))
   |none=>none
  |_=>none
 |_=>none
def St.kP (sz:Nat) (σ:St):List aj->Option (List (List C)×Bool×St)
 |[]=>some ([],true,σ)
 |v::vs=>match v.cells? with
  |some (_,cs)=>if cs.length=sz then
   match σ.ft cs with
   |some (e,o,σ1)=>match σ1.kP sz vs with
    |some (es,o',σ2)=>some (e::es,o&&o',σ2)
    |none=>none
   |none=>none
   else none
  |none=>none
def St.imp (m:Mode) (σ:St):Nat->List C->Option (List ai×Nat×St)
 |nm,[]=>some ([],nm,σ)
 |nm,.list sz xs::cs=>match σ.ins nm (.row true m sz xs) with
  |some σ1=>match σ1.imp m (nm+1) cs with
   |some (l,eY,σ2)=>some (.sl nm sz 0 xs.length::l,eY,σ2)
   |none=>none
  |none=>none
 |nm,x::cs=>match σ.imp m nm cs with
  |some (l,eY,σ2)=>some (.c x::l,eY,σ2)
  |none=>none
def St.jt (m:Mode) (σ:St):Nat->List Dv->Option (List (Bool×List ai)×St)
 |_,[]=>some ([],σ)
 |nm,(.ptr,_)::_=>none
 |nm,(k,cs)::ds=>match σ.imp m nm cs with
  |some (l,eY,σ1)=>match σ1.jt m eY ds with
   |some (ls,σ2)=>some ((decide (k=.agg),l)::ls,σ2)
   |none=>none
  |none=>none
def lN:List (Bool×List ai)->aj
 |[(ag,cs)]=>kQ ag cs
 |l=>.bn l
def y9 (d:Option Nat):Nat:=match d with|some n=>1000*(n+1)|none=>999
def gL:List Dv->Option (List (Bool×List ai))
 |[]=>some []
 |(.ptr,_)::_=>none
 |(k,cs)::ds=>match gL ds with
  |some ls=>some ((decide (k=.agg),cs.map .c)::ls)
  |none=>none
def t9 (T:bj) (f:FuncId) (as:List aj) (h:Nat->Option ar):Option aj:=
 match kj h as with
 |some ds=>match bj.find T.pure f with
  |some M=>match M ds with
   |some rs=>match gL rs with
    |some ls=>some (lN ls)
    |none=>none
   |none=>none
  |none=>none
 |none=>none
def qR (T:bj) (m:Mode) (d:Option Nat) (f:FuncId) (as:List aj) (σ:St):Option St:=
 match kj σ.h as with
 |some ds=>match bj.find T.pure f with
  |some M=>match M ds with
   |some rs=>match σ.jt m (y9 d) rs with
    |some (ls,σ1)=>some (σ1.put d (lN ls))
    |none=>none
   |none=>none
  |none=>none
 |none=>none
def uR:ai->Option C
 |.c x=>some x
 |.nil sz=>if 0<sz then some (.list sz []) else none
 |_=>none
def mf:List ai->Option (List C)
 |[]=>some []
 |c::cs=>match uR c,mf cs with
  |some x,some xs=>some (x::xs)
  |_,_=>none
def mG (h:Nat->Option ar):aj->Option (Nat×List C)
 |.one (.ptr n k _ off)=>if k=0/\off=0 then match h n with
  |some (.box cs)=>match mf cs with
   |some xs=>some (n,xs)
   |none=>none
  |_=>none
  else none
 |_=>none
def St.hH (σ:St):List aj->Option (List Dv×List Nat×St)
 |[]=>some ([],[],σ)
 |v::vs=>match mG σ.h v with
  |some (n,xs)=>match σ.hH vs with
   |some (ds,ns,σ1)=>some ((.ptr,xs)::ds,n::ns,σ1)
   |none=>none
  |none=>match v.cells? with
   |some (ag,cs)=>match σ.ft cs with
    |some (xs,_,σ1)=>match σ1.hH vs with
     |some (ds,ns,σ2)=>some ((if ag=true then .agg else .one,xs)::ds,ns,σ2)
     |none=>none
    |none=>none
   |none=>none
def St.rJ (σ:St):List Nat->List C->Option St
 |[],[]=>some σ
 |[n],out=>match σ.h n with
  |some (.box cs)=>if cs.length=out.length then some (σ.dc n (.box (out.map .c))) else none
  |_=>none
 |_,_=>none
def qN (σ:St) (d:Option Nat):List Dv->Option St
 |[(.ptr,cs)]=>match d with
  |some q=>match σ.ins q (.box (cs.map .c)) with
   |some σ1=>some (σ1.put d (.one (.ptr q 0 0 0)))
   |none=>none
  |none=>none
 |rs=>match gL rs with
  |some ls=>some (σ.put d (lN ls))
  |none=>none
def sj (T:bj) (d:Option Nat) (f:FuncId) (as:List aj) (σ:St):Option St:=
 match σ.hH as,bj.nI T.vs f with
 |some (ds,ns,σ1),some M=>match M ds with
  |some (rs,out)=>match σ1.rJ ns out with
   |some σ2=>qN σ2 d rs
   |none=>none
  |none=>none
 |_,_=>none
def C.si:C->Bool
 |.list _ xs=>fN xs
 |_=>true
def C.qc:C->Bool
 |.list ..=>true
 |_=>false
def sq:Mode->List (List C)->Bool
 |.ab,xs=>fN xs
 |.live,xs=>xs.all fun e=>e.all C.si
 |.aA,_=>false
inductive cZ where
 |nil (sz:Nat)
 |row (n:Nat)
 |nest (n k off:Nat)
def y6 (h:Nat->Option ar) (md:Mode):ai->Option (cZ×C)
 |.nil sz=>if 0<sz/\md≠ .aA then some (.nil sz,.list sz []) else none
 |.sl n sz lo len=>match h n with
  |some (.row _ m rs xs)=>if m≠ .aA/\(md=.live->m=.live)/\rs=sz/\lo=0/\len=xs.length/\sq md xs=true then some (.row n,.list sz xs) else none
  |_=>none
 |.bx n k az off sz len=>match h n with
  |some (.row _ .live rs xs)=>if rs=az/\md=.ab then
   match(xs[k]?).bind (·[off]?) with
   |some (.list s ys)=>if fN ys=true then some (.nest n k off,.list s ys) else none
   |_=>none
   else none
  |_=>none
 |_=>none
def cZ.dE:cZ->Option Nat
 |.nil _=>none
 |.row n=>some n
 |.nest n _ _=>some n
def ai.dE:ai->Option Nat
 |.sl n _ _ _=>some n
 |.bx n _ _ _ _ _=>some n
 |_=>none
def tx:List (Option Mode)->List ai->List Nat
 |some _::fs,c::cs=>c.dE.toList++tx fs cs
 |none::fs,_::cs=>tx fs cs
 |_,_=>[]
def mz (h h0:Nat->Option ar):List (Option Mode)->List ai->Option (List C×List (cZ×Mode))
 |[],cs=>match gx h0 cs with
  |some xs=>some (xs,[])
  |none=>none
 |none::fs,c::cs=>match bR h0 c,mz h h0 fs cs with
  |some x,some (xs,its)=>some (x::xs,its)
  |_,_=>none
 |some md::fs,c::cs=>match y6 h md c,mz h h0 fs cs with
  |some (it,x),some (xs,its)=>some (x::xs,(it,md)::its)
  |_,_=>none
 |_::_,[]=>none
def n6:be->List (Bool×List ai)->List Nat
 |s::sig,a::as=>tx s a.2++n6 sig as
 |_,_=>[]
def be.hd:be->List (Option Mode)
 |[]=>[]
 |s::_=>s
def be.tl:be->be
 |[]=>[]
 |_::sig=>sig
def oW (h h0:Nat->Option ar):be->List (Bool×List ai)->Option (List Dv×List (cZ×Mode))
 |_,[]=>some ([],[])
 |sig,(ag,cs)::as=>match mz h h0 (be.hd sig) cs,oW h h0 (be.tl sig) as with
  |some (xs,its),some (ds,uS)=>some ((if ag=true then(.agg,xs) else(.one,xs))::ds,its++uS)
  |_,_=>none
def wX:List aj->Option (List (Bool×List ai))
 |[]=>some []
 |v::vs=>match v.cells?,wX vs with
  |some x,some xs=>some (x::xs)
  |_,_=>none
def eF (h:Nat->Option ar) (ns:List Nat):Nat->Option ar:=fun n=>if ns.contains n=true then none else h n
def St.nd (σ:St):cZ->C->Option St
 |.nil _,_=>some σ
 |.row n,.list sz xs=>match σ.h n with
  |some (.row gr m rs _)=>if rs=sz then some (σ.dc n (.row gr m rs xs)) else none
  |_=>none
 |.nest n k off,x=>match σ.h n with
  |some (.row gr m rs xs)=>match xs[k]? with
   |some e=>some (σ.dc n (.row gr m rs (xs.set k (e.set off x))))
   |none=>none
  |_=>none
 |_,_=>none
def St.o9 (σ:St):List (cZ×Mode)->List C->Option St
 |[],[]=>some σ
 |it::its,x::xs=>match σ.nd it.1 x with
  |some σ1=>σ1.o9 its xs
  |none=>none
 |_,_=>none
def ue (T:bj) (m:Mode) (d:Option Nat) (f:FuncId) (as:List aj) (σ:St):Option St:=
 match bj.qV T.BW f,wX as with
 |some (sig,M),some fu=>
  if(n6 sig fu).Nodup then
   match oW σ.h (eF σ.h (n6 sig fu)) sig fu with
   |some (ds,its)=>match M ds with
    |some (rs,ew)=>match σ.o9 its ew with
     |some σ1=>match σ1.jt m (y9 d) rs with
      |some (ls,σ2)=>some (σ2.put d (lN ls))
      |none=>none
     |none=>none
    |none=>none
   |none=>none
  else none
 |_,_=>none
def z6 (op:BinOp) (k:IntKind) (a b:Int):Option C:=
 match op with
 |.add=>some (.int k (k.wrap (a+b)))
 |.sub=>some (.int k (k.wrap (a - b)))
 |.mul=>some (.int k (k.wrap (a*b)))
 |.quo=>if b=0 then none else some (.int k (k.wrap (a.tdiv b)))
 |.rem=>if b=0 then none else some (.int k (a.tmod b))
 |.and=>some (.int k (bits .and k a b))
 |.or=>some (.int k (bits .or k a b))
 |.xor=>some (.int k (bits .xor k a b))
 |.eql=>some (.bool (a==b))
 |.neq=>some (.bool (a !=b))
 |.lss=>some (.bool (decide (a<b)))
 |.leq=>some (.bool (decide (a<=b)))
 |.gtr=>some (.bool (decide (b<a)))
 |.geq=>some (.bool (decide (b<=a)))
 |_=>none
def Ff (op:BinOp) (k:IntKind) (a b:Int):Option C:=
 if b<0 then none else
 match op with
 |.shl=>some (.int k (k.wrap (a*2^(min b.toNat k.bits))))
 |.shr=>some (.int k (a/(2^(min b.toNat k.bits))))
 |_=>none
def BinOp.yW:BinOp->Bool
 |.shl|.shr=>true
 |_=>false
def vQ (op:BinOp):aj->aj->Option C
 |.one (.c (.int k a)),.one (.c (.int k' b))=>if BinOp.yW op=true then Ff op k a b else if k=k' then z6 op k a b else none
 |_,_=>none
def z5 (op:BinOp):aj->aj->Option C
 |.one (.c (.bool a)),.one (.c (.bool b))=>match op with
  |.eql=>some (.bool (a==b))
  |.neq=>some (.bool (a !=b))
  |_=>none
 |_,_=>none
def CE (op:UnOp):aj->Option C
 |.one (.c (.bool a))=>match op with
  |.not=>some (.bool (!a))
  |_=>none
 |.one (.c (.int k a))=>match op with
  |.neg=>some (.int k (k.wrap (0 - a)))
  |_=>none
 |_=>none
def aj.cY:aj->Option Int
 |.one (.c (.int _ n))=>some n
 |_=>none
def dK:Nat:=140737488355328
def pg (ev:MO->aj):List ai->List (Nat×Nat×MO)->Option (List ai)
 |zs,[]=>some zs
 |zs,(off,sz,x)::ps=>match(ev x).cells? with
  |some (_,cs)=>if cs.length=sz/\off+sz<=zs.length then pg ev (bS zs off cs) ps else none
  |none=>none
def mD (σ:St) (n:Nat) (gr:Bool) (m:Mode) (rs:Nat) (xs:List (List C)) (k off:Nat) (e:List C) (vs:List ai):Option St:=
 match sub e off vs.length with
 |none=>none
 |some eZ=>match σ.ft vs with
  |none=>none
  |some (cs,o,σ1)=>
   if m=.live then
    if fe cs=true/\fe eZ=true/\(σ1.h n).isSome=true then some (σ1.dc n (.row gr m rs (xs.set k (bS e off cs)))) else none
   else if(σ1.h n).isSome=true then
    some (σ1.dc n (.row gr (if o=true then m else .aA) rs (xs.set k (bS e off cs))))
   else none
def lf:List ai->Option (List C)
 |[]=>some []
 |.c x::l=>if x.d7=true then(lf l).map (x::·) else none
 |_::_=>none
def vg (xs:List (List C)) (k off s i:Nat) (vs:List ai):Option (List (List C)):=
 match(xs[k]?).bind (·[off]?) with
 |some (.list s' ys)=>if s'=s/\vs.length=s/\i<ys.length/\fN ys=true then(lf vs).map fun cs=>xs.set k ((xs.getD k []).set off (.list s' (ys.set i cs))) else none
 |_=>none
def pt (σ:St) (sz:Nat):aj->Option (List (List C)×Mode×St)
 |.one (.nil _)=>some ([],.ab,σ)
 |.one (.sl a s 0 len)=>match σ.h a with
  |some (.row true m rs xs)=>if rs=sz/\s=sz/\len=xs.length then some (xs,m,σ.del a) else none
  |_=>none
 |_=>none
def la (fl:Bool) (σ1:St) (sz:Nat) (m:Mode):aj->Option (List (List C)×Mode×St)
  |.one (.nil _)=>some ([],m,σ1)
  |.one (.c (.list s ys))=>if s=sz then(if(fl&&fN ys)=true then some (ys,m,σ1) else if m=.live then none else some (ys,.aA,σ1)) else none
  |.one (.sl b s lo len)=>match σ1.h b with
   |some (.row _ m' rs ys)=>if rs=sz/\s=sz/\lo+len<=ys.length then
       (if(fl&&fN ((ys.drop lo).take len))=true then some ((ys.drop lo).take len,m,σ1)
        else if lo=0/\len=ys.length then(if m=m' then some (ys,m,σ1.del b) else if m=.live\/m'=.live then none else some (ys,.aA,σ1.del b)) else none)
    else none
   |_=>none
  |_=>none
def ai.EU:ai->Bool
 |.bh=>false
 |_=>true
def kM (bE:Bool) (n:Int) (c:ai):List ai:=if bE=true then[.c (.int .i64 n),.c (.int .i64 1),c] else[.c (.int .i64 1),.c (.int .i64 n),c]
def aG (T:bj) (d:Option Nat) (op:aC) (σ:St):Option St:=
 match op with
 |.mv x=>some (σ.put d (σ.ev x))
 |.pick c x y=>match σ.ev c with
  |.one (.c (.bool b))=>if b=true then some (σ.put d (σ.ev x)) else some (σ.put d (σ.ev y))
  |_=>none
 |.alloc zs=>match d with
  |some n=>match σ.ins n (.box zs) with
   |some σ1=>some (σ1.put d (.one (.ptr n 0 0 0)))
   |none=>none
  |none=>none
 |.box sz x=>match d,(σ.ev x).cells? with
  |some n,some (_,cs)=>if cs.length=sz then
   match σ.ins n (.box cs) with
   |some σ1=>some (σ1.put d (.one (.ptr n 0 0 0)))
   |none=>none
   else none
  |_,_=>none
 |.build zs parts=>match pg σ.ev zs parts with
  |some cs=>some (σ.put d (.agg cs))
  |none=>none
 |.dM sz parts=>match d,σ.kP sz (parts.map σ.ev) with
  |some n,some (es,o,σ1)=>match σ1.ins n (.row true (if o=true then .ab else .aA) sz es) with
   |some σ2=>some (σ2.put d (.one (.sl n sz 0 es.length)))
   |none=>none
  |_,_=>none
 |.load ag sz x=>match σ.ev x with
  |.one p=>match loadAt σ.h p sz with
   |some cs=>some (σ.put d (kQ ag cs))
   |none=>none
  |_=>none
 |.mw ag sz x=>match σ.ev x with
  |.one p=>match σ.pH p with
   |some σ1=>match loadAt σ1.h p sz with
    |some cs=>some (σ1.put d (kQ ag cs))
    |none=>none
   |none=>none
  |_=>none
 |.store sz x v=>match σ.ev x,(σ.ev v).cells? with
  |.one (.ptr n k az off),some (_,vs)=>if vs.length=sz then
   match σ.h n with
   |some (.box cs)=>if k=0/\off+sz<=cs.length then some (σ.dc n (.box (bS cs off vs))) else none
   |some (.row gr m rs xs)=>if az=rs then
    match xs[k]? with
    |some e=>mD σ n gr m rs xs k off e vs
    |none=>none
    else none
   |none=>none
   else none
  |.one (.cD n k az off s i),some (_,vs)=>if vs.length=sz then
   match σ.h n with
   |some (.row gr .live rs xs)=>if az=rs then
    match vg xs k off s i vs with
    |some av=>some (σ.dc n (.row gr .live rs av))
    |none=>none
    else none
   |_=>none
   else none
  |_,_=>none
 |.gv x=>match σ.ev x with
  |.one (.ptr n k sz off)=>if(σ.h n).isSome=true then some (σ.put d (.one (.ptr n k sz off))) else none
  |.one (.ca xs off)=>some (σ.put d (.one (.ca xs off)))
  |_=>none
 |.bin op x y=>match vQ op (σ.ev x) (σ.ev y) with
  |some c=>some (σ.put d (.one (.c c)))
  |none=>none
 |.nB op x y=>match z5 op (σ.ev x) (σ.ev y) with
  |some c=>some (σ.put d (.one (.c c)))
  |none=>none
 |.un op x=>match CE op (σ.ev x) with
  |some c=>some (σ.put d (.one (.c c)))
  |none=>none
 |.conv k x=>match σ.ev x with
  |.one (.c (.int _ n))=>some (σ.put d (.one (.c (.int k (k.wrap n)))))
  |_=>none
 |.nb m sz by_ zs l c=>match d,(σ.ev l).cY,(σ.ev c).cY with
  |some n,some a,some b=>if a<=b/\0<=a/\b.toNat*by_<=dK/\zs.length=sz then
   match σ.ins n (.row true m sz (List.replicate a.toNat zs)) with
   |some σ1=>some (σ1.put d (.one (.sl n sz 0 a.toNat)))
   |none=>none
   else none
  |_,_,_=>none
 |.slice sz x lo hi=>
  let Qs:Option Int:=match lo with|none=>some 0|some l=>(σ.ev l).cY
  match σ.ev x,Qs with
  |.one (.sl n s l0 len),some l=>
   match(match hi with|none=>some (len:Int)|some h=>(σ.ev h).cY) with
   |some h=>if s=sz/\0<=l/\l<=h/\h<=len/\(σ.h n).isSome=true then some (σ.put d (.one (.sl n s (l0+l.toNat) (h - l).toNat))) else none
   |none=>none
  |.one (.c (.list s xs)),some l=>
   match(match hi with|none=>some (xs.length:Int)|some h=>(σ.ev h).cY) with
   |some h=>if s=sz/\0<=l/\l<=h/\h<=xs.length then some (σ.put d (.one (.c (.list s ((xs.drop l.toNat).take (h - l).toNat))))) else none
   |none=>none
  |_,_=>none
 |.tail sz x lo=>match d,σ.ev x,(σ.ev lo).cY with
  |some n,.one (.sl a s 0 len),some l=>match σ.h a with
   |some (.row true m rs xs)=>if rs=sz/\s=sz/\len=xs.length/\0<=l/\l<=len then
    match(σ.del a).ins n (.row true m sz (xs.drop l.toNat)) with
    |some σ1=>some (σ1.put d (.one (.sl n sz 0 (xs.length - l.toNat))))
    |none=>none
    else none
   |_=>none
  |_,_,_=>none
 |.aq off x=>match σ.ev x with
  |.one (.ptr n k sz o)=>if(σ.h n).isSome=true then some (σ.put d (.one (.ptr n k sz (o+off)))) else none
  |.one (.ca xs o)=>some (σ.put d (.one (.ca xs (o+off))))
  |_=>none
 |.bY sz x i=>match σ.ev x,(σ.ev i).cY with
  |.one (.sl n s lo len),some k=>if s=sz/\0<=k/\k<len/\(σ.h n).isSome=true then some (σ.put d (.one (.ptr n (lo+k.toNat) s 0))) else none
  |.one (.c (.list s xs)),some k=>if s=sz/\0<=k then
   match xs[k.toNat]? with
   |some e=>some (σ.put d (.one (.ca e 0)))
   |none=>none
   else none
  |.one (.bx n kk az off s len),some k=>match bR σ.h (.bx n kk az off s len) with
   |some (.list s' ys)=>if s'=sz/\0<=k/\k<ys.length then some (σ.put d (.one (.cD n kk az off sz k.toNat))) else none
   |_=>none
  |_,_=>none
 |.ext i x=>match σ.ev x with
  |.bn xs=>match xs[i]? with
   |some (ag,cs)=>some (σ.put d (kQ ag cs))
   |none=>none
  |_=>none
 |.lp ag off sz x=>match σ.ev x with
  |.agg cs=>match sub cs off sz with
   |some l=>some (σ.put d (kQ ag l))
   |none=>none
  |_=>none
 |.lO f bE x=>match σ.ev x with
  |.one (.sl n sz lo len)=>if(σ.h n).isSome=true then some (σ.put d (.agg (kM bE len (.sl n sz lo len)))) else none
  |.one (.c (.list sz xs))=>some (σ.put d (.agg (kM bE xs.length (.c (.list sz xs)))))
  |.one (.nil sz)=>some (σ.put d (.agg (kM bE 0 (.nil sz))))
  |_=>none
 |.len x=>match σ.ev x with
  |.one (.sl n sz lo len)=>if(σ.h n).isSome=true then some (σ.put d (.one (.c (.int .i64 len)))) else none
  |.one (.c (.list sz xs))=>some (σ.put d (.one (.c (.int .i64 xs.length))))
  |.one (.nil sz)=>some (σ.put d (.one (.c (.int .i64 0))))
  |.one (.bx n k az off sz len)=>match bR σ.h (.bx n k az off sz len) with
   |some (.list s ys)=>some (σ.put d (.one (.c (.int .i64 ys.length))))
   |_=>none
  |_=>none
 |.append fl sz by_ x y=>match d with
  |none=>none
  |some n=>match pt σ sz (σ.ev x) with
   |none=>none
   |some (xs,m,σ1)=>match la fl σ1 sz m (σ.ev y) with
    |none=>none
    |some (ys,m2,σ2)=>
     if(xs.length+ys.length)*by_<=dK then
      match σ2.ins n (.row true m2 sz (xs++ys)) with
      |some gz=>some (gz.put d (.one (.sl n sz 0 (xs.length+ys.length))))
      |none=>none
     else none
 |.copy sz x y=>match σ.ev x,σ.ev y with
  |.one (.sl n s lo len),.one c=>match σ.h n,bR σ.h c with
   |some (.row gr m rs xs),some (.list s' ys)=>if sz=1/\s=1/\rs=1/\s'=1/\m≠ .aA/\fN xs=true/\fN ys=true/\lo+len<=xs.length then
    some ((σ.dc n (.row gr m 1 (bS xs lo (ys.take len)))).put d (.one (.c (.int .i64 (Nat.min ys.length len:Nat))))) else none
   |_,_=>none
  |_,_=>none
 |.kt z x=>match σ.ev x with
  |.one (.sl n s lo len)=>match σ.h n with
   |some (.row gr m rs xs)=>if s=1/\rs=1/\z.d7=true/\m≠ .aA/\fN xs=true/\lo+len<=xs.length then
    some ((σ.dc n (.row gr m 1 (bS xs lo (List.replicate len [z])))).put d (.bn [])) else none
   |_=>none
  |_=>none
 |.mm mx x y=>match σ.ev x,σ.ev y with
  |.one (.c (.int k a)),.one (.c (.int k' b))=>if mx=true then(if a<b then some (σ.put d (.one (.c (.int k b)))) else some (σ.put d (.one (.c (.int k a)))))
   else(if b<a then some (σ.put d (.one (.c (.int k b)))) else some (σ.put d (.one (.c (.int k a)))))
  |_,_=>none
 |.call m f xs=>qR T m d f (xs.map σ.ev) σ
 |.lS f xs=>match t9 T f (xs.map σ.ev) σ.h with
  |some v=>some (σ.put d v)
  |none=>none
 |.oV f xs=>match(xs.map σ.ev).mapM (fun v=>match v with|.one c=>if c.kC=true then none else some c|_=>none) with
  |some cs=>if cs.all ai.EU=true then some (σ.put d (.one (.fn f cs))) else none
  |none=>none
 |.lT m x xs=>match σ.ev x with
  |.one (.fn f bW)=>qR T m d f (xs.map σ.ev++bW.map .one) σ
  |_=>none
 |.gI m f xs=>ue T m d f (xs.map σ.ev) σ
 |.dC f xs=>sj T d f (xs.map σ.ev) σ
def eC (T:bj) (o:bL) (σ:St):Option St:=
 match o.guard with
 |none=>aG T o.dst o.op σ
 |some (s,kl)=>match σ.env s with
  |.one (.c (.bool b))=>if b=kl then aG T o.dst o.op σ else some (σ.put o.dst (.bn []))
  |.bn []=>some (σ.put o.dst (.bn []))
  |_=>none
def nG (T:bj):List bL->St->Option St
 |[],σ=>some σ
 |o::os,σ=>match eC T o σ with
  |some σ'=>nG T os σ'
  |none=>none
def ai.e9 (ok:Nat->Bool):ai->ai
 |.ptr n k sz off=>if ok n=true then .ptr n k sz off else .bh
 |.sl n sz lo len=>if ok n=true then .sl n sz lo len else .bh
 |.bx n k az off sz len=>if ok n=true then .bx n k az off sz len else .bh
 |.cD n k az off sz i=>if ok n=true then .cD n k az off sz i else .bh
 |x=>x
def ai.cI (ok:Nat->Bool):ai->ai
 |.fn f bW=>.fn f (bW.map (·.e9 ok))
 |x=>x.e9 ok
def aj.cI (ok:Nat->Bool):aj->aj
 |.one c=>.one (c.cI ok)
 |.agg cs=>.agg (cs.map (·.cI ok))
 |.bn xs=>.bn (xs.map fun x=>(x.1,x.2.map (·.cI ok)))
def ar.cI (ok:Nat->Bool):ar->ar
 |.box cs=>.box (cs.map (·.cI ok))
 |b=>b
def vZ:Nat->aj:=fun _=>.one .bh
def An:Nat->Option ar:=fun _=>none
def WH:Nat->Bool:=fun _=>false
def u9 (ok:Nat->Bool) (env:Nat->aj):List Nat->(Nat->aj)
 |[]=>vZ
 |s::ss=>aw (u9 ok env ss) s ((env s).cI ok)
def qy (ok:Nat->Bool) (h:Nat->Option ar):List Nat->(Nat->Option ar)
 |[]=>An
 |s::ss=>if ok s=true then match h s with
  |some b=>aw (qy ok h ss) s (some (b.cI ok))
  |none=>qy ok h ss
  else qy ok h ss
def vb (ok:Nat->Bool):List Nat->(Nat->Bool)
 |[]=>WH
 |s::ss=>if ok s=true then aw (vb ok ss) s true else vb ok ss
def ai.xd (n:Nat):ai->Bool
 |.ptr m _ _ _=>m==n
 |.sl m _ _ _=>m==n
 |.bx m _ _ _ _ _=>m==n
 |.cD m _ _ _ _ _=>m==n
 |_=>false
def ai.gw (n:Nat):ai->Bool
 |.fn _ bW=>bW.any (·.xd n)
 |x=>x.xd n
def aj.gw (n:Nat):aj->Bool
 |.one c=>c.gw n
 |.agg cs=>cs.any (·.gw n)
 |.bn xs=>xs.any fun x=>x.2.any (·.gw n)
def St.iK (σ:St) (ke kh:List Nat):Nat->Bool:=fun n=>kh.contains n&&(σ.h n).isSome&&
 (Nat.ble aH n||ke.any (fun s=>(σ.env s).gw n)||kh.any fun k=>match σ.h k with|some (.box cs)=>cs.any (·.gw n)|_=>false)
def St.gY (σ:St) (ke kh:List Nat):St:=
 {env:=u9 (σ.iK ke kh) σ.env ke,h:=qy (σ.iK ke kh) σ.h kh,used:=fun n=>Nat.ble aH n||vb (σ.iK ke kh) kh n}
def nf (x c n:Nat):Nat:=if n=x then c else n
def ai.oe (x c:Nat):ai->ai
 |.ptr n k sz off=>.ptr (nf x c n) k sz off
 |.sl n sz lo len=>.sl (nf x c n) sz lo len
 |.bx n k az off sz len=>.bx (nf x c n) k az off sz len
 |.cD n k az off sz i=>.cD (nf x c n) k az off sz i
 |y=>y
def ai.aX (x c:Nat):ai->ai
 |.fn f bW=>.fn f (bW.map (·.oe x c))
 |y=>y.oe x c
def aj.aX (x c:Nat):aj->aj
 |.one y=>.one (y.aX x c)
 |.agg ys=>.agg (ys.map (·.aX x c))
 |.bn ys=>.bn (ys.map fun y=>(y.1,y.2.map (·.aX x c)))
def ar.aX (x c:Nat):ar->ar
 |.box cs=>.box (cs.map (·.aX x c))
 |b=>b
def St.aX (σ:St) (x c:Nat):Option St:=
 if x=c then some σ else if Nat.ble aH x=true then some σ else if σ.used c=true then none else
 some {env:=fun s=>(σ.env s).aX x c,h:=fun n=>if n=c then(σ.h x).map (·.aX x c) else if n=x then none else(σ.h n).map (·.aX x c),used:=fun n=>if n=c then σ.used x else if n=x then false else σ.used n}
def St.jC (σ:St) (c:Nat):Mode->St
 |.aA=>match σ.h c with
  |some (.row gr .ab rs xs)=>σ.dc c (.row gr .aA rs xs)
  |_=>σ
 |_=>σ
def St.canon (σ:St):Bool×Nat×Nat×Nat×Mode->Option St
 |(true,n,j,c,m)=>match σ.h n with
  |some (.box cs)=>match cs[j]? with
   |some (.sl a _ _ _)=>(σ.aX a c).map fun σ1=>σ1.jC c m
   |some (.nil sz)=>if 0<sz then match σ.ins c (.row true m sz []) with
    |some σ1=>some (σ1.dc n (.box (cs.set j (.sl c sz 0 0))))
    |none=>none
    else some σ
   |_=>some σ
  |_=>some σ
 |(false,n,j,c,m)=>match σ.env n with
  |.one (.sl a _ _ _)=>(σ.aX a c).map fun σ1=>σ1.jC c m
  |.one (.nil sz)=>if 0<sz then match σ.ins c (.row true m sz []) with
   |some σ1=>some (σ1.put (some n) (.one (.sl c sz 0 0)))
   |none=>none
   else some σ
  |_=>some σ
def St.sb (σ:St):List (Bool×Nat×Nat×Nat×Mode)->Option St
 |[]=>some σ
 |x::l=>match σ.canon x with
  |some σ1=>σ1.sb l
  |none=>none
def St.head (σ:St) (ke kh:List Nat) (cn:List (Bool×Nat×Nat×Nat×Mode)):Option St:=
 match((σ.gY ke kh).gY ke kh).sb cn with
 |some σ1=>some (σ1.gY ke kh)
 |none=>none
def aC.args:aC->List MO
 |.mv x|.box _ x|.load _ _ x|.mw _ _ x|.gv x|.un _ x|.conv _ x|.aq _ x|.ext _ x|.lp _ _ _ x|.lO _ _ x|.len x|.kt _ x=>[x]
 |.pick c x y=>[c,x,y]
 |.alloc _=>[]
 |.build _ ps=>ps.map (·.2.2)
 |.dM _ ps=>ps
 |.store _ x v=>[x,v]
 |.bin _ x y|.nB _ x y|.mm _ x y|.append _ _ _ x y|.copy _ x y|.bY _ x y|.tail _ x y=>[x,y]
 |.nb _ _ _ _ l c=>[l,c]
 |.slice _ x lo hi=>x::(lo.toList++hi.toList)
 |.call _ _ xs|.oV _ xs|.gI _ _ xs|.lS _ xs|.dC _ xs=>xs
 |.lT _ x xs=>x::xs
def aC.Et:aC->Bool
 |.call ..|.lT ..|.lS ..=>true
 |_=>false
def ai.rI:ai->List Nat
 |.ptr n _ _ _=>[n]
 |.sl n _ _ _=>[n]
 |.bx n _ _ _ _ _=>[n]
 |.cD n _ _ _ _ _=>[n]
 |_=>[]
def ai.nm:ai->List Nat
 |.fn _ bW=>bW.flatMap ai.rI
 |x=>x.rI
def aj.ga:aj->List Nat
 |.one c=>c.nm
 |.agg cs=>cs.flatMap ai.nm
 |.bn xs=>xs.flatMap fun x=>x.2.flatMap ai.nm
def z8 (h:Nat->Option ar) (l:List Nat):List Nat:=l.flatMap fun n=>match h n with
 |some (.box cs)=>cs.flatMap ai.nm
 |_=>[]
def aC.iJ (op:aC) (ev:MO->aj):List Nat:=op.args.flatMap fun x=>(ev x).ga
def aC.lM (op:aC) (ev:MO->aj) (h:Nat->Option ar):List Nat:=cond op.Et (op.iJ ev++z8 h (op.iJ ev)) (op.iJ ev)
def aC.jU (op:aC) (ev:MO->aj) (h:Nat->Option ar):Option (List Nat):=
 match op with
 |.store _ x v=>match ev x with
  |.one (.ptr n _ _ _)=>match h n with
   |some (.box _)=>some [n]
   |some (.row ..)=>some (n::(ev v).ga)
   |none=>none
  |.one (.cD n _ _ _ _ _)=>some [n]
  |_=>none
 |.dM _ ps=>some (ps.flatMap fun p=>(ev p).ga)
 |.dC _ xs=>some (xs.flatMap fun p=>(ev p).ga)
 |.append _ _ _ x y=>some ((ev x).ga++(ev y).ga)
 |.copy _ x _|.kt _ x=>match ev x with
  |.one (.sl n _ _ _)=>some [n]
  |_=>none
 |.gI ..|.tail ..|.mw ..=>none
 |_=>some []
abbrev FP:=List Nat×List Nat
def aC.fp (op:aC) (σ:St):Option FP:=(op.jU σ.ev σ.h).map fun w=>(op.lM σ.ev σ.h,w)
def De (f g:FP):Bool:=f.2.all (fun n=> !(g.1.contains n))&&g.2.all (fun n=> !(f.1.contains n))
def Df:Option FP->Option FP->Bool
 |some f,some g=>De f g
 |_,_=>false
def lV (o:bL) (e:Nat->aj):Option aC:=
 match o.guard with
 |none=>some o.op
 |some (s,kl)=>match e s with
  |.one (.c (.bool b))=>if b=kl then some o.op else some (.mv (.k (.bn [])))
  |.bn []=>some (.mv (.k (.bn [])))
  |_=>none
def bL.fp (o:bL) (σ:St):Option FP:=
 match lV o σ.env with
 |some op=>op.fp σ
 |none=>none
def xa (ps:List (Nat×Nat)) (fs:List (Option FP)):Bool:=ps.all fun p=>Df (fs.getD p.1 none) (fs.getD p.2 none)
def qU (T:bj):List bL->List (Option FP)->St->Option (List (Option FP)×St)
 |[],cL,σ=>some (cL,σ)
 |o::os,cL,σ=>match eC T o σ with
  |some σ1=>qU T os (cL++[o.fp σ]) σ1
  |none=>none
def aB:Nat:=2^64
def BQ:Nat->(St->Option vH)->St->Option vH
 |0,_,_=>none
 |n+1,f,σ=>match f σ with
  |some (.fD σ')=>BQ n f σ'
  |o=>o
def dI (T:bj):kY->St->Option vH
 |.skip,σ=>some (.fD σ)
 |.af _ ops,σ=>match nG T ops σ with
  |some σ'=>some (.fD σ')
  |none=>none
 |.od ps ops,σ=>match qU T ops [] σ with
  |some (fs,σ')=>cond (xa ps fs) (some (.fD σ')) none
  |none=>none
 |.seq a b,σ=>match dI T a σ with
  |some (.fD σ')=>dI T b σ'
  |o=>o
 |.cond c a b,σ=>match σ.ev c with
  |.one (.c (.bool t))=>if t=true then dI T a σ else dI T b σ
  |_=>none
 |.block id c,σ=>match dI T c σ with
  |some (.ext i σ')=>if i=id then some (.fD σ') else some (.ext i σ')
  |o=>o
 |.join ke kh cn c,σ=>match dI T c σ with
  |some (.fD σ')=>match σ'.head ke kh cn with
   |some σ1=>some (.fD σ1)
   |none=>none
  |o=>o
 |.loop id ke kh cn c,σ=>BQ aB (fun σ=>match σ.head ke kh cn with|some σ1=>dI T c σ1|none=>none) σ
 |.exit id,σ=>some (.ext id σ)
 |.ret,σ=>some (.ret σ)
end Go.Am
