/- Am3: the abstract machine's code and its evaluator. No condition. -/
import Derived.Test.YtifmggmhdcdgbaaAm2
set_option linter.unusedVariables false
namespace Go.Am
inductive MO where
 |t (n:Nat)
 |k (v:aj)
inductive aD where
 |mv (x:MO)
 |pick (c x y:MO)
 |alloc (zs:List ah)
 |box (sz:Nat) (x:MO)
 |build (zs:List ah) (parts:List (Nat×Nat×MO))
 |d8 (sz:Nat) (parts:List MO)
 |load (ag:Bool) (sz:Nat) (x:MO)
 |store (sz:Nat) (x v:MO)
 |oy (x:MO)
 |bin (op:BinOp) (x y:MO)
 |oO (op:BinOp) (x y:MO)
 |un (op:UnOp) (x:MO)
 |conv (k:IntKind) (x:MO)
 |kB (m:Mode) (sz by_:Nat) (zs:List C) (l c:MO)
 |slice (sz:Nat) (x:MO) (lo hi:Option MO)
 |tail (sz:Nat) (x lo:MO)
 |ak (off:Nat) (x:MO)
 |bT (sz:Nat) (x i:MO)
 |ext (i:Nat) (x:MO)
 |nf (ag:Bool) (off sz:Nat) (x:MO)
 |mU (f:FuncId) (bM:Bool) (x:MO)
 |len (x:MO)
 |append (fl:Bool) (sz by_:Nat) (x y:MO)
 |copy (sz:Nat) (x y:MO)
 |kN (z:C) (x:MO)
 |mm (mx:Bool) (x y:MO)
 |call (m:Mode) (f:FuncId) (xs:List MO)
 |mr (f:FuncId) (xs:List MO)
 |pt (f:FuncId) (xs:List MO)
 |mw (m:Mode) (x:MO) (xs:List MO)
 |e9 (m:Mode) (f:FuncId) (xs:List MO)
 |jv (f:FuncId) (xs:List MO)
structure bO where
 dst:Option Nat
 op:aD
 guard:Option (Nat×Bool)
inductive lz where
 |skip
 |ab (qR:Bool) (ops:List bO)
 |nF (ps:List (Nat×Nat)) (ops:List bO)
 |seq (a b:lz)
 |cond (c:MO) (a b:lz)
 |block (id:Nat) (c:lz)
 |join (ke kh:List Nat) (cn:List (Bool×Nat×Nat×Nat×Mode)) (c:lz)
 |loop (id:Nat) (ke kh:List Nat) (cn:List (Bool×Nat×Nat×Nat×Mode)) (c:lz)
 |exit (id:Nat)
 |ret
inductive K where
 |one|agg|ptr
 deriving DecidableEq
abbrev Dv:=K×List C
abbrev aW:=List (List (Option Mode))
structure bh where
 pure:List (FuncId×(List Dv->Option (List Dv)))
 AP:List (FuncId×aW×(List Dv->Option (List Dv×List C)))
 vs:List (FuncId×(List Dv->Option (List Dv×List C)))
def bh.qT:List (FuncId×aW×(List Dv->Option (List Dv×List C)))->FuncId->Option (aW×(List Dv->Option (List Dv×List C)))
 |[],_=>none
 |(g,M)::l,f=>if f=g then some M else bh.qT l f
def bh.nW:List (FuncId×(List Dv->Option (List Dv×List C)))->FuncId->Option (List Dv->Option (List Dv×List C))
 |[],_=>none
 |(g,M)::l,f=>if f=g then some M else bh.nW l f
def bh.find:List (FuncId×(List Dv->Option (List Dv)))->FuncId->Option (List Dv->Option (List Dv))
 |[],_=>none
 |(g,M)::l,f=>if f=g then some M else bh.find l f
inductive u9 where
 |fC (σ:St)
 |ext (id:Nat) (σ:St)
 |ret (σ:St)
def St.ev (σ:St):MO->aj
 |.t n=>σ.env n
 |.k v=>v
def St.put (σ:St) (d:Option Nat) (v:aj):St:=
 match d with
 |some n=>{σ with env:=av σ.env n v}
 |none=>σ
def St.ins (σ:St) (n:Nat) (b:aq):Option St:=
 if σ.used n=true then none else some {σ with h:=av σ.h n (some b),used:=av σ.used n true}
def St.dv (σ:St) (n:Nat) (b:aq):St:={σ with h:=av σ.h n (some b)}
def St.del (σ:St) (n:Nat):St:={σ with h:=av σ.h n none}
def aj.cells?:aj->Option (Bool×List ah)
 |.one .bj=>none
 |.one c=>some (false,[c])
 |.agg cs=>some (true,cs)
 |.bk _=>none
def mW:Bool->List ah->aj
 |true,cs=>.agg cs
 |false,[c]=>.one c
 |false,_=>.one .bj
def sub {α:Type} (l:List α) (off sz:Nat):Option (List α):=if off+sz<=l.length then some ((l.drop off).take sz) else none
def bV {α:Type} (l:List α) (off:Nat) (vs:List α):List α:=l.take off++vs++l.drop (off+vs.length)
def C.eD:C->Bool
 |.list ..=>false
 |_=>true
def fi (l:List C):Bool:=l.all C.eD
def fQ (l:List (List C)):Bool:=l.all fi
def gB (n k rs:Nat):Nat->List C->List ah
 |_,[]=>[]
 |off,.list sz ys::l=>.bt n k rs off sz ys.length::gB n k rs (off+1) l
 |off,x::l=>.c x::gB n k rs (off+1) l
def loadAt (h:Nat->Option aq) (p:ah) (sz:Nat):Option (List ah):=
 match p with
 |.ptr n k ax off=>
  match h n with
  |some (.box cs)=>if k=0 then sub cs off sz else none
  |some (.row _ m rs xs)=>
   if ax=rs then
    match xs[k]? with
    |some e=>match sub e off sz with
     |some l=>some (if m=.live then gB n k rs off l else l.map .c)
     |none=>none
    |none=>none
   else none
  |none=>none
 |.cf xs off=>(sub xs off sz).map (·.map .c)
 |_=>none
def bU (h:Nat->Option aq):ah->Option C
 |.c x=>some x
 |.nil sz=>if 0<sz then some (.list sz []) else none
 |.sl n sz lo len=>
  match h n with
  |some (.row _ _ rs xs)=>if rs=sz/\lo+len<=xs.length then some (.list sz ((xs.drop lo).take len)) else none
  |_=>none
 |.bt n k ax off sz len=>
  match h n with
  |some (.row _ .live rs xs)=>if rs=ax then(xs[k]?).bind (·[off]?) else none
  |_=>none
 |_=>none
def gE (h:Nat->Option aq):List ah->Option (List C)
 |[]=>some []
 |c::cs=>match bU h c,gE h cs with
  |some x,some xs=>some (x::xs)
  |_,_=>none
def ij (h:Nat->Option aq):aj->Option Dv
 |.one (.ptr n k sz off)=>
  match h n with
  |some (.box cs)=>if k=0/\off=0 then(gE h cs).map fun l=>(.ptr,l) else none
  |_=>none
 |.one (.cf xs off)=>if off=0 then some (.ptr,xs) else none
 |.one c=>(bU h c).map fun x=>(.one,[x])
 |.agg cs=>(gE h cs).map fun l=>(.agg,l)
 |.bk _=>none
def kJ (h:Nat->Option aq):List aj->Option (List Dv)
 |[]=>some []
 |c::cs=>match ij h c,kJ h cs with
  |some x,some xs=>some (x::xs)
  |_,_=>none
def St.fS (σ:St):ah->Option (C×Bool×St)
 |.c x=>some (x,x.eD,σ)
 |.nil sz=>if 0<sz then some (.list sz [],true,σ) else none
 |.sl n sz lo len=>
  match σ.h n with
  |some (.row _ m rs xs)=>if rs=sz/\lo=0/\len<=xs.length then some (.list sz (xs.take len),decide (m≠ .aF),σ.del n) else none
  |_=>none
 |_=>none
def St.gf (σ:St):List ah->Option (List C×Bool×St)
 |[]=>some ([],true,σ)
 |c::cs=>match σ.fS c with
  |some (x,o,σ1)=>match σ1.gf cs with
   |some (xs,o',σ2)=>some (x::xs,o&&o',σ2)
   |none=>none
  |none=>none
def St.lm (sz:Nat) (σ:St):List aj->Option (List (List C)×Bool×St)
 |[]=>some ([],true,σ)
 |v::vs=>match v.cells? with
  |some (_,cs)=>if cs.length=sz then
   match σ.gf cs with
   |some (e,o,σ1)=>match σ1.lm sz vs with
    |some (es,o',σ2)=>some (e::es,o&&o',σ2)
    |none=>none
   |none=>none
   else none
  |none=>none
def St.imp (m:Mode) (σ:St):Nat->List C->Option (List ah×Nat×St)
 |nm,[]=>some ([],nm,σ)
 |nm,.list sz xs::cs=>match σ.ins nm (.row true m sz xs) with
  |some σ1=>match σ1.imp m (nm+1) cs with
   |some (l,e7,σ2)=>some (.sl nm sz 0 xs.length::l,e7,σ2)
   |none=>none
  |none=>none
 |nm,x::cs=>match σ.imp m nm cs with
  |some (l,e7,σ2)=>some (.c x::l,e7,σ2)
  |none=>none
def St.jK (m:Mode) (σ:St):Nat->List Dv->Option (List (Bool×List ah)×St)
 |_,[]=>some ([],σ)
 |nm,(.ptr,_)::_=>none
 |nm,(k,cs)::ds=>match σ.imp m nm cs with
  |some (l,e7,σ1)=>match σ1.jK m e7 ds with
   |some (ls,σ2)=>some ((decide (k=.agg),l)::ls,σ2)
   |none=>none
  |none=>none
def me:List (Bool×List ah)->aj
 |[(ag,cs)]=>mW ag cs
 |l=>.bk l
def yq (d:Option Nat):Nat:=match d with|some n=>1000*(n+1)|none=>999
def gX:List Dv->Option (List (Bool×List ah))
 |[]=>some []
 |(.ptr,_)::_=>none
 |(k,cs)::ds=>match gX ds with
  |some ls=>some ((decide (k=.agg),cs.map .c)::ls)
  |none=>none
def tv (T:bh) (f:FuncId) (as:List aj) (h:Nat->Option aq):Option aj:=
 match kJ h as with
 |some ds=>match bh.find T.pure f with
  |some M=>match M ds with
   |some rs=>match gX rs with
    |some ls=>some (me ls)
    |none=>none
   |none=>none
  |none=>none
 |none=>none
def qQ (T:bh) (m:Mode) (d:Option Nat) (f:FuncId) (as:List aj) (σ:St):Option St:=
 match kJ σ.h as with
 |some ds=>match bh.find T.pure f with
  |some M=>match M ds with
   |some rs=>match σ.jK m (yq d) rs with
    |some (ls,σ1)=>some (σ1.put d (me ls))
    |none=>none
   |none=>none
  |none=>none
 |none=>none
def ul:ah->Option C
 |.c x=>some x
 |.nil sz=>if 0<sz then some (.list sz []) else none
 |_=>none
def mI:List ah->Option (List C)
 |[]=>some []
 |c::cs=>match ul c,mI cs with
  |some x,some xs=>some (x::xs)
  |_,_=>none
def m8 (h:Nat->Option aq):aj->Option (Nat×List C)
 |.one (.ptr n k _ off)=>if k=0/\off=0 then match h n with
  |some (.box cs)=>match mI cs with
   |some xs=>some (n,xs)
   |none=>none
  |_=>none
  else none
 |_=>none
def St.iu (σ:St):List aj->Option (List Dv×List Nat×St)
 |[]=>some ([],[],σ)
 |v::vs=>match m8 σ.h v with
  |some (n,xs)=>match σ.iu vs with
   |some (ds,ns,σ1)=>some ((.ptr,xs)::ds,n::ns,σ1)
   |none=>none
  |none=>match v.cells? with
   |some (ag,cs)=>match σ.gf cs with
    |some (xs,_,σ1)=>match σ1.iu vs with
     |some (ds,ns,σ2)=>some ((if ag=true then .agg else .one,xs)::ds,ns,σ2)
     |none=>none
    |none=>none
   |none=>none
def St.ry (σ:St):List Nat->List C->Option St
 |[],[]=>some σ
 |[n],out=>match σ.h n with
  |some (.box cs)=>if cs.length=out.length then some (σ.dv n (.box (out.map .c))) else none
  |_=>none
 |_,_=>none
def qM (σ:St) (d:Option Nat):List Dv->Option St
 |[(.ptr,cs)]=>match d with
  |some q=>match σ.ins q (.box (cs.map .c)) with
   |some σ1=>some (σ1.put d (.one (.ptr q 0 0 0)))
   |none=>none
  |none=>none
 |rs=>match gX rs with
  |some ls=>some (σ.put d (me ls))
  |none=>none
def r9 (T:bh) (d:Option Nat) (f:FuncId) (as:List aj) (σ:St):Option St:=
 match σ.iu as,bh.nW T.vs f with
 |some (ds,ns,σ1),some M=>match M ds with
  |some (rs,out)=>match σ1.ry ns out with
   |some σ2=>qM σ2 d rs
   |none=>none
  |none=>none
 |_,_=>none
def C.r8:C->Bool
 |.list _ xs=>fQ xs
 |_=>true
def C.qh:C->Bool
 |.list ..=>true
 |_=>false
def sd:Mode->List (List C)->Bool
 |.aa,xs=>fQ xs
 |.live,xs=>xs.all fun e=>e.all C.r8
 |.aF,_=>false
inductive de where
 |nil (sz:Nat)
 |row (n:Nat)
 |nest (n k off:Nat)
def yo (h:Nat->Option aq) (md:Mode):ah->Option (de×C)
 |.nil sz=>if 0<sz/\md≠ .aF then some (.nil sz,.list sz []) else none
 |.sl n sz lo len=>match h n with
  |some (.row _ m rs xs)=>if m≠ .aF/\(md=.live->m=.live)/\rs=sz/\lo=0/\len=xs.length/\sd md xs=true then some (.row n,.list sz xs) else none
  |_=>none
 |.bt n k ax off sz len=>match h n with
  |some (.row _ .live rs xs)=>if rs=ax/\md=.aa then
   match(xs[k]?).bind (·[off]?) with
   |some (.list s ys)=>if fQ ys=true then some (.nest n k off,.list s ys) else none
   |_=>none
   else none
  |_=>none
 |_=>none
def de.dF:de->Option Nat
 |.nil _=>none
 |.row n=>some n
 |.nest n _ _=>some n
def ah.dF:ah->Option Nat
 |.sl n _ _ _=>some n
 |.bt n _ _ _ _ _=>some n
 |_=>none
def sP:List (Option Mode)->List ah->List Nat
 |some _::fs,c::cs=>c.dF.toList++sP fs cs
 |none::fs,_::cs=>sP fs cs
 |_,_=>[]
def mP (h h0:Nat->Option aq):List (Option Mode)->List ah->Option (List C×List (de×Mode))
 |[],cs=>match gE h0 cs with
  |some xs=>some (xs,[])
  |none=>none
 |none::fs,c::cs=>match bU h0 c,mP h h0 fs cs with
  |some x,some (xs,its)=>some (x::xs,its)
  |_,_=>none
 |some md::fs,c::cs=>match yo h md c,mP h h0 fs cs with
  |some (it,x),some (xs,its)=>some (x::xs,(it,md)::its)
  |_,_=>none
 |_::_,[]=>none
def ox:aW->List (Bool×List ah)->List Nat
 |s::sig,a::as=>sP s a.2++ox sig as
 |_,_=>[]
def aW.hd:aW->List (Option Mode)
 |[]=>[]
 |s::_=>s
def aW.tl:aW->aW
 |[]=>[]
 |_::sig=>sig
def pu (h h0:Nat->Option aq):aW->List (Bool×List ah)->Option (List Dv×List (de×Mode))
 |_,[]=>some ([],[])
 |sig,(ag,cs)::as=>match mP h h0 (aW.hd sig) cs,pu h h0 (aW.tl sig) as with
  |some (xs,its),some (ds,uo)=>some ((if ag=true then(.agg,xs) else(.one,xs))::ds,its++uo)
  |_,_=>none
def wc:List aj->Option (List (Bool×List ah))
 |[]=>some []
 |v::vs=>match v.cells?,wc vs with
  |some x,some xs=>some (x::xs)
  |_,_=>none
def eP (h:Nat->Option aq) (ns:List Nat):Nat->Option aq:=fun n=>if ns.contains n=true then none else h n
def St.nD (σ:St):de->C->Option St
 |.nil _,_=>some σ
 |.row n,.list sz xs=>match σ.h n with
  |some (.row gr m rs _)=>if rs=sz then some (σ.dv n (.row gr m rs xs)) else none
  |_=>none
 |.nest n k off,x=>match σ.h n with
  |some (.row gr m rs xs)=>match xs[k]? with
   |some e=>some (σ.dv n (.row gr m rs (xs.set k (e.set off x))))
   |none=>none
  |_=>none
 |_,_=>none
def St.pB (σ:St):List (de×Mode)->List C->Option St
 |[],[]=>some σ
 |it::its,x::xs=>match σ.nD it.1 x with
  |some σ1=>σ1.pB its xs
  |none=>none
 |_,_=>none
def tz (T:bh) (m:Mode) (d:Option Nat) (f:FuncId) (as:List aj) (σ:St):Option St:=
 match bh.qT T.AP f,wc as with
 |some (sig,M),some fx=>
  if(ox sig fx).Nodup then
   match pu σ.h (eP σ.h (ox sig fx)) sig fx with
   |some (ds,its)=>match M ds with
    |some (rs,eJ)=>match σ.pB its eJ with
     |some σ1=>match σ1.jK m (yq d) rs with
      |some (ls,σ2)=>some (σ2.put d (me ls))
      |none=>none
     |none=>none
    |none=>none
   |none=>none
  else none
 |_,_=>none
def zl (op:BinOp) (k:IntKind) (a b:Int):Option C:=
 match op with
 |.add=>some (.int k (k.wrap (a+b)))
 |.sub=>some (.int k (k.wrap (a - b)))
 |.mul=>some (.int k (k.wrap (a*b)))
 |.quo=>if b=0 then none else some (.int k (k.wrap (a.tdiv b)))
 |.rem=>if b=0 then none else some (.int k (a.tmod b))
 |.and=>some (.int k (bits .and k a b))
 |.or=>some (.int k (bits .or k a b))
 |.xor=>some (.int k (bits .xor k a b))
 |.eql=>some (.bool (a==b))
 |.neq=>some (.bool (a !=b))
 |.lss=>some (.bool (decide (a<b)))
 |.leq=>some (.bool (decide (a<=b)))
 |.gtr=>some (.bool (decide (b<a)))
 |.geq=>some (.bool (decide (b<=a)))
 |_=>none
def DZ (op:BinOp) (k:IntKind) (a b:Int):Option C:=
 if b<0 then none else
 match op with
 |.shl=>some (.int k (k.wrap (a*2^(min b.toNat k.bits))))
 |.shr=>some (.int k (a/(2^(min b.toNat k.bits))))
 |_=>none
def BinOp.yb:BinOp->Bool
 |.shl|.shr=>true
 |_=>false
def vg (op:BinOp):aj->aj->Option C
 |.one (.c (.int k a)),.one (.c (.int k' b))=>if BinOp.yb op=true then DZ op k a b else if k=k' then zl op k a b else none
 |_,_=>none
def zk (op:BinOp):aj->aj->Option C
 |.one (.c (.bool a)),.one (.c (.bool b))=>match op with
  |.eql=>some (.bool (a==b))
  |.neq=>some (.bool (a !=b))
  |_=>none
 |_,_=>none
def BE (op:UnOp):aj->Option C
 |.one (.c (.bool a))=>match op with
  |.not=>some (.bool (!a))
  |_=>none
 |.one (.c (.int k a))=>match op with
  |.neg=>some (.int k (k.wrap (0 - a)))
  |_=>none
 |_=>none
def aj.dc:aj->Option Int
 |.one (.c (.int _ n))=>some n
 |_=>none
def eZ:Nat:=140737488355328
def pF (ev:MO->aj):List ah->List (Nat×Nat×MO)->Option (List ah)
 |zs,[]=>some zs
 |zs,(off,sz,x)::ps=>match(ev x).cells? with
  |some (_,cs)=>if cs.length=sz/\off+sz<=zs.length then pF ev (bV zs off cs) ps else none
  |none=>none
def mV (σ:St) (n:Nat) (gr:Bool) (m:Mode) (rs:Nat) (xs:List (List C)) (k off:Nat) (e:List C) (vs:List ah):Option St:=
 match sub e off vs.length with
 |none=>none
 |some f9=>match σ.gf vs with
  |none=>none
  |some (cs,o,σ1)=>
   if m=.live then
    if fi cs=true/\fi f9=true/\(σ1.h n).isSome=true then some (σ1.dv n (.row gr m rs (xs.set k (bV e off cs)))) else none
   else if(σ1.h n).isSome=true then
    some (σ1.dv n (.row gr (if o=true then m else .aF) rs (xs.set k (bV e off cs))))
   else none
def lF:List ah->Option (List C)
 |[]=>some []
 |.c x::l=>if x.eD=true then(lF l).map (x::·) else none
 |_::_=>none
def uK (xs:List (List C)) (k off s i:Nat) (vs:List ah):Option (List (List C)):=
 match(xs[k]?).bind (·[off]?) with
 |some (.list s' ys)=>if s'=s/\vs.length=s/\i<ys.length/\fQ ys=true then(lF vs).map fun cs=>xs.set k ((xs.getD k []).set off (.list s' (ys.set i cs))) else none
 |_=>none
def pJ (σ:St) (sz:Nat):aj->Option (List (List C)×Mode×St)
 |.one (.nil _)=>some ([],.aa,σ)
 |.one (.sl a s 0 len)=>match σ.h a with
  |some (.row true m rs xs)=>if rs=sz/\s=sz/\len=xs.length then some (xs,m,σ.del a) else none
  |_=>none
 |_=>none
def lB (fl:Bool) (σ1:St) (sz:Nat) (m:Mode):aj->Option (List (List C)×Mode×St)
  |.one (.nil _)=>some ([],m,σ1)
  |.one (.c (.list s ys))=>if s=sz then(if(fl&&fQ ys)=true then some (ys,m,σ1) else if m=.live then none else some (ys,.aF,σ1)) else none
  |.one (.sl b s lo len)=>match σ1.h b with
   |some (.row _ m' rs ys)=>if rs=sz/\s=sz/\lo+len<=ys.length then
       (if(fl&&fQ ((ys.drop lo).take len))=true then some ((ys.drop lo).take len,m,σ1)
        else if lo=0/\len=ys.length then(if m=m' then some (ys,m,σ1.del b) else if m=.live\/m'=.live then none else some (ys,.aF,σ1.del b)) else none)
    else none
   |_=>none
  |_=>none
def ah.DF:ah->Bool
 |.bj=>false
 |_=>true
def lf (bM:Bool) (n:Int) (c:ah):List ah:=if bM=true then[.c (.int .i64 n),.c (.int .i64 1),c] else[.c (.int .i64 1),.c (.int .i64 n),c]
def aJ (T:bh) (d:Option Nat) (op:aD) (σ:St):Option St:=
 match op with
 |.mv x=>some (σ.put d (σ.ev x))
 |.pick c x y=>match σ.ev c with
  |.one (.c (.bool b))=>if b=true then some (σ.put d (σ.ev x)) else some (σ.put d (σ.ev y))
  |_=>none
 |.alloc zs=>match d with
  |some n=>match σ.ins n (.box zs) with
   |some σ1=>some (σ1.put d (.one (.ptr n 0 0 0)))
   |none=>none
  |none=>none
 |.box sz x=>match d,(σ.ev x).cells? with
  |some n,some (_,cs)=>if cs.length=sz then
   match σ.ins n (.box cs) with
   |some σ1=>some (σ1.put d (.one (.ptr n 0 0 0)))
   |none=>none
   else none
  |_,_=>none
 |.build zs parts=>match pF σ.ev zs parts with
  |some cs=>some (σ.put d (.agg cs))
  |none=>none
 |.d8 sz parts=>match d,σ.lm sz (parts.map σ.ev) with
  |some n,some (es,o,σ1)=>match σ1.ins n (.row true (if o=true then .aa else .aF) sz es) with
   |some σ2=>some (σ2.put d (.one (.sl n sz 0 es.length)))
   |none=>none
  |_,_=>none
 |.load ag sz x=>match σ.ev x with
  |.one p=>match loadAt σ.h p sz with
   |some cs=>some (σ.put d (mW ag cs))
   |none=>none
  |_=>none
 |.store sz x v=>match σ.ev x,(σ.ev v).cells? with
  |.one (.ptr n k ax off),some (_,vs)=>if vs.length=sz then
   match σ.h n with
   |some (.box cs)=>if k=0/\off+sz<=cs.length then some (σ.dv n (.box (bV cs off vs))) else none
   |some (.row gr m rs xs)=>if ax=rs then
    match xs[k]? with
    |some e=>mV σ n gr m rs xs k off e vs
    |none=>none
    else none
   |none=>none
   else none
  |.one (.cB n k ax off s i),some (_,vs)=>if vs.length=sz then
   match σ.h n with
   |some (.row gr .live rs xs)=>if ax=rs then
    match uK xs k off s i vs with
    |some ar=>some (σ.dv n (.row gr .live rs ar))
    |none=>none
    else none
   |_=>none
   else none
  |_,_=>none
 |.oy x=>match σ.ev x with
  |.one (.ptr n k sz off)=>if(σ.h n).isSome=true then some (σ.put d (.one (.ptr n k sz off))) else none
  |.one (.cf xs off)=>some (σ.put d (.one (.cf xs off)))
  |_=>none
 |.bin op x y=>match vg op (σ.ev x) (σ.ev y) with
  |some c=>some (σ.put d (.one (.c c)))
  |none=>none
 |.oO op x y=>match zk op (σ.ev x) (σ.ev y) with
  |some c=>some (σ.put d (.one (.c c)))
  |none=>none
 |.un op x=>match BE op (σ.ev x) with
  |some c=>some (σ.put d (.one (.c c)))
  |none=>none
 |.conv k x=>match σ.ev x with
  |.one (.c (.int _ n))=>some (σ.put d (.one (.c (.int k (k.wrap n)))))
  |_=>none
 |.kB m sz by_ zs l c=>match d,(σ.ev l).dc,(σ.ev c).dc with
  |some n,some a,some b=>if a<=b/\0<=a/\b.toNat*by_<=eZ/\zs.length=sz then
   match σ.ins n (.row true m sz (List.replicate a.toNat zs)) with
   |some σ1=>some (σ1.put d (.one (.sl n sz 0 a.toNat)))
   |none=>none
   else none
  |_,_,_=>none
 |.slice sz x lo hi=>
  let Oc:Option Int:=match lo with|none=>some 0|some l=>(σ.ev l).dc
  match σ.ev x,Oc with
  |.one (.sl n s l0 len),some l=>
   match(match hi with|none=>some (len:Int)|some h=>(σ.ev h).dc) with
   |some h=>if s=sz/\0<=l/\l<=h/\h<=len/\(σ.h n).isSome=true then some (σ.put d (.one (.sl n s (l0+l.toNat) (h - l).toNat))) else none
   |none=>none
  |.one (.c (.list s xs)),some l=>
   match(match hi with|none=>some (xs.length:Int)|some h=>(σ.ev h).dc) with
   |some h=>if s=sz/\0<=l/\l<=h/\h<=xs.length then some (σ.put d (.one (.c (.list s ((xs.drop l.toNat).take (h - l).toNat))))) else none
   |none=>none
  |_,_=>none
 |.tail sz x lo=>match d,σ.ev x,(σ.ev lo).dc with
  |some n,.one (.sl a s 0 len),some l=>match σ.h a with
   |some (.row true m rs xs)=>if rs=sz/\s=sz/\len=xs.length/\0<=l/\l<=len then
    match(σ.del a).ins n (.row true m sz (xs.drop l.toNat)) with
    |some σ1=>some (σ1.put d (.one (.sl n sz 0 (xs.length - l.toNat))))
    |none=>none
    else none
   |_=>none
  |_,_,_=>none
 |.ak off x=>match σ.ev x with
  |.one (.ptr n k sz o)=>if(σ.h n).isSome=true then some (σ.put d (.one (.ptr n k sz (o+off)))) else none
  |.one (.cf xs o)=>some (σ.put d (.one (.cf xs (o+off))))
  |_=>none
 |.bT sz x i=>match σ.ev x,(σ.ev i).dc with
  |.one (.sl n s lo len),some k=>if s=sz/\0<=k/\k<len/\(σ.h n).isSome=true then some (σ.put d (.one (.ptr n (lo+k.toNat) s 0))) else none
  |.one (.c (.list s xs)),some k=>if s=sz/\0<=k then
   match xs[k.toNat]? with
   |some e=>some (σ.put d (.one (.cf e 0)))
   |none=>none
   else none
  |.one (.bt n kk ax off s len),some k=>match bU σ.h (.bt n kk ax off s len) with
   |some (.list s' ys)=>if s'=sz/\0<=k/\k<ys.length then some (σ.put d (.one (.cB n kk ax off sz k.toNat))) else none
   |_=>none
  |_,_=>none
 |.ext i x=>match σ.ev x with
  |.bk xs=>match xs[i]? with
   |some (ag,cs)=>some (σ.put d (mW ag cs))
   |none=>none
  |_=>none
 |.nf ag off sz x=>match σ.ev x with
  |.agg cs=>match sub cs off sz with
   |some l=>some (σ.put d (mW ag l))
   |none=>none
  |_=>none
 |.mU f bM x=>match σ.ev x with
  |.one (.sl n sz lo len)=>if(σ.h n).isSome=true then some (σ.put d (.agg (lf bM len (.sl n sz lo len)))) else none
  |.one (.c (.list sz xs))=>some (σ.put d (.agg (lf bM xs.length (.c (.list sz xs)))))
  |.one (.nil sz)=>some (σ.put d (.agg (lf bM 0 (.nil sz))))
  |_=>none
 |.len x=>match σ.ev x with
  |.one (.sl n sz lo len)=>if(σ.h n).isSome=true then some (σ.put d (.one (.c (.int .i64 len)))) else none
  |.one (.c (.list sz xs))=>some (σ.put d (.one (.c (.int .i64 xs.length))))
  |.one (.nil sz)=>some (σ.put d (.one (.c (.int .i64 0))))
  |.one (.bt n k ax off sz len)=>match bU σ.h (.bt n k ax off sz len) with
   |some (.list s ys)=>some (σ.put d (.one (.c (.int .i64 ys.length))))
   |_=>none
  |_=>none
 |.append fl sz by_ x y=>match d with
  |none=>none
  |some n=>match pJ σ sz (σ.ev x) with
   |none=>none
   |some (xs,m,σ1)=>match lB fl σ1 sz m (σ.ev y) with
    |none=>none
    |some (ys,m2,σ2)=>
     if(xs.length+ys.length)*by_<=eZ then
      match σ2.ins n (.row true m2 sz (xs++ys)) with
      |some gF=>some (gF.put d (.one (.sl n sz 0 (xs.length+ys.length))))
      |none=>none
     else none
 |.copy sz x y=>match σ.ev x,σ.ev y with
  |.one (.sl n s lo len),.one c=>match σ.h n,bU σ.h c with
   |some (.row gr m rs xs),some (.list s' ys)=>if sz=1/\s=1/\rs=1/\s'=1/\m≠ .aF/\fQ xs=true/\fQ ys=true/\lo+len<=xs.length then
    some ((σ.dv n (.row gr m 1 (bV xs lo (ys.take len)))).put d (.one (.c (.int .i64 (Nat.min ys.length len:Nat))))) else none
   |_,_=>none
  |_,_=>none
 |.kN z x=>match σ.ev x with
  |.one (.sl n s lo len)=>match σ.h n with
   |some (.row gr m rs xs)=>if s=1/\rs=1/\z.eD=true/\m≠ .aF/\fQ xs=true/\lo+len<=xs.length then
    some ((σ.dv n (.row gr m 1 (bV xs lo (List.replicate len [z])))).put d (.bk [])) else none
   |_=>none
  |_=>none
 |.mm mx x y=>match σ.ev x,σ.ev y with
  |.one (.c (.int k a)),.one (.c (.int k' b))=>if mx=true then(if a<b then some (σ.put d (.one (.c (.int k b)))) else some (σ.put d (.one (.c (.int k a)))))
   else(if b<a then some (σ.put d (.one (.c (.int k b)))) else some (σ.put d (.one (.c (.int k a)))))
  |_,_=>none
 |.call m f xs=>qQ T m d f (xs.map σ.ev) σ
 |.mr f xs=>match tv T f (xs.map σ.ev) σ.h with
  |some v=>some (σ.put d v)
  |none=>none
 |.pt f xs=>match(xs.map σ.ev).mapM (fun v=>match v with|.one c=>if c.kY=true then none else some c|_=>none) with
  |some cs=>if cs.all ah.DF=true then some (σ.put d (.one (.fn f cs))) else none
  |none=>none
 |.mw m x xs=>match σ.ev x with
  |.one (.fn f ca)=>qQ T m d f (xs.map σ.ev++ca.map .one) σ
  |_=>none
 |.e9 m f xs=>tz T m d f (xs.map σ.ev) σ
 |.jv f xs=>r9 T d f (xs.map σ.ev) σ
def eN (T:bh) (o:bO) (σ:St):Option St:=
 match o.guard with
 |none=>aJ T o.dst o.op σ
 |some (s,kK)=>match σ.env s with
  |.one (.c (.bool b))=>if b=kK then aJ T o.dst o.op σ else some (σ.put o.dst (.bk []))
  |.bk []=>some (σ.put o.dst (.bk []))
  |_=>none
def nU (T:bh):List bO->St->Option St
 |[],σ=>some σ
 |o::os,σ=>match eN T o σ with
  |some σ'=>nU T os σ'
  |none=>none
def ah.fa (ok:Nat->Bool):ah->ah
 |.ptr n k sz off=>if ok n=true then .ptr n k sz off else .bj
 |.sl n sz lo len=>if ok n=true then .sl n sz lo len else .bj
 |.bt n k ax off sz len=>if ok n=true then .bt n k ax off sz len else .bj
 |.cB n k ax off sz i=>if ok n=true then .cB n k ax off sz i else .bj
 |x=>x
def ah.cH (ok:Nat->Bool):ah->ah
 |.fn f ca=>.fn f (ca.map (·.fa ok))
 |x=>x.fa ok
def aj.cH (ok:Nat->Bool):aj->aj
 |.one c=>.one (c.cH ok)
 |.agg cs=>.agg (cs.map (·.cH ok))
 |.bk xs=>.bk (xs.map fun x=>(x.1,x.2.map (·.cH ok)))
def aq.cH (ok:Nat->Bool):aq->aq
 |.box cs=>.box (cs.map (·.cH ok))
 |b=>b
def vm:Nat->aj:=fun _=>.one .bj
def zC:Nat->Option aq:=fun _=>none
def UP:Nat->Bool:=fun _=>false
def uD (ok:Nat->Bool) (env:Nat->aj):List Nat->(Nat->aj)
 |[]=>vm
 |s::ss=>av (uD ok env ss) s ((env s).cH ok)
def qw (ok:Nat->Bool) (h:Nat->Option aq):List Nat->(Nat->Option aq)
 |[]=>zC
 |s::ss=>if ok s=true then match h s with
  |some b=>av (qw ok h ss) s (some (b.cH ok))
  |none=>qw ok h ss
  else qw ok h ss
def uE (ok:Nat->Bool):List Nat->(Nat->Bool)
 |[]=>UP
 |s::ss=>if ok s=true then av (uE ok ss) s true else uE ok ss
def ah.wv (n:Nat):ah->Bool
 |.ptr m _ _ _=>m==n
 |.sl m _ _ _=>m==n
 |.bt m _ _ _ _ _=>m==n
 |.cB m _ _ _ _ _=>m==n
 |_=>false
def ah.gD (n:Nat):ah->Bool
 |.fn _ ca=>ca.any (·.wv n)
 |x=>x.wv n
def aj.gD (n:Nat):aj->Bool
 |.one c=>c.gD n
 |.agg cs=>cs.any (·.gD n)
 |.bk xs=>xs.any fun x=>x.2.any (·.gD n)
def St.iT (σ:St) (ke kh:List Nat):Nat->Bool:=fun n=>kh.contains n&&(σ.h n).isSome&&
 (Nat.ble aI n||ke.any (fun s=>(σ.env s).gD n)||kh.any fun k=>match σ.h k with|some (.box cs)=>cs.any (·.gD n)|_=>false)
def St.ig (σ:St) (ke kh:List Nat):St:=
 {env:=uD (σ.iT ke kh) σ.env ke,h:=qw (σ.iT ke kh) σ.h kh,used:=fun n=>Nat.ble aI n||uE (σ.iT ke kh) kh n}
def nG (x c n:Nat):Nat:=if n=x then c else n
def ah.oC (x c:Nat):ah->ah
 |.ptr n k sz off=>.ptr (nG x c n) k sz off
 |.sl n sz lo len=>.sl (nG x c n) sz lo len
 |.bt n k ax off sz len=>.bt (nG x c n) k ax off sz len
 |.cB n k ax off sz i=>.cB (nG x c n) k ax off sz i
 |y=>y
def ah.aZ (x c:Nat):ah->ah
 |.fn f ca=>.fn f (ca.map (·.oC x c))
 |y=>y.oC x c
def aj.aZ (x c:Nat):aj->aj
 |.one y=>.one (y.aZ x c)
 |.agg ys=>.agg (ys.map (·.aZ x c))
 |.bk ys=>.bk (ys.map fun y=>(y.1,y.2.map (·.aZ x c)))
def aq.aZ (x c:Nat):aq->aq
 |.box cs=>.box (cs.map (·.aZ x c))
 |b=>b
def St.aZ (σ:St) (x c:Nat):Option St:=
 if x=c then some σ else if Nat.ble aI x=true then some σ else if σ.used c=true then none else
 some {env:=fun s=>(σ.env s).aZ x c,h:=fun n=>if n=c then(σ.h x).map (·.aZ x c) else if n=x then none else(σ.h n).map (·.aZ x c),used:=fun n=>if n=c then σ.used x else if n=x then false else σ.used n}
def St.jO (σ:St) (c:Nat):Mode->St
 |.aF=>match σ.h c with
  |some (.row gr .aa rs xs)=>σ.dv c (.row gr .aF rs xs)
  |_=>σ
 |_=>σ
def St.canon (σ:St):Bool×Nat×Nat×Nat×Mode->Option St
 |(true,n,j,c,m)=>match σ.h n with
  |some (.box cs)=>match cs[j]? with
   |some (.sl a _ _ _)=>(σ.aZ a c).map fun σ1=>σ1.jO c m
   |some (.nil sz)=>if 0<sz then match σ.ins c (.row true m sz []) with
    |some σ1=>some (σ1.dv n (.box (cs.set j (.sl c sz 0 0))))
    |none=>none
    else some σ
   |_=>some σ
  |_=>some σ
 |(false,n,j,c,m)=>match σ.env n with
  |.one (.sl a _ _ _)=>(σ.aZ a c).map fun σ1=>σ1.jO c m
  |.one (.nil sz)=>if 0<sz then match σ.ins c (.row true m sz []) with
   |some σ1=>some (σ1.put (some n) (.one (.sl c sz 0 0)))
   |none=>none
   else some σ
  |_=>some σ
def St.rY (σ:St):List (Bool×Nat×Nat×Nat×Mode)->Option St
 |[]=>some σ
 |x::l=>match σ.canon x with
  |some σ1=>σ1.rY l
  |none=>none
def St.head (σ:St) (ke kh:List Nat) (cn:List (Bool×Nat×Nat×Nat×Mode)):Option St:=
 match((σ.ig ke kh).ig ke kh).rY cn with
 |some σ1=>some (σ1.ig ke kh)
 |none=>none
def aD.args:aD->List MO
 |.mv x|.box _ x|.load _ _ x|.oy x|.un _ x|.conv _ x|.ak _ x|.ext _ x|.nf _ _ _ x|.mU _ _ x|.len x|.kN _ x=>[x]
 |.pick c x y=>[c,x,y]
 |.alloc _=>[]
 |.build _ ps=>ps.map (·.2.2)
 |.d8 _ ps=>ps
 |.store _ x v=>[x,v]
 |.bin _ x y|.oO _ x y|.mm _ x y|.append _ _ _ x y|.copy _ x y|.bT _ x y|.tail _ x y=>[x,y]
 |.kB _ _ _ _ l c=>[l,c]
 |.slice _ x lo hi=>x::(lo.toList++hi.toList)
 |.call _ _ xs|.pt _ xs|.e9 _ _ xs|.mr _ xs|.jv _ xs=>xs
 |.mw _ x xs=>x::xs
def aD.Dg:aD->Bool
 |.call ..|.mw ..|.mr ..=>true
 |_=>false
def ah.ru:ah->List Nat
 |.ptr n _ _ _=>[n]
 |.sl n _ _ _=>[n]
 |.bt n _ _ _ _ _=>[n]
 |.cB n _ _ _ _ _=>[n]
 |_=>[]
def ah.nm:ah->List Nat
 |.fn _ ca=>ca.flatMap ah.ru
 |x=>x.ru
def aj.gn:aj->List Nat
 |.one c=>c.nm
 |.agg cs=>cs.flatMap ah.nm
 |.bk xs=>xs.flatMap fun x=>x.2.flatMap ah.nm
def zn (h:Nat->Option aq) (l:List Nat):List Nat:=l.flatMap fun n=>match h n with
 |some (.box cs)=>cs.flatMap ah.nm
 |_=>[]
def aD.iS (op:aD) (ev:MO->aj):List Nat:=op.args.flatMap fun x=>(ev x).gn
def aD.mb (op:aD) (ev:MO->aj) (h:Nat->Option aq):List Nat:=cond op.Dg (op.iS ev++zn h (op.iS ev)) (op.iS ev)
def aD.kg (op:aD) (ev:MO->aj) (h:Nat->Option aq):Option (List Nat):=
 match op with
 |.store _ x v=>match ev x with
  |.one (.ptr n _ _ _)=>match h n with
   |some (.box _)=>some [n]
   |some (.row ..)=>some (n::(ev v).gn)
   |none=>none
  |.one (.cB n _ _ _ _ _)=>some [n]
  |_=>none
 |.d8 _ ps=>some (ps.flatMap fun p=>(ev p).gn)
 |.jv _ xs=>some (xs.flatMap fun p=>(ev p).gn)
 |.append _ _ _ x y=>some ((ev x).gn++(ev y).gn)
 |.copy _ x _|.kN _ x=>match ev x with
  |.one (.sl n _ _ _)=>some [n]
  |_=>none
 |.e9 ..|.tail ..=>none
 |_=>some []
abbrev FP:=List Nat×List Nat
def aD.fp (op:aD) (σ:St):Option FP:=(op.kg σ.ev σ.h).map fun w=>(op.mb σ.ev σ.h,w)
def B7 (f g:FP):Bool:=f.2.all (fun n=> !(g.1.contains n))&&g.2.all (fun n=> !(f.1.contains n))
def B8:Option FP->Option FP->Bool
 |some f,some g=>B7 f g
 |_,_=>false
def mA (o:bO) (e:Nat->aj):Option aD:=
 match o.guard with
 |none=>some o.op
 |some (s,kK)=>match e s with
  |.one (.c (.bool b))=>if b=kK then some o.op else some (.mv (.k (.bk [])))
  |.bk []=>some (.mv (.k (.bk [])))
  |_=>none
def bO.fp (o:bO) (σ:St):Option FP:=
 match mA o σ.env with
 |some op=>op.fp σ
 |none=>none
def wm (ps:List (Nat×Nat)) (fs:List (Option FP)):Bool:=ps.all fun p=>B8 (fs.getD p.1 none) (fs.getD p.2 none)
def qS (T:bh):List bO->List (Option FP)->St->Option (List (Option FP)×St)
 |[],cN,σ=>some (cN,σ)
 |o::os,cN,σ=>match eN T o σ with
  |some σ1=>qS T os (cN++[o.fp σ]) σ1
  |none=>none
def aA:Nat:=2^64
def AD:Nat->(St->Option u9)->St->Option u9
 |0,_,_=>none
 |n+1,f,σ=>match f σ with
  |some (.fC σ')=>AD n f σ'
  |o=>o
def dK (T:bh):lz->St->Option u9
 |.skip,σ=>some (.fC σ)
 |.ab _ ops,σ=>match nU T ops σ with
  |some σ'=>some (.fC σ')
  |none=>none
 |.nF ps ops,σ=>match qS T ops [] σ with
  |some (fs,σ')=>cond (wm ps fs) (some (.fC σ')) none
  |none=>none
 |.seq a b,σ=>match dK T a σ with
  |some (.fC σ')=>dK T b σ'
  |o=>o
 |.cond c a b,σ=>match σ.ev c with
  |.one (.c (.bool t))=>if t=true then dK T a σ else dK T b σ
  |_=>none
 |.block id c,σ=>match dK T c σ with
  |some (.ext i σ')=>if i=id then some (.fC σ') else some (.ext i σ')
  |o=>o
 |.join ke kh cn c,σ=>match dK T c σ with
  |some (.fC σ')=>match σ'.head ke kh cn with
   |some σ1=>some (.fC σ1)
   |none=>none
  |o=>o
 |.loop id ke kh cn c,σ=>AD aA (fun σ=>match σ.head ke kh cn with|some σ1=>dK T c σ1|none=>none) σ
 |.exit id,σ=>some (.ext id σ)
 |.ret,σ=>some (.ret σ)
end Go.Am
