/- Am3: the abstract machine's code and its evaluator. No condition. -/
import Derived.Test.YtbgmbplglejidaaAm2
set_option linter.unusedVariables false
namespace Go.Am
inductive MO where
 |t (n:Nat)
 |k (v:ak)
inductive aH where
 |mv (x:MO)
 |pick (c x y:MO)
 |alloc (zs:List aj)
 |box (sz:Nat) (x:MO)
 |build (zs:List aj) (parts:List (Nat×Nat×MO))
 |gd (sz:Nat) (parts:List MO)
 |load (ag:Bool) (sz:Nat) (x:MO)
 |oZ (ag:Bool) (sz:Nat) (x:MO)
 |store (sz:Nat) (x v:MO)
 |gZ (x:MO)
 |bin (op:BinOp) (x y:MO)
 |oJ (op:BinOp) (x y:MO)
 |un (op:UnOp) (x:MO)
 |conv (k:IntKind) (x:MO)
 |kF (m:Mode) (sz by_:Nat) (zs:List C) (l c:MO)
 |slice (sz:Nat) (x:MO) (lo hi:Option MO)
 |tail (sz:Nat) (x lo:MO)
 |aw (off:Nat) (x:MO)
 |cf (sz:Nat) (x i:MO)
 |ext (i:Nat) (x:MO)
 |pI (ag:Bool) (off sz:Nat) (x:MO)
 |pk (f:FuncId) (bQ:Bool) (x:MO)
 |len (x:MO)
 |append (fl:Bool) (sz by_:Nat) (x y:MO)
 |copy (sz:Nat) (x y:MO)
 |lE (z:C) (x:MO)
 |mm (mx:Bool) (x y:MO)
 |call (m:Mode) (f:FuncId) (xs:List MO)
 |mV (f:FuncId) (xs:List MO)
 |qe (f:FuncId) (xs:List MO)
 |mW (m:Mode) (x:MO) (xs:List MO)
 |fU (m:Mode) (f:FuncId) (xs:List MO)
 |dT (f:FuncId) (xs:List MO)
 |mX (f:FuncId) (xs:List MO)
 |mz (f:FuncId) (xs:List MO)
structure bV where
 dst:Option Nat
 op:aH
 guard:Option (Nat×Bool)
inductive mh where
 |skip
 |af (rU:Bool) (ops:List bV)
 |pi (ps:List (Nat×Nat)) (ops:List bV)
 |seq (a b:mh)
 |cond (c:MO) (a b:mh)
 |block (id:Nat) (c:mh)
 |join (ke kh:List Nat) (cn:List (Bool×Nat×Nat×Nat×Mode)) (c:mh)
 |loop (id:Nat) (ke kh:List Nat) (cn:List (Bool×Nat×Nat×Nat×Mode)) (c:mh)
 |exit (id:Nat)
 |ret
inductive K where
 |one|agg|ptr
 deriving DecidableEq
abbrev Dv:=K×List C
abbrev aQ:=List (List (Option Mode))
structure aT where
 pure:List (FuncId×(List Dv->Option (List Dv)))
 CY:List (FuncId×aQ×(List Dv->Option (List Dv×List C)))
 vs:List (FuncId×(List Dv->Option (List Dv×List C)))
 ws:List (FuncId×aQ×(List Dv->Option (Nat×Nat)))
def aT.rY:List (FuncId×aQ×(List Dv->Option (List Dv×List C)))->FuncId->Option (aQ×(List Dv->Option (List Dv×List C)))
 |[],_=>none
 |(g,M)::l,f=>if f=g then some M else aT.rY l f
def aT.rZ:List (FuncId×aQ×(List Dv->Option (Nat×Nat)))->FuncId->Option (aQ×(List Dv->Option (Nat×Nat)))
 |[],_=>none
 |(g,M)::l,f=>if f=g then some M else aT.rZ l f
def aT.kQ:List (FuncId×(List Dv->Option (List Dv×List C)))->FuncId->Option (List Dv->Option (List Dv×List C))
 |[],_=>none
 |(g,M)::l,f=>if f=g then some M else aT.kQ l f
def aT.find:List (FuncId×(List Dv->Option (List Dv)))->FuncId->Option (List Dv->Option (List Dv))
 |[],_=>none
 |(g,M)::l,f=>if f=g then some M else aT.find l f
inductive sW where
 |fR (σ:St)
 |ext (id:Nat) (σ:St)
 |ret (σ:St)
def St.ev (σ:St):MO->ak
 |.t n=>σ.env n
 |.k v=>v
def St.put (σ:St) (d:Option Nat) (v:ak):St:=
 match d with
 |some n=>{σ with env:=aA σ.env n v}
 |none=>σ
def St.ins (σ:St) (n:Nat) (b:ar):Option St:=
 if σ.used n=true then none else some {σ with h:=aA σ.h n (some b),used:=aA σ.used n true}
def St.dB (σ:St) (n:Nat) (b:ar):St:={σ with h:=aA σ.h n (some b)}
def St.del (σ:St) (n:Nat):St:={σ with h:=aA σ.h n none}
def ak.cells?:ak->Option (Bool×List aj)
 |.one .bq=>none
 |.one c=>some (false,[c])
 |.agg cs=>some (true,cs)
 |.br _=>none
def ma:Bool->List aj->ak
 |true,cs=>.agg cs
 |false,[c]=>.one c
 |false,_=>.one .bq
def sub {α:Type} (l:List α) (off sz:Nat):Option (List α):=if off+sz<=l.length then some ((l.drop off).take sz) else none
def cv {α:Type} (l:List α) (off:Nat) (vs:List α):List α:=l.take off++vs++l.drop (off+vs.length)
def C.eV:C->Bool
 |.list ..=>false
 |_=>true
def fK (l:List C):Bool:=l.all C.eV
def gv (l:List (List C)):Bool:=l.all fK
def gY (n k rs:Nat):Nat->List C->List aj
 |_,[]=>[]
 |off,.list sz ys::l=>.bE n k rs off sz ys.length::gY n k rs (off+1) l
 |off,x::l=>.c x::gY n k rs (off+1) l
def loadAt (h:Nat->Option ar) (p:aj) (sz:Nat):Option (List aj):=
 match p with
 |.ptr n k aE off=>
  match h n with
  |some (.box cs)=>if k=0 then sub cs off sz else none
  |some (.row _ m rs xs)=>
   if aE=rs then
    match xs[k]? with
    |some e=>match sub e off sz with
     |some l=>some (if m=.live then gY n k rs off l else l.map .c)
     |none=>none
    |none=>none
   else none
  |none=>none
 |.cH xs off=>(sub xs off sz).map (·.map .c)
 |_=>none
def cq (h:Nat->Option ar):aj->Option C
 |.c x=>some x
 |.nil sz=>if 0<sz then some (.list sz []) else none
 |.sl n sz lo len=>
  match h n with
  |some (.row _ _ rs xs)=>if rs=sz/\lo+len<=xs.length then some (.list sz ((xs.drop lo).take len)) else none
  |_=>none
 |.bE n k aE off sz len=>
  match h n with
  |some (.row _ .live rs xs)=>if rs=aE then(xs[k]?).bind (·[off]?) else none
  |_=>none
 |_=>none
def g7 (h:Nat->Option ar):List aj->Option (List C)
 |[]=>some []
 |c::cs=>match cq h c,g7 h cs with
  |some x,some xs=>some (x::xs)
  |_,_=>none
def iG (h:Nat->Option ar):ak->Option Dv
 |.one (.ptr n k sz off)=>
  match h n with
  |some (.box cs)=>if k=0/\off=0 then(g7 h cs).map fun l=>(.ptr,l) else none
  |_=>none
 |.one (.cH xs off)=>if off=0 then some (.ptr,xs) else none
 |.one c=>(cq h c).map fun x=>(.one,[x])
 |.agg cs=>(g7 h cs).map fun l=>(.agg,l)
 |.br _=>none
def ly (h:Nat->Option ar):List ak->Option (List Dv)
 |[]=>some []
 |c::cs=>match iG h c,ly h cs with
  |some x,some xs=>some (x::xs)
  |_,_=>none
def St.gb (σ:St):aj->Option (C×Bool×St)
 |.c x=>some (x,x.eV,σ)
 |.nil sz=>if 0<sz then some (.list sz [],true,σ) else none
 |.sl n sz lo len=>
  match σ.h n with
  |some (.row _ m rs xs)=>if rs=sz/\lo=0/\len<=xs.length then some (.list sz (xs.take len),decide (m≠ .aG),σ.del n) else none
  |_=>none
 |_=>none
def St.fD (σ:St):List aj->Option (List C×Bool×St)
 |[]=>some ([],true,σ)
 |c::cs=>match σ.gb c with
  |some (x,o,σ1)=>match σ1.fD cs with
   |some (xs,o',σ2)=>some (x::xs,o&&o',σ2)
   |none=>none
  |none=>none
def St.qO (σ:St):aj->Option St
 |.ptr n _ _ _=>match σ.h n with
  |some (.box cs)=>match σ.fD cs with
   |some (xs,_,σ1)=>some (σ1.dB n (.box (xs.map .c)))
   |none=>none
  |_=>none
 |_=>none
def St.lY (sz:Nat) (σ:St):List ak->Option (List (List C)×Bool×St)
 |[]=>some ([],true,σ)
 |v::vs=>match v.cells? with
  |some (_,cs)=>if cs.length=sz then
   match σ.fD cs with
   |some (e,o,σ1)=>match σ1.lY sz vs with
    |some (es,o',σ2)=>some (e::es,o&&o',σ2)
    |none=>none
   |none=>none
   else none
  |none=>none
def St.imp (m:Mode) (σ:St):Nat->List C->Option (List aj×Nat×St)
 |nm,[]=>some ([],nm,σ)
 |nm,.list sz xs::cs=>match σ.ins nm (.row true m sz xs) with
  |some σ1=>match σ1.imp m (nm+1) cs with
   |some (l,fA,σ2)=>some (.sl nm sz 0 xs.length::l,fA,σ2)
   |none=>none
  |none=>none
 |nm,x::cs=>match σ.imp m nm cs with
  |some (l,fA,σ2)=>some (.c x::l,fA,σ2)
  |none=>none
def St.jX (m:Mode) (σ:St):Nat->List Dv->Option (List (Bool×List aj)×St)
 |_,[]=>some ([],σ)
 |nm,(.ptr,_)::_=>none
 |nm,(k,cs)::ds=>match σ.imp m nm cs with
  |some (l,fA,σ1)=>match σ1.jX m fA ds with
   |some (ls,σ2)=>some ((decide (k=.agg),l)::ls,σ2)
   |none=>none
  |none=>none
def lT:List (Bool×List aj)->ak
 |[(ag,cs)]=>ma ag cs
 |l=>.br l
def z6 (d:Option Nat):Nat:=match d with|some n=>1000*(n+1)|none=>999
def gR:List Dv->Option (List (Bool×List aj))
 |[]=>some []
 |(.ptr,_)::_=>none
 |(k,cs)::ds=>match gR ds with
  |some ls=>some ((decide (k=.agg),cs.map .c)::ls)
  |none=>none
def uB (T:aT) (f:FuncId) (as:List ak) (h:Nat->Option ar):Option ak:=
 match ly h as with
 |some ds=>match aT.find T.pure f with
  |some M=>match M ds with
   |some rs=>match gR rs with
    |some ls=>some (lT ls)
    |none=>none
   |none=>none
  |none=>none
 |none=>none
def rT (T:aT) (m:Mode) (d:Option Nat) (f:FuncId) (as:List ak) (σ:St):Option St:=
 match ly σ.h as with
 |some ds=>match aT.find T.pure f with
  |some M=>match M ds with
   |some rs=>match σ.jX m (z6 d) rs with
    |some (ls,σ1)=>some (σ1.put d (lT ls))
    |none=>none
   |none=>none
  |none=>none
 |none=>none
def oU:aj->Option C
 |.c x=>some x
 |.nil sz=>if 0<sz then some (.list sz []) else none
 |_=>none
def jW:List aj->Option (List C)
 |[]=>some []
 |c::cs=>match oU c,jW cs with
  |some x,some xs=>some (x::xs)
  |_,_=>none
def mw (h:Nat->Option ar):ak->Option (Nat×List C)
 |.one (.ptr n k _ off)=>if k=0/\off=0 then match h n with
  |some (.box cs)=>match jW cs with
   |some xs=>some (n,xs)
   |none=>none
  |_=>none
  else none
 |_=>none
def St.ia (σ:St):List ak->Option (List Dv×List Nat×St)
 |[]=>some ([],[],σ)
 |v::vs=>match mw σ.h v with
  |some (n,xs)=>match σ.ia vs with
   |some (ds,ns,σ1)=>some ((.ptr,xs)::ds,n::ns,σ1)
   |none=>none
  |none=>match v.cells? with
   |some (ag,cs)=>match σ.fD cs with
    |some (xs,_,σ1)=>match σ1.ia vs with
     |some (ds,ns,σ2)=>some ((if ag=true then .agg else .one,xs)::ds,ns,σ2)
     |none=>none
    |none=>none
   |none=>none
def St.rn (σ:St):List Nat->List C->Option St
 |[],[]=>some σ
 |[n],out=>match σ.h n with
  |some (.box cs)=>if cs.length=out.length then some (σ.dB n (.box (out.map .c))) else none
  |_=>none
 |_,_=>none
def qD (σ:St) (d:Option Nat):List Dv->Option St
 |[(.ptr,cs)]=>match d with
  |some q=>match σ.ins q (.box (cs.map .c)) with
   |some σ1=>some (σ1.put d (.one (.ptr q 0 0 0)))
   |none=>none
  |none=>none
 |rs=>match gR rs with
  |some ls=>some (σ.put d (lT ls))
  |none=>none
def qI (T:aT) (d:Option Nat) (f:FuncId) (as:List ak) (σ:St):Option St:=
 match σ.ia as,aT.kQ T.vs f with
 |some (ds,ns,σ1),some M=>match M ds with
  |some (rs,out)=>match σ1.rn ns out with
   |some σ2=>qD σ2 d rs
   |none=>none
  |none=>none
 |_,_=>none
def Ag:List ak->Option (List Dv)
 |[]=>some []
 |v::vs=>match v.cells? with
  |some (ag,cs)=>match jW cs with
   |some xs=>match Ag vs with
    |some ds=>some ((if ag=true then .agg else .one,xs)::ds)
    |none=>none
   |none=>none
  |none=>none
def yK (T:aT) (f:FuncId) (as:List ak):Option ak:=
 match Ag as,aT.kQ T.vs f with
 |some ds,some M=>match M ds with
  |some (rs,[])=>match gR rs with
   |some ls=>some (lT ls)
   |none=>none
  |_=>none
 |_,_=>none
theorem akQ {c:aj} {x:C} (h:oU c=some x) (σ:St):∃o,σ.gb c=some (x,o,σ):=by
 cases c with
 |c y=>simp only[oU] at h;injection h with h;subst h;exact⟨_,rfl⟩
 |nil sz=>
  simp only[oU] at h
  split at h
  ·rename_i hp
   injection h with h
   subst h
   exact⟨_,if_pos hp⟩
  ·cases h
 |_=>simp[oU] at h
theorem aa7:∀{cs:List aj} {xs:List C},jW cs=some xs->∀σ:St,∃o,σ.fD cs=some (xs,o,σ)
 |[],xs,h,σ=>by simp only[jW] at h;injection h with h;subst h;exact⟨_,rfl⟩
 |c::cs,xs,h,σ=>by
  simp only[jW] at h
  split at h
  ·rename_i x au e1 e2
   injection h with h
   subst h
   obtain⟨o1,h1⟩:=akQ e1 σ
   obtain⟨o2,h2⟩:=aa7 e2 σ
   exact⟨o1&&o2,by simp only[St.fD,h1,h2]⟩
  ·cases h
theorem acJ:∀{as:List ak} {ds:List Dv},Ag as=some ds->∀σ:St,σ.ia as=some (ds,[],σ)
 |[],ds,h,σ=>by simp only[Ag] at h;injection h with h;subst h;rfl
 |v::vs,ds,h,σ=>by
  simp only[Ag] at h
  split at h
  ·rename_i ag cs hc
   split at h
   ·rename_i xs hi
    split at h
    ·rename_i uH hq
     injection h with h
     subst h
     have hp:mw σ.h v=none:=by
      unfold mw
      split
      ·simp only[ak.cells?] at hc
       injection hc with hc
       injection hc with _ hc
       subst hc
       simp[jW,oU] at hi
      ·rfl
     obtain⟨o,ht⟩:=aa7 hi σ
     simp only[St.ia,hp,hc,ht,acJ hq σ]
    ·cases h
   ·cases h
  ·cases h
theorem agm {T:aT} {d:Option Nat} {f:FuncId} {as:List ak} {v:ak} (h:yK T f as=some v) (σ:St):qI T d f as σ=some (σ.put d v):=by
 unfold yK at h
 split at h
 ·rename_i ds M hq hM
  split at h
  ·rename_i rs pM
   split at h
   ·rename_i ls hl
    injection h with h
    subst h
    simp only[qI,acJ hq σ,hM,pM,St.rn]
    unfold qD
    split
    ·simp[gR] at hl
    ·rw[hl]
   ·cases h
  ·cases h
 ·cases h
def C.te:C->Bool
 |.list _ xs=>gv xs
 |_=>true
def C.rb:C->Bool
 |.list ..=>true
 |_=>false
def tj:Mode->List (List C)->Bool
 |.ae,xs=>gv xs
 |.live,xs=>xs.all fun e=>e.all C.te
 |.aG,_=>false
inductive cY where
 |nil (sz:Nat)
 |row (n:Nat)
 |nest (n k off:Nat)
def sC (h:Nat->Option ar) (md:Mode):aj->Option (cY×C)
 |.nil sz=>if 0<sz/\md≠ .aG then some (.nil sz,.list sz []) else none
 |.sl n sz lo len=>match h n with
  |some (.row _ m rs xs)=>if m≠ .aG/\(md=.live->m=.live)/\rs=sz/\lo=0/\len=xs.length/\tj md xs=true then some (.row n,.list sz xs) else none
  |_=>none
 |.bE n k aE off sz len=>match h n with
  |some (.row _ .live rs xs)=>if rs=aE/\md=.ae then
   match(xs[k]?).bind (·[off]?) with
   |some (.list s ys)=>if gv ys=true then some (.nest n k off,.list s ys) else none
   |_=>none
   else none
  |_=>none
 |_=>none
def cY.dJ:cY->Option Nat
 |.nil _=>none
 |.row n=>some n
 |.nest n _ _=>some n
def aj.dJ:aj->Option Nat
 |.sl n _ _ _=>some n
 |.bE n _ _ _ _ _=>some n
 |_=>none
def nu:List (Option Mode)->List aj->List Nat
 |some _::fs,c::cs=>c.dJ.toList++nu fs cs
 |none::fs,_::cs=>nu fs cs
 |_,_=>[]
def j4 (h h0:Nat->Option ar):List (Option Mode)->List aj->Option (List C×List (cY×Mode))
 |[],cs=>match g7 h0 cs with
  |some xs=>some (xs,[])
  |none=>none
 |none::fs,c::cs=>match cq h0 c,j4 h h0 fs cs with
  |some x,some (xs,its)=>some (x::xs,its)
  |_,_=>none
 |some md::fs,c::cs=>match sC h md c,j4 h h0 fs cs with
  |some (it,x),some (xs,its)=>some (x::xs,(it,md)::its)
  |_,_=>none
 |_::_,[]=>none
def kG:aQ->List (Bool×List aj)->List Nat
 |s::sig,a::as=>nu s a.2++kG sig as
 |_,_=>[]
def aQ.hd:aQ->List (Option Mode)
 |[]=>[]
 |s::_=>s
def aQ.tl:aQ->aQ
 |[]=>[]
 |_::sig=>sig
def lR (h h0:Nat->Option ar):aQ->List (Bool×List aj)->Option (List Dv×List (cY×Mode))
 |_,[]=>some ([],[])
 |sig,(ag,cs)::as=>match j4 h h0 (aQ.hd sig) cs,lR h h0 (aQ.tl sig) as with
  |some (xs,its),some (ds,vn)=>some ((if ag=true then(.agg,xs) else(.one,xs))::ds,its++vn)
  |_,_=>none
def qb:List ak->Option (List (Bool×List aj))
 |[]=>some []
 |v::vs=>match v.cells?,qb vs with
  |some x,some xs=>some (x::xs)
  |_,_=>none
def dS (h:Nat->Option ar) (ns:List Nat):Nat->Option ar:=fun n=>if ns.contains n=true then none else h n
def St.oq (σ:St):cY->C->Option St
 |.nil _,_=>some σ
 |.row n,.list sz xs=>match σ.h n with
  |some (.row gr m rs _)=>if rs=sz then some (σ.dB n (.row gr m rs xs)) else none
  |_=>none
 |.nest n k off,x=>match σ.h n with
  |some (.row gr m rs xs)=>match xs[k]? with
   |some e=>some (σ.dB n (.row gr m rs (xs.set k (e.set off x))))
   |none=>none
  |_=>none
 |_,_=>none
def St.qk (σ:St):List (cY×Mode)->List C->Option St
 |[],[]=>some σ
 |it::its,x::xs=>match σ.oq it.1 x with
  |some σ1=>σ1.qk its xs
  |none=>none
 |_,_=>none
def uG (T:aT) (m:Mode) (d:Option Nat) (f:FuncId) (as:List ak) (σ:St):Option St:=
 match aT.rY T.CY f,qb as with
 |some (sig,M),some dz=>
  if(kG sig dz).Nodup then
   match lR σ.h (dS σ.h (kG sig dz)) sig dz with
   |some (ds,its)=>match M ds with
    |some (rs,fb)=>match σ.qk its fb with
     |some σ1=>match σ1.jX m (z6 d) rs with
      |some (ls,σ2)=>some (σ2.put d (lT ls))
      |none=>none
     |none=>none
    |none=>none
   |none=>none
  else none
 |_,_=>none
def pE (T:aT) (f:FuncId) (as:List ak) (h:Nat->Option ar):Option ak:=
 match aT.rZ T.ws f,qb as with
 |some (sig,M),some dz=>
  match kG sig dz with
  |[n]=>match lR h (dS h [n]) sig dz with
   |some (ds,[(.row n',_)])=>if n'=n then match h n,M ds with
    |some (.row _ _ sz _),some (lo,len)=>some (.one (.sl n sz lo len))
    |_,_=>none
    else none
   |_=>none
  |_=>none
 |_,_=>none
def Bw (op:BinOp) (k:IntKind) (a b:Int):Option C:=
 match op with
 |.add=>some (.int k (k.wrap (a+b)))
 |.sub=>some (.int k (k.wrap (a - b)))
 |.mul=>some (.int k (k.wrap (a*b)))
 |.quo=>if b=0 then none else some (.int k (k.wrap (a.tdiv b)))
 |.rem=>if b=0 then none else some (.int k (a.tmod b))
 |.and=>some (.int k (bits .and k a b))
 |.or=>some (.int k (bits .or k a b))
 |.xor=>some (.int k (bits .xor k a b))
 |.eql=>some (.bool (a==b))
 |.neq=>some (.bool (a !=b))
 |.lss=>some (.bool (decide (a<b)))
 |.leq=>some (.bool (decide (a<=b)))
 |.gtr=>some (.bool (decide (b<a)))
 |.geq=>some (.bool (decide (b<=a)))
 |_=>none
def Gk (op:BinOp) (k:IntKind) (a b:Int):Option C:=
 if b<0 then none else
 match op with
 |.shl=>some (.int k (k.wrap (a*2^(min b.toNat k.bits))))
 |.shr=>some (.int k (a/(2^(min b.toNat k.bits))))
 |_=>none
def BinOp.zH:BinOp->Bool
 |.shl|.shr=>true
 |_=>false
def wv (op:BinOp):ak->ak->Option C
 |.one (.c (.int k a)),.one (.c (.int k' b))=>if BinOp.zH op=true then Gk op k a b else if k=k' then Bw op k a b else none
 |_,_=>none
def Bv (op:BinOp):ak->ak->Option C
 |.one (.c (.bool a)),.one (.c (.bool b))=>match op with
  |.eql=>some (.bool (a==b))
  |.neq=>some (.bool (a !=b))
  |_=>none
 |_,_=>none
def DK (op:UnOp):ak->Option C
 |.one (.c (.bool a))=>match op with
  |.not=>some (.bool (!a))
  |_=>none
 |.one (.c (.int k a))=>match op with
  |.neg=>some (.int k (k.wrap (0 - a)))
  |_=>none
 |_=>none
def ak.dn:ak->Option Int
 |.one (.c (.int _ n))=>some n
 |_=>none
def eQ:Nat:=140737488355328
def qp (ev:MO->ak):List aj->List (Nat×Nat×MO)->Option (List aj)
 |zs,[]=>some zs
 |zs,(off,sz,x)::ps=>match(ev x).cells? with
  |some (_,cs)=>if cs.length=sz/\off+sz<=zs.length then qp ev (cv zs off cs) ps else none
  |none=>none
def nC (σ:St) (n:Nat) (gr:Bool) (m:Mode) (rs:Nat) (xs:List (List C)) (k off:Nat) (e:List C) (vs:List aj):Option St:=
 match sub e off vs.length with
 |none=>none
 |some fB=>match σ.fD vs with
  |none=>none
  |some (cs,o,σ1)=>
   if m=.live then
    if fK cs=true/\fK fB=true/\(σ1.h n).isSome=true then some (σ1.dB n (.row gr m rs (xs.set k (cv e off cs)))) else none
   else if(σ1.h n).isSome=true then
    some (σ1.dB n (.row gr (if o=true then m else .aG) rs (xs.set k (cv e off cs))))
   else none
def mC:List aj->Option (List C)
 |[]=>some []
 |.c x::l=>if x.eV=true then(mC l).map (x::·) else none
 |_::_=>none
def vI (xs:List (List C)) (k off s i:Nat) (vs:List aj):Option (List (List C)):=
 match(xs[k]?).bind (·[off]?) with
 |some (.list s' ys)=>if s'=s/\vs.length=s/\i<ys.length/\gv ys=true then(mC vs).map fun cs=>xs.set k ((xs.getD k []).set off (.list s' (ys.set i cs))) else none
 |_=>none
def qz (σ:St) (sz:Nat):ak->Option (List (List C)×Mode×St)
 |.one (.nil _)=>some ([],.ae,σ)
 |.one (.sl a s 0 len)=>match σ.h a with
  |some (.row true m rs xs)=>if rs=sz/\s=sz/\len=xs.length then some (xs,m,σ.del a) else none
  |_=>none
 |_=>none
def mq (fl:Bool) (σ1:St) (sz:Nat) (m:Mode):ak->Option (List (List C)×Mode×St)
  |.one (.nil _)=>some ([],m,σ1)
  |.one (.c (.list s ys))=>if s=sz then(if(fl&&gv ys)=true then some (ys,m,σ1) else if m=.live then none else some (ys,.aG,σ1)) else none
  |.one (.sl b s lo len)=>match σ1.h b with
   |some (.row _ m' rs ys)=>if rs=sz/\s=sz/\lo+len<=ys.length then
       (if(fl&&gv ((ys.drop lo).take len))=true then some ((ys.drop lo).take len,m,σ1)
        else if lo=0/\len=ys.length then(if m=m' then some (ys,m,σ1.del b) else if m=.live\/m'=.live then none else some (ys,.aG,σ1.del b)) else none)
    else none
   |_=>none
  |_=>none
def aj.FX:aj->Bool
 |.bq=>false
 |_=>true
def lV (bQ:Bool) (n:Int) (c:aj):List aj:=if bQ=true then[.c (.int .i64 n),.c (.int .i64 1),c] else[.c (.int .i64 1),.c (.int .i64 n),c]
def exec (T:aT) (d:Option Nat) (op:aH) (σ:St):Option St:=
 match op with
 |.mv x=>some (σ.put d (σ.ev x))
 |.pick c x y=>match σ.ev c with
  |.one (.c (.bool b))=>if b=true then some (σ.put d (σ.ev x)) else some (σ.put d (σ.ev y))
  |_=>none
 |.alloc zs=>match d with
  |some n=>match σ.ins n (.box zs) with
   |some σ1=>some (σ1.put d (.one (.ptr n 0 0 0)))
   |none=>none
  |none=>none
 |.box sz x=>match d,(σ.ev x).cells? with
  |some n,some (_,cs)=>if cs.length=sz then
   match σ.ins n (.box cs) with
   |some σ1=>some (σ1.put d (.one (.ptr n 0 0 0)))
   |none=>none
   else none
  |_,_=>none
 |.build zs parts=>match qp σ.ev zs parts with
  |some cs=>some (σ.put d (.agg cs))
  |none=>none
 |.gd sz parts=>match d,σ.lY sz (parts.map σ.ev) with
  |some n,some (es,o,σ1)=>match σ1.ins n (.row true (if o=true then .ae else .aG) sz es) with
   |some σ2=>some (σ2.put d (.one (.sl n sz 0 es.length)))
   |none=>none
  |_,_=>none
 |.load ag sz x=>match σ.ev x with
  |.one p=>match loadAt σ.h p sz with
   |some cs=>some (σ.put d (ma ag cs))
   |none=>none
  |_=>none
 |.oZ ag sz x=>match σ.ev x with
  |.one p=>match σ.qO p with
   |some σ1=>match loadAt σ1.h p sz with
    |some cs=>some (σ1.put d (ma ag cs))
    |none=>none
   |none=>none
  |_=>none
 |.store sz x v=>match σ.ev x,(σ.ev v).cells? with
  |.one (.ptr n k aE off),some (_,vs)=>if vs.length=sz then
   match σ.h n with
   |some (.box cs)=>if k=0/\off+sz<=cs.length then some (σ.dB n (.box (cv cs off vs))) else none
   |some (.row gr m rs xs)=>if aE=rs then
    match xs[k]? with
    |some e=>nC σ n gr m rs xs k off e vs
    |none=>none
    else none
   |none=>none
   else none
  |.one (.c7 n k aE off s i),some (_,vs)=>if vs.length=sz then
   match σ.h n with
   |some (.row gr .live rs xs)=>if aE=rs then
    match vI xs k off s i vs with
    |some au=>some (σ.dB n (.row gr .live rs au))
    |none=>none
    else none
   |_=>none
   else none
  |_,_=>none
 |.gZ x=>match σ.ev x with
  |.one (.ptr n k sz off)=>if(σ.h n).isSome=true then some (σ.put d (.one (.ptr n k sz off))) else none
  |.one (.cH xs off)=>some (σ.put d (.one (.cH xs off)))
  |_=>none
 |.bin op x y=>match wv op (σ.ev x) (σ.ev y) with
  |some c=>some (σ.put d (.one (.c c)))
  |none=>none
 |.oJ op x y=>match Bv op (σ.ev x) (σ.ev y) with
  |some c=>some (σ.put d (.one (.c c)))
  |none=>none
 |.un op x=>match DK op (σ.ev x) with
  |some c=>some (σ.put d (.one (.c c)))
  |none=>none
 |.conv k x=>match σ.ev x with
  |.one (.c (.int _ n))=>some (σ.put d (.one (.c (.int k (k.wrap n)))))
  |_=>none
 |.kF m sz by_ zs l c=>match d,(σ.ev l).dn,(σ.ev c).dn with
  |some n,some a,some b=>if a<=b/\0<=a/\b.toNat*by_<=eQ/\zs.length=sz then
   match σ.ins n (.row true m sz (List.replicate a.toNat zs)) with
   |some σ1=>some (σ1.put d (.one (.sl n sz 0 a.toNat)))
   |none=>none
   else none
  |_,_,_=>none
 |.slice sz x lo hi=>
  let Ru:Option Int:=match lo with|none=>some 0|some l=>(σ.ev l).dn
  match σ.ev x,Ru with
  |.one (.sl n s l0 len),some l=>
   match(match hi with|none=>some (len:Int)|some h=>(σ.ev h).dn) with
   |some h=>if s=sz/\0<=l/\l<=h/\h<=len/\(σ.h n).isSome=true then some (σ.put d (.one (.sl n s (l0+l.toNat) (h - l).toNat))) else none
   |none=>none
  |.one (.c (.list s xs)),some l=>
   match(match hi with|none=>some (xs.length:Int)|some h=>(σ.ev h).dn) with
   |some h=>if s=sz/\0<=l/\l<=h/\h<=xs.length then some (σ.put d (.one (.c (.list s ((xs.drop l.toNat).take (h - l).toNat))))) else none
   |none=>none
  |_,_=>none
 |.tail sz x lo=>match d,σ.ev x,(σ.ev lo).dn with
  |some n,.one (.sl a s 0 len),some l=>match σ.h a with
   |some (.row true m rs xs)=>if rs=sz/\s=sz/\len=xs.length/\0<=l/\l<=len then
    match(σ.del a).ins n (.row true m sz (xs.drop l.toNat)) with
    |some σ1=>some (σ1.put d (.one (.sl n sz 0 (xs.length - l.toNat))))
    |none=>none
    else none
   |_=>none
  |_,_,_=>none
 |.aw off x=>match σ.ev x with
  |.one (.ptr n k sz o)=>if(σ.h n).isSome=true then some (σ.put d (.one (.ptr n k sz (o+off)))) else none
  |.one (.cH xs o)=>some (σ.put d (.one (.cH xs (o+off))))
  |_=>none
 |.cf sz x i=>match σ.ev x,(σ.ev i).dn with
  |.one (.sl n s lo len),some k=>if s=sz/\0<=k/\k<len/\(σ.h n).isSome=true then some (σ.put d (.one (.ptr n (lo+k.toNat) s 0))) else none
  |.one (.c (.list s xs)),some k=>if s=sz/\0<=k then
   match xs[k.toNat]? with
   |some e=>some (σ.put d (.one (.cH e 0)))
   |none=>none
   else none
  |.one (.bE n kk aE off s len),some k=>match cq σ.h (.bE n kk aE off s len) with
   |some (.list s' ys)=>if s'=sz/\0<=k/\k<ys.length then some (σ.put d (.one (.c7 n kk aE off sz k.toNat))) else none
   |_=>none
  |_,_=>none
 |.ext i x=>match σ.ev x with
  |.br xs=>match xs[i]? with
   |some (ag,cs)=>some (σ.put d (ma ag cs))
   |none=>none
  |_=>none
 |.pI ag off sz x=>match σ.ev x with
  |.agg cs=>match sub cs off sz with
   |some l=>some (σ.put d (ma ag l))
   |none=>none
  |_=>none
 |.pk f bQ x=>match σ.ev x with
  |.one (.sl n sz lo len)=>if(σ.h n).isSome=true then some (σ.put d (.agg (lV bQ len (.sl n sz lo len)))) else none
  |.one (.c (.list sz xs))=>some (σ.put d (.agg (lV bQ xs.length (.c (.list sz xs)))))
  |.one (.nil sz)=>some (σ.put d (.agg (lV bQ 0 (.nil sz))))
  |_=>none
 |.len x=>match σ.ev x with
  |.one (.sl n sz lo len)=>if(σ.h n).isSome=true then some (σ.put d (.one (.c (.int .i64 len)))) else none
  |.one (.c (.list sz xs))=>some (σ.put d (.one (.c (.int .i64 xs.length))))
  |.one (.nil sz)=>some (σ.put d (.one (.c (.int .i64 0))))
  |.one (.bE n k aE off sz len)=>match cq σ.h (.bE n k aE off sz len) with
   |some (.list s ys)=>some (σ.put d (.one (.c (.int .i64 ys.length))))
   |_=>none
  |_=>none
 |.append fl sz by_ x y=>match d with
  |none=>none
  |some n=>match qz σ sz (σ.ev x) with
   |none=>none
   |some (xs,m,σ1)=>match mq fl σ1 sz m (σ.ev y) with
    |none=>none
    |some (ys,m2,σ2)=>
     if(xs.length+ys.length)*by_<=eQ then
      match σ2.ins n (.row true m2 sz (xs++ys)) with
      |some g9=>some (g9.put d (.one (.sl n sz 0 (xs.length+ys.length))))
      |none=>none
     else none
 |.copy sz x y=>match σ.ev x,σ.ev y with
  |.one (.sl n s lo len),.one c=>match σ.h n,cq σ.h c with
   |some (.row gr m rs xs),some (.list s' ys)=>if sz=1/\s=1/\rs=1/\s'=1/\m≠ .aG/\gv xs=true/\gv ys=true/\lo+len<=xs.length then
    some ((σ.dB n (.row gr m 1 (cv xs lo (ys.take len)))).put d (.one (.c (.int .i64 (Nat.min ys.length len:Nat))))) else none
   |_,_=>none
  |_,_=>none
 |.lE z x=>match σ.ev x with
  |.one (.sl n s lo len)=>match σ.h n with
   |some (.row gr m rs xs)=>if s=1/\rs=1/\z.eV=true/\m≠ .aG/\gv xs=true/\lo+len<=xs.length then
    some ((σ.dB n (.row gr m 1 (cv xs lo (List.replicate len [z])))).put d (.br [])) else none
   |_=>none
  |_=>none
 |.mm mx x y=>match σ.ev x,σ.ev y with
  |.one (.c (.int k a)),.one (.c (.int k' b))=>if mx=true then(if a<b then some (σ.put d (.one (.c (.int k b)))) else some (σ.put d (.one (.c (.int k a)))))
   else(if b<a then some (σ.put d (.one (.c (.int k b)))) else some (σ.put d (.one (.c (.int k a)))))
  |_,_=>none
 |.call m f xs=>rT T m d f (xs.map σ.ev) σ
 |.mV f xs=>match uB T f (xs.map σ.ev) σ.h with
  |some v=>some (σ.put d v)
  |none=>none
 |.qe f xs=>match(xs.map σ.ev).mapM (fun v=>match v with|.one c=>if c.lO=true then none else some c|_=>none) with
  |some cs=>if cs.all aj.FX=true then some (σ.put d (.one (.fn f cs))) else none
  |none=>none
 |.mW m x xs=>match σ.ev x with
  |.one (.fn f cF)=>rT T m d f (xs.map σ.ev++cF.map .one) σ
  |_=>none
 |.fU m f xs=>uG T m d f (xs.map σ.ev) σ
 |.dT f xs=>qI T d f (xs.map σ.ev) σ
 |.mX f xs=>match pE T f (xs.map σ.ev) σ.h with
  |some v=>some (σ.put d v)
  |none=>none
 |.mz f xs=>match yK T f (xs.map σ.ev) with
  |some v=>some (σ.put d v)
  |none=>none
def ed (T:aT) (o:bV) (σ:St):Option St:=
 match o.guard with
 |none=>exec T o.dst o.op σ
 |some (s,lz)=>match σ.env s with
  |.one (.c (.bool b))=>if b=lz then exec T o.dst o.op σ else some (σ.put o.dst (.br []))
  |.br []=>some (σ.put o.dst (.br []))
  |_=>none
def kO (T:aT):List bV->St->Option St
 |[],σ=>some σ
 |o::os,σ=>match ed T o σ with
  |some σ'=>kO T os σ'
  |none=>none
def aj.fG (ok:Nat->Bool):aj->aj
 |.ptr n k sz off=>if ok n=true then .ptr n k sz off else .bq
 |.sl n sz lo len=>if ok n=true then .sl n sz lo len else .bq
 |.bE n k aE off sz len=>if ok n=true then .bE n k aE off sz len else .bq
 |.c7 n k aE off sz i=>if ok n=true then .c7 n k aE off sz i else .bq
 |x=>x
def aj.db (ok:Nat->Bool):aj->aj
 |.fn f cF=>.fn f (cF.map (·.fG ok))
 |x=>x.fG ok
def ak.db (ok:Nat->Bool):ak->ak
 |.one c=>.one (c.db ok)
 |.agg cs=>.agg (cs.map (·.db ok))
 |.br xs=>.br (xs.map fun x=>(x.1,x.2.map (·.db ok)))
def ar.db (ok:Nat->Bool):ar->ar
 |.box cs=>.box (cs.map (·.db ok))
 |b=>b
def wG:Nat->ak:=fun _=>.one .bq
def BN:Nat->Option ar:=fun _=>none
def Ze:Nat->Bool:=fun _=>false
def vC (ok:Nat->Bool) (env:Nat->ak):List Nat->(Nat->ak)
 |[]=>wG
 |s::ss=>aA (vC ok env ss) s ((env s).db ok)
def rr (ok:Nat->Bool) (h:Nat->Option ar):List Nat->(Nat->Option ar)
 |[]=>BN
 |s::ss=>if ok s=true then match h s with
  |some b=>aA (rr ok h ss) s (some (b.db ok))
  |none=>rr ok h ss
  else rr ok h ss
def vD (ok:Nat->Bool):List Nat->(Nat->Bool)
 |[]=>Ze
 |s::ss=>if ok s=true then aA (vD ok ss) s true else vD ok ss
def aj.xI (n:Nat):aj->Bool
 |.ptr m _ _ _=>m==n
 |.sl m _ _ _=>m==n
 |.bE m _ _ _ _ _=>m==n
 |.c7 m _ _ _ _ _=>m==n
 |_=>false
def aj.g0 (n:Nat):aj->Bool
 |.fn _ cF=>cF.any (·.xI n)
 |x=>x.xI n
def ak.g0 (n:Nat):ak->Bool
 |.one c=>c.g0 n
 |.agg cs=>cs.any (·.g0 n)
 |.br xs=>xs.any fun x=>x.2.any (·.g0 n)
def St.jm (σ:St) (ke kh:List Nat):Nat->Bool:=fun n=>kh.contains n&&(σ.h n).isSome&&
 (Nat.ble aK n||ke.any (fun s=>(σ.env s).g0 n)||kh.any fun k=>match σ.h k with|some (.box cs)=>cs.any (·.g0 n)|_=>false)
def St.iE (σ:St) (ke kh:List Nat):St:=
 {env:=vC (σ.jm ke kh) σ.env ke,h:=rr (σ.jm ke kh) σ.h kh,used:=fun n=>Nat.ble aK n||vD (σ.jm ke kh) kh n}
def ot (x c n:Nat):Nat:=if n=x then c else n
def aj.pj (x c:Nat):aj->aj
 |.ptr n k sz off=>.ptr (ot x c n) k sz off
 |.sl n sz lo len=>.sl (ot x c n) sz lo len
 |.bE n k aE off sz len=>.bE (ot x c n) k aE off sz len
 |.c7 n k aE off sz i=>.c7 (ot x c n) k aE off sz i
 |y=>y
def aj.bh (x c:Nat):aj->aj
 |.fn f cF=>.fn f (cF.map (·.pj x c))
 |y=>y.pj x c
def ak.bh (x c:Nat):ak->ak
 |.one y=>.one (y.bh x c)
 |.agg ys=>.agg (ys.map (·.bh x c))
 |.br ys=>.br (ys.map fun y=>(y.1,y.2.map (·.bh x c)))
def ar.bh (x c:Nat):ar->ar
 |.box cs=>.box (cs.map (·.bh x c))
 |b=>b
def St.bh (σ:St) (x c:Nat):Option St:=
 if x=c then some σ else if Nat.ble aK x=true then some σ else if σ.used c=true then none else
 some {env:=fun s=>(σ.env s).bh x c,h:=fun n=>if n=c then(σ.h x).map (·.bh x c) else if n=x then none else(σ.h n).map (·.bh x c),used:=fun n=>if n=c then σ.used x else if n=x then false else σ.used n}
def St.kf (σ:St) (c:Nat):Mode->St
 |.aG=>match σ.h c with
  |some (.row gr .ae rs xs)=>σ.dB c (.row gr .aG rs xs)
  |_=>σ
 |_=>σ
def St.canon (σ:St):Bool×Nat×Nat×Nat×Mode->Option St
 |(true,n,j,c,m)=>match σ.h n with
  |some (.box cs)=>match cs[j]? with
   |some (.sl a _ _ _)=>(σ.bh a c).map fun σ1=>σ1.kf c m
   |some (.nil sz)=>if 0<sz then match σ.ins c (.row true m sz []) with
    |some σ1=>some (σ1.dB n (.box (cs.set j (.sl c sz 0 0))))
    |none=>none
    else some σ
   |_=>some σ
  |_=>some σ
 |(false,n,j,c,m)=>match σ.env n with
  |.one (.sl a _ _ _)=>(σ.bh a c).map fun σ1=>σ1.kf c m
  |.one (.nil sz)=>if 0<sz then match σ.ins c (.row true m sz []) with
   |some σ1=>some (σ1.put (some n) (.one (.sl c sz 0 0)))
   |none=>none
   else some σ
  |_=>some σ
def St.s9 (σ:St):List (Bool×Nat×Nat×Nat×Mode)->Option St
 |[]=>some σ
 |x::l=>match σ.canon x with
  |some σ1=>σ1.s9 l
  |none=>none
def St.head (σ:St) (ke kh:List Nat) (cn:List (Bool×Nat×Nat×Nat×Mode)):Option St:=
 match((σ.iE ke kh).iE ke kh).s9 cn with
 |some σ1=>some (σ1.iE ke kh)
 |none=>none
def aH.args:aH->List MO
 |.mv x|.box _ x|.load _ _ x|.oZ _ _ x|.gZ x|.un _ x|.conv _ x|.aw _ x|.ext _ x|.pI _ _ _ x|.pk _ _ x|.len x|.lE _ x=>[x]
 |.pick c x y=>[c,x,y]
 |.alloc _=>[]
 |.build _ ps=>ps.map (·.2.2)
 |.gd _ ps=>ps
 |.store _ x v=>[x,v]
 |.bin _ x y|.oJ _ x y|.mm _ x y|.append _ _ _ x y|.copy _ x y|.cf _ x y|.tail _ x y=>[x,y]
 |.kF _ _ _ _ l c=>[l,c]
 |.slice _ x lo hi=>x::(lo.toList++hi.toList)
 |.call _ _ xs|.qe _ xs|.fU _ _ xs|.mV _ xs|.dT _ xs|.mX _ xs|.mz _ xs=>xs
 |.mW _ x xs=>x::xs
def aH.FG:aH->Bool
 |.call ..|.mW ..|.mV ..=>true
 |_=>false
def aj.sE:aj->List Nat
 |.ptr n _ _ _=>[n]
 |.sl n _ _ _=>[n]
 |.bE n _ _ _ _ _=>[n]
 |.c7 n _ _ _ _ _=>[n]
 |_=>[]
def aj.nm:aj->List Nat
 |.fn _ cF=>cF.flatMap aj.sE
 |x=>x.sE
def ak.gM:ak->List Nat
 |.one c=>c.nm
 |.agg cs=>cs.flatMap aj.nm
 |.br xs=>xs.flatMap fun x=>x.2.flatMap aj.nm
def Bz (h:Nat->Option ar) (l:List Nat):List Nat:=l.flatMap fun n=>match h n with
 |some (.box cs)=>cs.flatMap aj.nm
 |_=>[]
def aH.jl (op:aH) (ev:MO->ak):List Nat:=op.args.flatMap fun x=>(ev x).gM
def aH.mQ (op:aH) (ev:MO->ak) (h:Nat->Option ar):List Nat:=cond op.FG (op.jl ev++Bz h (op.jl ev)) (op.jl ev)
def aH.kM (op:aH) (ev:MO->ak) (h:Nat->Option ar):Option (List Nat):=
 match op with
 |.store _ x v=>match ev x with
  |.one (.ptr n _ _ _)=>match h n with
   |some (.box _)=>some [n]
   |some (.row ..)=>some (n::(ev v).gM)
   |none=>none
  |.one (.c7 n _ _ _ _ _)=>some [n]
  |_=>none
 |.gd _ ps=>some (ps.flatMap fun p=>(ev p).gM)
 |.dT _ xs=>some (xs.flatMap fun p=>(ev p).gM)
 |.append _ _ _ x y=>some ((ev x).gM++(ev y).gM)
 |.copy _ x _|.lE _ x=>match ev x with
  |.one (.sl n _ _ _)=>some [n]
  |_=>none
 |.fU ..|.tail ..|.oZ ..=>none
 |_=>some []
abbrev FP:=List Nat×List Nat
def aH.fp (op:aH) (σ:St):Option FP:=(op.kM σ.ev σ.h).map fun w=>(op.mQ σ.ev σ.h,w)
def Ey (f g:FP):Bool:=f.2.all (fun n=> !(g.1.contains n))&&g.2.all (fun n=> !(f.1.contains n))
def Ez:Option FP->Option FP->Bool
 |some f,some g=>Ey f g
 |_,_=>false
def mZ (o:bV) (e:Nat->ak):Option aH:=
 match o.guard with
 |none=>some o.op
 |some (s,lz)=>match e s with
  |.one (.c (.bool b))=>if b=lz then some o.op else some (.mv (.k (.br [])))
  |.br []=>some (.mv (.k (.br [])))
  |_=>none
def bV.fp (o:bV) (σ:St):Option FP:=
 match mZ o σ.env with
 |some op=>op.fp σ
 |none=>none
def xE (ps:List (Nat×Nat)) (fs:List (Option FP)):Bool:=ps.all fun p=>Ez (fs.getD p.1 none) (fs.getD p.2 none)
def m4 (T:aT):List bV->List (Option FP)->St->Option (List (Option FP)×St)
 |[],c6,σ=>some (c6,σ)
 |o::os,c6,σ=>match ed T o σ with
  |some σ1=>m4 T os (c6++[o.fp σ]) σ1
  |none=>none
def aC:Nat:=2^64
def CQ:Nat->(St->Option sW)->St->Option sW
 |0,_,_=>none
 |n+1,f,σ=>match f σ with
  |some (.fR σ')=>CQ n f σ'
  |o=>o
def d8 (T:aT):mh->St->Option sW
 |.skip,σ=>some (.fR σ)
 |.af _ ops,σ=>match kO T ops σ with
  |some σ'=>some (.fR σ')
  |none=>none
 |.pi ps ops,σ=>match m4 T ops [] σ with
  |some (fs,σ')=>cond (xE ps fs) (some (.fR σ')) none
  |none=>none
 |.seq a b,σ=>match d8 T a σ with
  |some (.fR σ')=>d8 T b σ'
  |o=>o
 |.cond c a b,σ=>match σ.ev c with
  |.one (.c (.bool t))=>if t=true then d8 T a σ else d8 T b σ
  |_=>none
 |.block id c,σ=>match d8 T c σ with
  |some (.ext i σ')=>if i=id then some (.fR σ') else some (.ext i σ')
  |o=>o
 |.join ke kh cn c,σ=>match d8 T c σ with
  |some (.fR σ')=>match σ'.head ke kh cn with
   |some σ1=>some (.fR σ1)
   |none=>none
  |o=>o
 |.loop id ke kh cn c,σ=>CQ aC (fun σ=>match σ.head ke kh cn with|some σ1=>d8 T c σ1|none=>none) σ
 |.exit id,σ=>some (.ext id σ)
 |.ret,σ=>some (.ret σ)
end Go.Am
