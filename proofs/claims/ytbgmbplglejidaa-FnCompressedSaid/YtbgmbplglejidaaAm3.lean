/- Am3: the abstract machine's code and its evaluator. No condition. -/
import Derived.Test.YtbgmbplglejidaaAm2
set_option linter.unusedVariables false
namespace Go.Am
inductive MO where
 |t (n:Nat)
 |k (v:aj)
inductive aH where
 |mv (x:MO)
 |pick (c x y:MO)
 |alloc (zs:List ah)
 |box (sz:Nat) (x:MO)
 |build (zs:List ah) (parts:List (Nat×Nat×MO))
 |fC (sz:Nat) (parts:List MO)
 |load (ag:Bool) (sz:Nat) (x:MO)
 |nh (ag:Bool) (sz:Nat) (x:MO)
 |store (sz:Nat) (x v:MO)
 |gR (x:MO)
 |bin (op:BinOp) (x y:MO)
 |pj (op:BinOp) (x y:MO)
 |un (op:UnOp) (x:MO)
 |conv (k:IntKind) (x:MO)
 |kc (m:Mode) (sz by_:Nat) (zs:List C) (l c:MO)
 |slice (sz:Nat) (x:MO) (lo hi:Option MO)
 |tail (sz:Nat) (x lo:MO)
 |ar (off:Nat) (x:MO)
 |cb (sz:Nat) (x i:MO)
 |ext (i:Nat) (x:MO)
 |pz (ag:Bool) (off sz:Nat) (x:MO)
 |oW (f:FuncId) (bK:Bool) (x:MO)
 |len (x:MO)
 |append (fl:Bool) (sz by_:Nat) (x y:MO)
 |copy (sz:Nat) (x y:MO)
 |kV (z:C) (x:MO)
 |mm (mx:Bool) (x y:MO)
 |call (m:Mode) (f:FuncId) (xs:List MO)
 |mP (f:FuncId) (xs:List MO)
 |pU (f:FuncId) (xs:List MO)
 |mQ (m:Mode) (x:MO) (xs:List MO)
 |gb (m:Mode) (f:FuncId) (xs:List MO)
 |dZ (f:FuncId) (xs:List MO)
 |mR (f:FuncId) (xs:List MO)
 |lZ (f:FuncId) (xs:List MO)
structure bV where
 dst:Option Nat
 op:aH
 guard:Option (Nat×Bool)
inductive lT where
 |skip
 |ae (rR:Bool) (ops:List bV)
 |qb (ps:List (Nat×Nat)) (ops:List bV)
 |seq (a b:lT)
 |cond (c:MO) (a b:lT)
 |block (id:Nat) (c:lT)
 |join (ke kh:List Nat) (cn:List (Bool×Nat×Nat×Nat×Mode)) (c:lT)
 |loop (id:Nat) (ke kh:List Nat) (cn:List (Bool×Nat×Nat×Nat×Mode)) (c:lT)
 |exit (id:Nat)
 |ret
inductive K where
 |one|agg|ptr
 deriving DecidableEq
abbrev Dv:=K×List C
abbrev aP:=List (List (Option Mode))
structure aO where
 pure:List (FuncId×(List Dv->Option (List Dv)))
 Ci:List (FuncId×aP×(List Dv->Option (List Dv×List C)))
 vs:List (FuncId×(List Dv->Option (List Dv×List C)))
 ws:List (FuncId×aP×(List Dv->Option (Nat×Nat)))
def aO.rT:List (FuncId×aP×(List Dv->Option (List Dv×List C)))->FuncId->Option (aP×(List Dv->Option (List Dv×List C)))
 |[],_=>none
 |(g,M)::l,f=>if f=g then some M else aO.rT l f
def aO.rU:List (FuncId×aP×(List Dv->Option (Nat×Nat)))->FuncId->Option (aP×(List Dv->Option (Nat×Nat)))
 |[],_=>none
 |(g,M)::l,f=>if f=g then some M else aO.rU l f
def aO.kw:List (FuncId×(List Dv->Option (List Dv×List C)))->FuncId->Option (List Dv->Option (List Dv×List C))
 |[],_=>none
 |(g,M)::l,f=>if f=g then some M else aO.kw l f
def aO.find:List (FuncId×(List Dv->Option (List Dv)))->FuncId->Option (List Dv->Option (List Dv))
 |[],_=>none
 |(g,M)::l,f=>if f=g then some M else aO.find l f
inductive sO where
 |fG (σ:St)
 |ext (id:Nat) (σ:St)
 |ret (σ:St)
def St.ev (σ:St):MO->aj
 |.t n=>σ.env n
 |.k v=>v
def St.put (σ:St) (d:Option Nat) (v:aj):St:=
 match d with
 |some n=>{σ with env:=av σ.env n v}
 |none=>σ
def St.ins (σ:St) (n:Nat) (b:ao):Option St:=
 if σ.used n=true then none else some {σ with h:=av σ.h n (some b),used:=av σ.used n true}
def St.dB (σ:St) (n:Nat) (b:ao):St:={σ with h:=av σ.h n (some b)}
def St.del (σ:St) (n:Nat):St:={σ with h:=av σ.h n none}
def aj.cells?:aj->Option (Bool×List ah)
 |.one .bn=>none
 |.one c=>some (false,[c])
 |.agg cs=>some (true,cs)
 |.bq _=>none
def lO:Bool->List ah->aj
 |true,cs=>.agg cs
 |false,[c]=>.one c
 |false,_=>.one .bn
def sub {α:Type} (l:List α) (off sz:Nat):Option (List α):=if off+sz<=l.length then some ((l.drop off).take sz) else none
def cu {α:Type} (l:List α) (off:Nat) (vs:List α):List α:=l.take off++vs++l.drop (off+vs.length)
def C.eR:C->Bool
 |.list ..=>false
 |_=>true
def fA (l:List C):Bool:=l.all C.eR
def ga (l:List (List C)):Bool:=l.all fA
def gQ (n k rs:Nat):Nat->List C->List ah
 |_,[]=>[]
 |off,.list sz ys::l=>.bx n k rs off sz ys.length::gQ n k rs (off+1) l
 |off,x::l=>.c x::gQ n k rs (off+1) l
def loadAt (h:Nat->Option ao) (p:ah) (sz:Nat):Option (List ah):=
 match p with
 |.ptr n k aA off=>
  match h n with
  |some (.box cs)=>if k=0 then sub cs off sz else none
  |some (.row _ m rs xs)=>
   if aA=rs then
    match xs[k]? with
    |some e=>match sub e off sz with
     |some l=>some (if m=.live then gQ n k rs off l else l.map .c)
     |none=>none
    |none=>none
   else none
  |none=>none
 |.cB xs off=>(sub xs off sz).map (·.map .c)
 |_=>none
def cq (h:Nat->Option ao):ah->Option C
 |.c x=>some x
 |.nil sz=>if 0<sz then some (.list sz []) else none
 |.sl n sz lo len=>
  match h n with
  |some (.row _ _ rs xs)=>if rs=sz/\lo+len<=xs.length then some (.list sz ((xs.drop lo).take len)) else none
  |_=>none
 |.bx n k aA off sz len=>
  match h n with
  |some (.row _ .live rs xs)=>if rs=aA then(xs[k]?).bind (·[off]?) else none
  |_=>none
 |_=>none
def gU (h:Nat->Option ao):List ah->Option (List C)
 |[]=>some []
 |c::cs=>match cq h c,gU h cs with
  |some x,some xs=>some (x::xs)
  |_,_=>none
def iv (h:Nat->Option ao):aj->Option Dv
 |.one (.ptr n k sz off)=>
  match h n with
  |some (.box cs)=>if k=0/\off=0 then(gU h cs).map fun l=>(.ptr,l) else none
  |_=>none
 |.one (.cB xs off)=>if off=0 then some (.ptr,xs) else none
 |.one c=>(cq h c).map fun x=>(.one,[x])
 |.agg cs=>(gU h cs).map fun l=>(.agg,l)
 |.bq _=>none
def kO (h:Nat->Option ao):List aj->Option (List Dv)
 |[]=>some []
 |c::cs=>match iv h c,kO h cs with
  |some x,some xs=>some (x::xs)
  |_,_=>none
def St.fQ (σ:St):ah->Option (C×Bool×St)
 |.c x=>some (x,x.eR,σ)
 |.nil sz=>if 0<sz then some (.list sz [],true,σ) else none
 |.sl n sz lo len=>
  match σ.h n with
  |some (.row _ m rs xs)=>if rs=sz/\lo=0/\len<=xs.length then some (.list sz (xs.take len),decide (m≠ .aF),σ.del n) else none
  |_=>none
 |_=>none
def St.fv (σ:St):List ah->Option (List C×Bool×St)
 |[]=>some ([],true,σ)
 |c::cs=>match σ.fQ c with
  |some (x,o,σ1)=>match σ1.fv cs with
   |some (xs,o',σ2)=>some (x::xs,o&&o',σ2)
   |none=>none
  |none=>none
def St.qI (σ:St):ah->Option St
 |.ptr n _ _ _=>match σ.h n with
  |some (.box cs)=>match σ.fv cs with
   |some (xs,_,σ1)=>some (σ1.dB n (.box (xs.map .c)))
   |none=>none
  |_=>none
 |_=>none
def St.lM (sz:Nat) (σ:St):List aj->Option (List (List C)×Bool×St)
 |[]=>some ([],true,σ)
 |v::vs=>match v.cells? with
  |some (_,cs)=>if cs.length=sz then
   match σ.fv cs with
   |some (e,o,σ1)=>match σ1.lM sz vs with
    |some (es,o',σ2)=>some (e::es,o&&o',σ2)
    |none=>none
   |none=>none
   else none
  |none=>none
def St.imp (m:Mode) (σ:St):Nat->List C->Option (List ah×Nat×St)
 |nm,[]=>some ([],nm,σ)
 |nm,.list sz xs::cs=>match σ.ins nm (.row true m sz xs) with
  |some σ1=>match σ1.imp m (nm+1) cs with
   |some (l,ft,σ2)=>some (.sl nm sz 0 xs.length::l,ft,σ2)
   |none=>none
  |none=>none
 |nm,x::cs=>match σ.imp m nm cs with
  |some (l,ft,σ2)=>some (.c x::l,ft,σ2)
  |none=>none
def St.jK (m:Mode) (σ:St):Nat->List Dv->Option (List (Bool×List ah)×St)
 |_,[]=>some ([],σ)
 |nm,(.ptr,_)::_=>none
 |nm,(k,cs)::ds=>match σ.imp m nm cs with
  |some (l,ft,σ1)=>match σ1.jK m ft ds with
   |some (ls,σ2)=>some ((decide (k=.agg),l)::ls,σ2)
   |none=>none
  |none=>none
def lH:List (Bool×List ah)->aj
 |[(ag,cs)]=>lO ag cs
 |l=>.bq l
def zp (d:Option Nat):Nat:=match d with|some n=>1000*(n+1)|none=>999
def gH:List Dv->Option (List (Bool×List ah))
 |[]=>some []
 |(.ptr,_)::_=>none
 |(k,cs)::ds=>match gH ds with
  |some ls=>some ((decide (k=.agg),cs.map .c)::ls)
  |none=>none
def tZ (T:aO) (f:FuncId) (as:List aj) (h:Nat->Option ao):Option aj:=
 match kO h as with
 |some ds=>match aO.find T.pure f with
  |some M=>match M ds with
   |some rs=>match gH rs with
    |some ls=>some (lH ls)
    |none=>none
   |none=>none
  |none=>none
 |none=>none
def rQ (T:aO) (m:Mode) (d:Option Nat) (f:FuncId) (as:List aj) (σ:St):Option St:=
 match kO σ.h as with
 |some ds=>match aO.find T.pure f with
  |some M=>match M ds with
   |some rs=>match σ.jK m (zp d) rs with
    |some (ls,σ1)=>some (σ1.put d (lH ls))
    |none=>none
   |none=>none
  |none=>none
 |none=>none
def oJ:ah->Option C
 |.c x=>some x
 |.nil sz=>if 0<sz then some (.list sz []) else none
 |_=>none
def jJ:List ah->Option (List C)
 |[]=>some []
 |c::cs=>match oJ c,jJ cs with
  |some x,some xs=>some (x::xs)
  |_,_=>none
def lY (h:Nat->Option ao):aj->Option (Nat×List C)
 |.one (.ptr n k _ off)=>if k=0/\off=0 then match h n with
  |some (.box cs)=>match jJ cs with
   |some xs=>some (n,xs)
   |none=>none
  |_=>none
  else none
 |_=>none
def St.g0 (σ:St):List aj->Option (List Dv×List Nat×St)
 |[]=>some ([],[],σ)
 |v::vs=>match lY σ.h v with
  |some (n,xs)=>match σ.g0 vs with
   |some (ds,ns,σ1)=>some ((.ptr,xs)::ds,n::ns,σ1)
   |none=>none
  |none=>match v.cells? with
   |some (ag,cs)=>match σ.fv cs with
    |some (xs,_,σ1)=>match σ1.g0 vs with
     |some (ds,ns,σ2)=>some ((if ag=true then .agg else .one,xs)::ds,ns,σ2)
     |none=>none
    |none=>none
   |none=>none
def St.rf (σ:St):List Nat->List C->Option St
 |[],[]=>some σ
 |[n],out=>match σ.h n with
  |some (.box cs)=>if cs.length=out.length then some (σ.dB n (.box (out.map .c))) else none
  |_=>none
 |_,_=>none
def qv (σ:St) (d:Option Nat):List Dv->Option St
 |[(.ptr,cs)]=>match d with
  |some q=>match σ.ins q (.box (cs.map .c)) with
   |some σ1=>some (σ1.put d (.one (.ptr q 0 0 0)))
   |none=>none
  |none=>none
 |rs=>match gH rs with
  |some ls=>some (σ.put d (lH ls))
  |none=>none
def qC (T:aO) (d:Option Nat) (f:FuncId) (as:List aj) (σ:St):Option St:=
 match σ.g0 as,aO.kw T.vs f with
 |some (ds,ns,σ1),some M=>match M ds with
  |some (rs,out)=>match σ1.rf ns out with
   |some σ2=>qv σ2 d rs
   |none=>none
  |none=>none
 |_,_=>none
def zz:List aj->Option (List Dv)
 |[]=>some []
 |v::vs=>match v.cells? with
  |some (ag,cs)=>match jJ cs with
   |some xs=>match zz vs with
    |some ds=>some ((if ag=true then .agg else .one,xs)::ds)
    |none=>none
   |none=>none
  |none=>none
def ye (T:aO) (f:FuncId) (as:List aj):Option aj:=
 match zz as,aO.kw T.vs f with
 |some ds,some M=>match M ds with
  |some (rs,[])=>match gH rs with
   |some ls=>some (lH ls)
   |none=>none
  |_=>none
 |_,_=>none
theorem aiz {c:ah} {x:C} (h:oJ c=some x) (σ:St):∃o,σ.fQ c=some (x,o,σ):=by
 cases c with
 |c y=>simp only[oJ] at h;injection h with h;subst h;exact⟨_,rfl⟩
 |nil sz=>
  simp only[oJ] at h
  split at h
  ·rename_i hp
   injection h with h
   subst h
   exact⟨_,if_pos hp⟩
  ·cases h
 |_=>simp[oJ] at h
theorem aah:∀{cs:List ah} {xs:List C},jJ cs=some xs->∀σ:St,∃o,σ.fv cs=some (xs,o,σ)
 |[],xs,h,σ=>by simp only[jJ] at h;injection h with h;subst h;exact⟨_,rfl⟩
 |c::cs,xs,h,σ=>by
  simp only[jJ] at h
  split at h
  ·rename_i x aq e1 e2
   injection h with h
   subst h
   obtain⟨o1,h1⟩:=aiz e1 σ
   obtain⟨o2,h2⟩:=aah e2 σ
   exact⟨o1&&o2,by simp only[St.fv,h1,h2]⟩
  ·cases h
theorem abP:∀{as:List aj} {ds:List Dv},zz as=some ds->∀σ:St,σ.g0 as=some (ds,[],σ)
 |[],ds,h,σ=>by simp only[zz] at h;injection h with h;subst h;rfl
 |v::vs,ds,h,σ=>by
  simp only[zz] at h
  split at h
  ·rename_i ag cs hc
   split at h
   ·rename_i xs hi
    split at h
    ·rename_i ue hq
     injection h with h
     subst h
     have hp:lY σ.h v=none:=by
      unfold lY
      split
      ·simp only[aj.cells?] at hc
       injection hc with hc
       injection hc with _ hc
       subst hc
       simp[jJ,oJ] at hi
      ·rfl
     obtain⟨o,ht⟩:=aah hi σ
     simp only[St.g0,hp,hc,ht,abP hq σ]
    ·cases h
   ·cases h
  ·cases h
theorem afq {T:aO} {d:Option Nat} {f:FuncId} {as:List aj} {v:aj} (h:ye T f as=some v) (σ:St):qC T d f as σ=some (σ.put d v):=by
 unfold ye at h
 split at h
 ·rename_i ds M hq hM
  split at h
  ·rename_i rs pB
   split at h
   ·rename_i ls hl
    injection h with h
    subst h
    simp only[qC,abP hq σ,hM,pB,St.rf]
    unfold qv
    split
    ·simp[gH] at hl
    ·rw[hl]
   ·cases h
  ·cases h
 ·cases h
def C.sY:C->Bool
 |.list _ xs=>ga xs
 |_=>true
def C.qW:C->Bool
 |.list ..=>true
 |_=>false
def s8:Mode->List (List C)->Bool
 |.ab,xs=>ga xs
 |.live,xs=>xs.all fun e=>e.all C.sY
 |.aF,_=>false
inductive cR where
 |nil (sz:Nat)
 |row (n:Nat)
 |nest (n k off:Nat)
def sy (h:Nat->Option ao) (md:Mode):ah->Option (cR×C)
 |.nil sz=>if 0<sz/\md≠ .aF then some (.nil sz,.list sz []) else none
 |.sl n sz lo len=>match h n with
  |some (.row _ m rs xs)=>if m≠ .aF/\(md=.live->m=.live)/\rs=sz/\lo=0/\len=xs.length/\s8 md xs=true then some (.row n,.list sz xs) else none
  |_=>none
 |.bx n k aA off sz len=>match h n with
  |some (.row _ .live rs xs)=>if rs=aA/\md=.ab then
   match(xs[k]?).bind (·[off]?) with
   |some (.list s ys)=>if ga ys=true then some (.nest n k off,.list s ys) else none
   |_=>none
   else none
  |_=>none
 |_=>none
def cR.dF:cR->Option Nat
 |.nil _=>none
 |.row n=>some n
 |.nest n _ _=>some n
def ah.dF:ah->Option Nat
 |.sl n _ _ _=>some n
 |.bx n _ _ _ _ _=>some n
 |_=>none
def nk:List (Option Mode)->List ah->List Nat
 |some _::fs,c::cs=>c.dF.toList++nk fs cs
 |none::fs,_::cs=>nk fs cs
 |_,_=>[]
def jN (h h0:Nat->Option ao):List (Option Mode)->List ah->Option (List C×List (cR×Mode))
 |[],cs=>match gU h0 cs with
  |some xs=>some (xs,[])
  |none=>none
 |none::fs,c::cs=>match cq h0 c,jN h h0 fs cs with
  |some x,some (xs,its)=>some (x::xs,its)
  |_,_=>none
 |some md::fs,c::cs=>match sy h md c,jN h h0 fs cs with
  |some (it,x),some (xs,its)=>some (x::xs,(it,md)::its)
  |_,_=>none
 |_::_,[]=>none
def kf:aP->List (Bool×List ah)->List Nat
 |s::sig,a::as=>nk s a.2++kf sig as
 |_,_=>[]
def aP.hd:aP->List (Option Mode)
 |[]=>[]
 |s::_=>s
def aP.tl:aP->aP
 |[]=>[]
 |_::sig=>sig
def lE (h h0:Nat->Option ao):aP->List (Bool×List ah)->Option (List Dv×List (cR×Mode))
 |_,[]=>some ([],[])
 |sig,(ag,cs)::as=>match jN h h0 (aP.hd sig) cs,lE h h0 (aP.tl sig) as with
  |some (xs,its),some (ds,uY)=>some ((if ag=true then(.agg,xs) else(.one,xs))::ds,its++uY)
  |_,_=>none
def pR:List aj->Option (List (Bool×List ah))
 |[]=>some []
 |v::vs=>match v.cells?,pR vs with
  |some x,some xs=>some (x::xs)
  |_,_=>none
def dQ (h:Nat->Option ao) (ns:List Nat):Nat->Option ao:=fun n=>if ns.contains n=true then none else h n
def St.nX (σ:St):cR->C->Option St
 |.nil _,_=>some σ
 |.row n,.list sz xs=>match σ.h n with
  |some (.row gr m rs _)=>if rs=sz then some (σ.dB n (.row gr m rs xs)) else none
  |_=>none
 |.nest n k off,x=>match σ.h n with
  |some (.row gr m rs xs)=>match xs[k]? with
   |some e=>some (σ.dB n (.row gr m rs (xs.set k (e.set off x))))
   |none=>none
  |_=>none
 |_,_=>none
def St.qa (σ:St):List (cR×Mode)->List C->Option St
 |[],[]=>some σ
 |it::its,x::xs=>match σ.nX it.1 x with
  |some σ1=>σ1.qa its xs
  |none=>none
 |_,_=>none
def ud (T:aO) (m:Mode) (d:Option Nat) (f:FuncId) (as:List aj) (σ:St):Option St:=
 match aO.rT T.Ci f,pR as with
 |some (sig,M),some dz=>
  if(kf sig dz).Nodup then
   match lE σ.h (dQ σ.h (kf sig dz)) sig dz with
   |some (ds,its)=>match M ds with
    |some (rs,eZ)=>match σ.qa its eZ with
     |some σ1=>match σ1.jK m (zp d) rs with
      |some (ls,σ2)=>some (σ2.put d (lH ls))
      |none=>none
     |none=>none
    |none=>none
   |none=>none
  else none
 |_,_=>none
def pq (T:aO) (f:FuncId) (as:List aj) (h:Nat->Option ao):Option aj:=
 match aO.rU T.ws f,pR as with
 |some (sig,M),some dz=>
  match kf sig dz with
  |[n]=>match lE h (dQ h [n]) sig dz with
   |some (ds,[(.row n',_)])=>if n'=n then match h n,M ds with
    |some (.row _ _ sz _),some (lo,len)=>some (.one (.sl n sz lo len))
    |_,_=>none
    else none
   |_=>none
  |_=>none
 |_,_=>none
def AH (op:BinOp) (k:IntKind) (a b:Int):Option C:=
 match op with
 |.add=>some (.int k (k.wrap (a+b)))
 |.sub=>some (.int k (k.wrap (a - b)))
 |.mul=>some (.int k (k.wrap (a*b)))
 |.quo=>if b=0 then none else some (.int k (k.wrap (a.tdiv b)))
 |.rem=>if b=0 then none else some (.int k (a.tmod b))
 |.and=>some (.int k (bits .and k a b))
 |.or=>some (.int k (bits .or k a b))
 |.xor=>some (.int k (bits .xor k a b))
 |.eql=>some (.bool (a==b))
 |.neq=>some (.bool (a !=b))
 |.lss=>some (.bool (decide (a<b)))
 |.leq=>some (.bool (decide (a<=b)))
 |.gtr=>some (.bool (decide (b<a)))
 |.geq=>some (.bool (decide (b<=a)))
 |_=>none
def FE (op:BinOp) (k:IntKind) (a b:Int):Option C:=
 if b<0 then none else
 match op with
 |.shl=>some (.int k (k.wrap (a*2^(min b.toNat k.bits))))
 |.shr=>some (.int k (a/(2^(min b.toNat k.bits))))
 |_=>none
def BinOp.y5:BinOp->Bool
 |.shl|.shr=>true
 |_=>false
def vT (op:BinOp):aj->aj->Option C
 |.one (.c (.int k a)),.one (.c (.int k' b))=>if BinOp.y5 op=true then FE op k a b else if k=k' then AH op k a b else none
 |_,_=>none
def AG (op:BinOp):aj->aj->Option C
 |.one (.c (.bool a)),.one (.c (.bool b))=>match op with
  |.eql=>some (.bool (a==b))
  |.neq=>some (.bool (a !=b))
  |_=>none
 |_,_=>none
def C1 (op:UnOp):aj->Option C
 |.one (.c (.bool a))=>match op with
  |.not=>some (.bool (!a))
  |_=>none
 |.one (.c (.int k a))=>match op with
  |.neg=>some (.int k (k.wrap (0 - a)))
  |_=>none
 |_=>none
def aj.dj:aj->Option Int
 |.one (.c (.int _ n))=>some n
 |_=>none
def dK:Nat:=140737488355328
def qf (ev:MO->aj):List ah->List (Nat×Nat×MO)->Option (List ah)
 |zs,[]=>some zs
 |zs,(off,sz,x)::ps=>match(ev x).cells? with
  |some (_,cs)=>if cs.length=sz/\off+sz<=zs.length then qf ev (cu zs off cs) ps else none
  |none=>none
def nw (σ:St) (n:Nat) (gr:Bool) (m:Mode) (rs:Nat) (xs:List (List C)) (k off:Nat) (e:List C) (vs:List ah):Option St:=
 match sub e off vs.length with
 |none=>none
 |some fu=>match σ.fv vs with
  |none=>none
  |some (cs,o,σ1)=>
   if m=.live then
    if fA cs=true/\fA fu=true/\(σ1.h n).isSome=true then some (σ1.dB n (.row gr m rs (xs.set k (cu e off cs)))) else none
   else if(σ1.h n).isSome=true then
    some (σ1.dB n (.row gr (if o=true then m else .aF) rs (xs.set k (cu e off cs))))
   else none
def me:List ah->Option (List C)
 |[]=>some []
 |.c x::l=>if x.eR=true then(me l).map (x::·) else none
 |_::_=>none
def vk (xs:List (List C)) (k off s i:Nat) (vs:List ah):Option (List (List C)):=
 match(xs[k]?).bind (·[off]?) with
 |some (.list s' ys)=>if s'=s/\vs.length=s/\i<ys.length/\ga ys=true then(me vs).map fun cs=>xs.set k ((xs.getD k []).set off (.list s' (ys.set i cs))) else none
 |_=>none
def qu (σ:St) (sz:Nat):aj->Option (List (List C)×Mode×St)
 |.one (.nil _)=>some ([],.ab,σ)
 |.one (.sl a s 0 len)=>match σ.h a with
  |some (.row true m rs xs)=>if rs=sz/\s=sz/\len=xs.length then some (xs,m,σ.del a) else none
  |_=>none
 |_=>none
def lV (fl:Bool) (σ1:St) (sz:Nat) (m:Mode):aj->Option (List (List C)×Mode×St)
  |.one (.nil _)=>some ([],m,σ1)
  |.one (.c (.list s ys))=>if s=sz then(if(fl&&ga ys)=true then some (ys,m,σ1) else if m=.live then none else some (ys,.aF,σ1)) else none
  |.one (.sl b s lo len)=>match σ1.h b with
   |some (.row _ m' rs ys)=>if rs=sz/\s=sz/\lo+len<=ys.length then
       (if(fl&&ga ((ys.drop lo).take len))=true then some ((ys.drop lo).take len,m,σ1)
        else if lo=0/\len=ys.length then(if m=m' then some (ys,m,σ1.del b) else if m=.live\/m'=.live then none else some (ys,.aF,σ1.del b)) else none)
    else none
   |_=>none
  |_=>none
def ah.Ff:ah->Bool
 |.bn=>false
 |_=>true
def lJ (bK:Bool) (n:Int) (c:ah):List ah:=if bK=true then[.c (.int .i64 n),.c (.int .i64 1),c] else[.c (.int .i64 1),.c (.int .i64 n),c]
def exec (T:aO) (d:Option Nat) (op:aH) (σ:St):Option St:=
 match op with
 |.mv x=>some (σ.put d (σ.ev x))
 |.pick c x y=>match σ.ev c with
  |.one (.c (.bool b))=>if b=true then some (σ.put d (σ.ev x)) else some (σ.put d (σ.ev y))
  |_=>none
 |.alloc zs=>match d with
  |some n=>match σ.ins n (.box zs) with
   |some σ1=>some (σ1.put d (.one (.ptr n 0 0 0)))
   |none=>none
  |none=>none
 |.box sz x=>match d,(σ.ev x).cells? with
  |some n,some (_,cs)=>if cs.length=sz then
   match σ.ins n (.box cs) with
   |some σ1=>some (σ1.put d (.one (.ptr n 0 0 0)))
   |none=>none
   else none
  |_,_=>none
 |.build zs parts=>match qf σ.ev zs parts with
  |some cs=>some (σ.put d (.agg cs))
  |none=>none
 |.fC sz parts=>match d,σ.lM sz (parts.map σ.ev) with
  |some n,some (es,o,σ1)=>match σ1.ins n (.row true (if o=true then .ab else .aF) sz es) with
   |some σ2=>some (σ2.put d (.one (.sl n sz 0 es.length)))
   |none=>none
  |_,_=>none
 |.load ag sz x=>match σ.ev x with
  |.one p=>match loadAt σ.h p sz with
   |some cs=>some (σ.put d (lO ag cs))
   |none=>none
  |_=>none
 |.nh ag sz x=>match σ.ev x with
  |.one p=>match σ.qI p with
   |some σ1=>match loadAt σ1.h p sz with
    |some cs=>some (σ1.put d (lO ag cs))
    |none=>none
   |none=>none
  |_=>none
 |.store sz x v=>match σ.ev x,(σ.ev v).cells? with
  |.one (.ptr n k aA off),some (_,vs)=>if vs.length=sz then
   match σ.h n with
   |some (.box cs)=>if k=0/\off+sz<=cs.length then some (σ.dB n (.box (cu cs off vs))) else none
   |some (.row gr m rs xs)=>if aA=rs then
    match xs[k]? with
    |some e=>nw σ n gr m rs xs k off e vs
    |none=>none
    else none
   |none=>none
   else none
  |.one (.cV n k aA off s i),some (_,vs)=>if vs.length=sz then
   match σ.h n with
   |some (.row gr .live rs xs)=>if aA=rs then
    match vk xs k off s i vs with
    |some aq=>some (σ.dB n (.row gr .live rs aq))
    |none=>none
    else none
   |_=>none
   else none
  |_,_=>none
 |.gR x=>match σ.ev x with
  |.one (.ptr n k sz off)=>if(σ.h n).isSome=true then some (σ.put d (.one (.ptr n k sz off))) else none
  |.one (.cB xs off)=>some (σ.put d (.one (.cB xs off)))
  |_=>none
 |.bin op x y=>match vT op (σ.ev x) (σ.ev y) with
  |some c=>some (σ.put d (.one (.c c)))
  |none=>none
 |.pj op x y=>match AG op (σ.ev x) (σ.ev y) with
  |some c=>some (σ.put d (.one (.c c)))
  |none=>none
 |.un op x=>match C1 op (σ.ev x) with
  |some c=>some (σ.put d (.one (.c c)))
  |none=>none
 |.conv k x=>match σ.ev x with
  |.one (.c (.int _ n))=>some (σ.put d (.one (.c (.int k (k.wrap n)))))
  |_=>none
 |.kc m sz by_ zs l c=>match d,(σ.ev l).dj,(σ.ev c).dj with
  |some n,some a,some b=>if a<=b/\0<=a/\b.toNat*by_<=dK/\zs.length=sz then
   match σ.ins n (.row true m sz (List.replicate a.toNat zs)) with
   |some σ1=>some (σ1.put d (.one (.sl n sz 0 a.toNat)))
   |none=>none
   else none
  |_,_,_=>none
 |.slice sz x lo hi=>
  let QE:Option Int:=match lo with|none=>some 0|some l=>(σ.ev l).dj
  match σ.ev x,QE with
  |.one (.sl n s l0 len),some l=>
   match(match hi with|none=>some (len:Int)|some h=>(σ.ev h).dj) with
   |some h=>if s=sz/\0<=l/\l<=h/\h<=len/\(σ.h n).isSome=true then some (σ.put d (.one (.sl n s (l0+l.toNat) (h - l).toNat))) else none
   |none=>none
  |.one (.c (.list s xs)),some l=>
   match(match hi with|none=>some (xs.length:Int)|some h=>(σ.ev h).dj) with
   |some h=>if s=sz/\0<=l/\l<=h/\h<=xs.length then some (σ.put d (.one (.c (.list s ((xs.drop l.toNat).take (h - l).toNat))))) else none
   |none=>none
  |_,_=>none
 |.tail sz x lo=>match d,σ.ev x,(σ.ev lo).dj with
  |some n,.one (.sl a s 0 len),some l=>match σ.h a with
   |some (.row true m rs xs)=>if rs=sz/\s=sz/\len=xs.length/\0<=l/\l<=len then
    match(σ.del a).ins n (.row true m sz (xs.drop l.toNat)) with
    |some σ1=>some (σ1.put d (.one (.sl n sz 0 (xs.length - l.toNat))))
    |none=>none
    else none
   |_=>none
  |_,_,_=>none
 |.ar off x=>match σ.ev x with
  |.one (.ptr n k sz o)=>if(σ.h n).isSome=true then some (σ.put d (.one (.ptr n k sz (o+off)))) else none
  |.one (.cB xs o)=>some (σ.put d (.one (.cB xs (o+off))))
  |_=>none
 |.cb sz x i=>match σ.ev x,(σ.ev i).dj with
  |.one (.sl n s lo len),some k=>if s=sz/\0<=k/\k<len/\(σ.h n).isSome=true then some (σ.put d (.one (.ptr n (lo+k.toNat) s 0))) else none
  |.one (.c (.list s xs)),some k=>if s=sz/\0<=k then
   match xs[k.toNat]? with
   |some e=>some (σ.put d (.one (.cB e 0)))
   |none=>none
   else none
  |.one (.bx n kk aA off s len),some k=>match cq σ.h (.bx n kk aA off s len) with
   |some (.list s' ys)=>if s'=sz/\0<=k/\k<ys.length then some (σ.put d (.one (.cV n kk aA off sz k.toNat))) else none
   |_=>none
  |_,_=>none
 |.ext i x=>match σ.ev x with
  |.bq xs=>match xs[i]? with
   |some (ag,cs)=>some (σ.put d (lO ag cs))
   |none=>none
  |_=>none
 |.pz ag off sz x=>match σ.ev x with
  |.agg cs=>match sub cs off sz with
   |some l=>some (σ.put d (lO ag l))
   |none=>none
  |_=>none
 |.oW f bK x=>match σ.ev x with
  |.one (.sl n sz lo len)=>if(σ.h n).isSome=true then some (σ.put d (.agg (lJ bK len (.sl n sz lo len)))) else none
  |.one (.c (.list sz xs))=>some (σ.put d (.agg (lJ bK xs.length (.c (.list sz xs)))))
  |.one (.nil sz)=>some (σ.put d (.agg (lJ bK 0 (.nil sz))))
  |_=>none
 |.len x=>match σ.ev x with
  |.one (.sl n sz lo len)=>if(σ.h n).isSome=true then some (σ.put d (.one (.c (.int .i64 len)))) else none
  |.one (.c (.list sz xs))=>some (σ.put d (.one (.c (.int .i64 xs.length))))
  |.one (.nil sz)=>some (σ.put d (.one (.c (.int .i64 0))))
  |.one (.bx n k aA off sz len)=>match cq σ.h (.bx n k aA off sz len) with
   |some (.list s ys)=>some (σ.put d (.one (.c (.int .i64 ys.length))))
   |_=>none
  |_=>none
 |.append fl sz by_ x y=>match d with
  |none=>none
  |some n=>match qu σ sz (σ.ev x) with
   |none=>none
   |some (xs,m,σ1)=>match lV fl σ1 sz m (σ.ev y) with
    |none=>none
    |some (ys,m2,σ2)=>
     if(xs.length+ys.length)*by_<=dK then
      match σ2.ins n (.row true m2 sz (xs++ys)) with
      |some gW=>some (gW.put d (.one (.sl n sz 0 (xs.length+ys.length))))
      |none=>none
     else none
 |.copy sz x y=>match σ.ev x,σ.ev y with
  |.one (.sl n s lo len),.one c=>match σ.h n,cq σ.h c with
   |some (.row gr m rs xs),some (.list s' ys)=>if sz=1/\s=1/\rs=1/\s'=1/\m≠ .aF/\ga xs=true/\ga ys=true/\lo+len<=xs.length then
    some ((σ.dB n (.row gr m 1 (cu xs lo (ys.take len)))).put d (.one (.c (.int .i64 (Nat.min ys.length len:Nat))))) else none
   |_,_=>none
  |_,_=>none
 |.kV z x=>match σ.ev x with
  |.one (.sl n s lo len)=>match σ.h n with
   |some (.row gr m rs xs)=>if s=1/\rs=1/\z.eR=true/\m≠ .aF/\ga xs=true/\lo+len<=xs.length then
    some ((σ.dB n (.row gr m 1 (cu xs lo (List.replicate len [z])))).put d (.bq [])) else none
   |_=>none
  |_=>none
 |.mm mx x y=>match σ.ev x,σ.ev y with
  |.one (.c (.int k a)),.one (.c (.int k' b))=>if mx=true then(if a<b then some (σ.put d (.one (.c (.int k b)))) else some (σ.put d (.one (.c (.int k a)))))
   else(if b<a then some (σ.put d (.one (.c (.int k b)))) else some (σ.put d (.one (.c (.int k a)))))
  |_,_=>none
 |.call m f xs=>rQ T m d f (xs.map σ.ev) σ
 |.mP f xs=>match tZ T f (xs.map σ.ev) σ.h with
  |some v=>some (σ.put d v)
  |none=>none
 |.pU f xs=>match(xs.map σ.ev).mapM (fun v=>match v with|.one c=>if c.lv=true then none else some c|_=>none) with
  |some cs=>if cs.all ah.Ff=true then some (σ.put d (.one (.fn f cs))) else none
  |none=>none
 |.mQ m x xs=>match σ.ev x with
  |.one (.fn f cA)=>rQ T m d f (xs.map σ.ev++cA.map .one) σ
  |_=>none
 |.gb m f xs=>ud T m d f (xs.map σ.ev) σ
 |.dZ f xs=>qC T d f (xs.map σ.ev) σ
 |.mR f xs=>match pq T f (xs.map σ.ev) σ.h with
  |some v=>some (σ.put d v)
  |none=>none
 |.lZ f xs=>match ye T f (xs.map σ.ev) with
  |some v=>some (σ.put d v)
  |none=>none
def d9 (T:aO) (o:bV) (σ:St):Option St:=
 match o.guard with
 |none=>exec T o.dst o.op σ
 |some (s,kP)=>match σ.env s with
  |.one (.c (.bool b))=>if b=kP then exec T o.dst o.op σ else some (σ.put o.dst (.bq []))
  |.bq []=>some (σ.put o.dst (.bq []))
  |_=>none
def kv (T:aO):List bV->St->Option St
 |[],σ=>some σ
 |o::os,σ=>match d9 T o σ with
  |some σ'=>kv T os σ'
  |none=>none
def ah.fx (ok:Nat->Bool):ah->ah
 |.ptr n k sz off=>if ok n=true then .ptr n k sz off else .bn
 |.sl n sz lo len=>if ok n=true then .sl n sz lo len else .bn
 |.bx n k aA off sz len=>if ok n=true then .bx n k aA off sz len else .bn
 |.cV n k aA off sz i=>if ok n=true then .cV n k aA off sz i else .bn
 |x=>x
def ah.cX (ok:Nat->Bool):ah->ah
 |.fn f cA=>.fn f (cA.map (·.fx ok))
 |x=>x.fx ok
def aj.cX (ok:Nat->Bool):aj->aj
 |.one c=>.one (c.cX ok)
 |.agg cs=>.agg (cs.map (·.cX ok))
 |.bq xs=>.bq (xs.map fun x=>(x.1,x.2.map (·.cX ok)))
def ao.cX (ok:Nat->Bool):ao->ao
 |.box cs=>.box (cs.map (·.cX ok))
 |b=>b
def vZ:Nat->aj:=fun _=>.one .bn
def A9:Nat->Option ao:=fun _=>none
def X8:Nat->Bool:=fun _=>false
def ve (ok:Nat->Bool) (env:Nat->aj):List Nat->(Nat->aj)
 |[]=>vZ
 |s::ss=>av (ve ok env ss) s ((env s).cX ok)
def rl (ok:Nat->Bool) (h:Nat->Option ao):List Nat->(Nat->Option ao)
 |[]=>A9
 |s::ss=>if ok s=true then match h s with
  |some b=>av (rl ok h ss) s (some (b.cX ok))
  |none=>rl ok h ss
  else rl ok h ss
def vf (ok:Nat->Bool):List Nat->(Nat->Bool)
 |[]=>X8
 |s::ss=>if ok s=true then av (vf ok ss) s true else vf ok ss
def ah.w9 (n:Nat):ah->Bool
 |.ptr m _ _ _=>m==n
 |.sl m _ _ _=>m==n
 |.bx m _ _ _ _ _=>m==n
 |.cV m _ _ _ _ _=>m==n
 |_=>false
def ah.gS (n:Nat):ah->Bool
 |.fn _ cA=>cA.any (·.w9 n)
 |x=>x.w9 n
def aj.gS (n:Nat):aj->Bool
 |.one c=>c.gS n
 |.agg cs=>cs.any (·.gS n)
 |.bq xs=>xs.any fun x=>x.2.any (·.gS n)
def St.iU (σ:St) (ke kh:List Nat):Nat->Bool:=fun n=>kh.contains n&&(σ.h n).isSome&&
 (Nat.ble aK n||ke.any (fun s=>(σ.env s).gS n)||kh.any fun k=>match σ.h k with|some (.box cs)=>cs.any (·.gS n)|_=>false)
def St.iq (σ:St) (ke kh:List Nat):St:=
 {env:=ve (σ.iU ke kh) σ.env ke,h:=rl (σ.iU ke kh) σ.h kh,used:=fun n=>Nat.ble aK n||vf (σ.iU ke kh) kh n}
def nY (x c n:Nat):Nat:=if n=x then c else n
def ah.oU (x c:Nat):ah->ah
 |.ptr n k sz off=>.ptr (nY x c n) k sz off
 |.sl n sz lo len=>.sl (nY x c n) sz lo len
 |.bx n k aA off sz len=>.bx (nY x c n) k aA off sz len
 |.cV n k aA off sz i=>.cV (nY x c n) k aA off sz i
 |y=>y
def ah.bh (x c:Nat):ah->ah
 |.fn f cA=>.fn f (cA.map (·.oU x c))
 |y=>y.oU x c
def aj.bh (x c:Nat):aj->aj
 |.one y=>.one (y.bh x c)
 |.agg ys=>.agg (ys.map (·.bh x c))
 |.bq ys=>.bq (ys.map fun y=>(y.1,y.2.map (·.bh x c)))
def ao.bh (x c:Nat):ao->ao
 |.box cs=>.box (cs.map (·.bh x c))
 |b=>b
def St.bh (σ:St) (x c:Nat):Option St:=
 if x=c then some σ else if Nat.ble aK x=true then some σ else if σ.used c=true then none else
 some {env:=fun s=>(σ.env s).bh x c,h:=fun n=>if n=c then(σ.h x).map (·.bh x c) else if n=x then none else(σ.h n).map (·.bh x c),used:=fun n=>if n=c then σ.used x else if n=x then false else σ.used n}
def St.jS (σ:St) (c:Nat):Mode->St
 |.aF=>match σ.h c with
  |some (.row gr .ab rs xs)=>σ.dB c (.row gr .aF rs xs)
  |_=>σ
 |_=>σ
def St.canon (σ:St):Bool×Nat×Nat×Nat×Mode->Option St
 |(true,n,j,c,m)=>match σ.h n with
  |some (.box cs)=>match cs[j]? with
   |some (.sl a _ _ _)=>(σ.bh a c).map fun σ1=>σ1.jS c m
   |some (.nil sz)=>if 0<sz then match σ.ins c (.row true m sz []) with
    |some σ1=>some (σ1.dB n (.box (cs.set j (.sl c sz 0 0))))
    |none=>none
    else some σ
   |_=>some σ
  |_=>some σ
 |(false,n,j,c,m)=>match σ.env n with
  |.one (.sl a _ _ _)=>(σ.bh a c).map fun σ1=>σ1.jS c m
  |.one (.nil sz)=>if 0<sz then match σ.ins c (.row true m sz []) with
   |some σ1=>some (σ1.put (some n) (.one (.sl c sz 0 0)))
   |none=>none
   else some σ
  |_=>some σ
def St.sT (σ:St):List (Bool×Nat×Nat×Nat×Mode)->Option St
 |[]=>some σ
 |x::l=>match σ.canon x with
  |some σ1=>σ1.sT l
  |none=>none
def St.head (σ:St) (ke kh:List Nat) (cn:List (Bool×Nat×Nat×Nat×Mode)):Option St:=
 match((σ.iq ke kh).iq ke kh).sT cn with
 |some σ1=>some (σ1.iq ke kh)
 |none=>none
def aH.args:aH->List MO
 |.mv x|.box _ x|.load _ _ x|.nh _ _ x|.gR x|.un _ x|.conv _ x|.ar _ x|.ext _ x|.pz _ _ _ x|.oW _ _ x|.len x|.kV _ x=>[x]
 |.pick c x y=>[c,x,y]
 |.alloc _=>[]
 |.build _ ps=>ps.map (·.2.2)
 |.fC _ ps=>ps
 |.store _ x v=>[x,v]
 |.bin _ x y|.pj _ x y|.mm _ x y|.append _ _ _ x y|.copy _ x y|.cb _ x y|.tail _ x y=>[x,y]
 |.kc _ _ _ _ l c=>[l,c]
 |.slice _ x lo hi=>x::(lo.toList++hi.toList)
 |.call _ _ xs|.pU _ xs|.gb _ _ xs|.mP _ xs|.dZ _ xs|.mR _ xs|.lZ _ xs=>xs
 |.mQ _ x xs=>x::xs
def aH.ER:aH->Bool
 |.call ..|.mQ ..|.mP ..=>true
 |_=>false
def ah.sA:ah->List Nat
 |.ptr n _ _ _=>[n]
 |.sl n _ _ _=>[n]
 |.bx n _ _ _ _ _=>[n]
 |.cV n _ _ _ _ _=>[n]
 |_=>[]
def ah.nm:ah->List Nat
 |.fn _ cA=>cA.flatMap ah.sA
 |x=>x.sA
def aj.gD:aj->List Nat
 |.one c=>c.nm
 |.agg cs=>cs.flatMap ah.nm
 |.bq xs=>xs.flatMap fun x=>x.2.flatMap ah.nm
def AK (h:Nat->Option ao) (l:List Nat):List Nat:=l.flatMap fun n=>match h n with
 |some (.box cs)=>cs.flatMap ah.nm
 |_=>[]
def aH.iT (op:aH) (ev:MO->aj):List Nat:=op.args.flatMap fun x=>(ev x).gD
def aH.mJ (op:aH) (ev:MO->aj) (h:Nat->Option ao):List Nat:=cond op.ER (op.iT ev++AK h (op.iT ev)) (op.iT ev)
def aH.kq (op:aH) (ev:MO->aj) (h:Nat->Option ao):Option (List Nat):=
 match op with
 |.store _ x v=>match ev x with
  |.one (.ptr n _ _ _)=>match h n with
   |some (.box _)=>some [n]
   |some (.row ..)=>some (n::(ev v).gD)
   |none=>none
  |.one (.cV n _ _ _ _ _)=>some [n]
  |_=>none
 |.fC _ ps=>some (ps.flatMap fun p=>(ev p).gD)
 |.dZ _ xs=>some (xs.flatMap fun p=>(ev p).gD)
 |.append _ _ _ x y=>some ((ev x).gD++(ev y).gD)
 |.copy _ x _|.kV _ x=>match ev x with
  |.one (.sl n _ _ _)=>some [n]
  |_=>none
 |.gb ..|.tail ..|.nh ..=>none
 |_=>some []
abbrev FP:=List Nat×List Nat
def aH.fp (op:aH) (σ:St):Option FP:=(op.kq σ.ev σ.h).map fun w=>(op.mJ σ.ev σ.h,w)
def DM (f g:FP):Bool:=f.2.all (fun n=> !(g.1.contains n))&&g.2.all (fun n=> !(f.1.contains n))
def DN:Option FP->Option FP->Bool
 |some f,some g=>DM f g
 |_,_=>false
def mT (o:bV) (e:Nat->aj):Option aH:=
 match o.guard with
 |none=>some o.op
 |some (s,kP)=>match e s with
  |.one (.c (.bool b))=>if b=kP then some o.op else some (.mv (.k (.bq [])))
  |.bq []=>some (.mv (.k (.bq [])))
  |_=>none
def bV.fp (o:bV) (σ:St):Option FP:=
 match mT o σ.env with
 |some op=>op.fp σ
 |none=>none
def w5 (ps:List (Nat×Nat)) (fs:List (Option FP)):Bool:=ps.all fun p=>DN (fs.getD p.1 none) (fs.getD p.2 none)
def mU (T:aO):List bV->List (Option FP)->St->Option (List (Option FP)×St)
 |[],cU,σ=>some (cU,σ)
 |o::os,cU,σ=>match d9 T o σ with
  |some σ1=>mU T os (cU++[o.fp σ]) σ1
  |none=>none
def aE:Nat:=2^64
def B8:Nat->(St->Option sO)->St->Option sO
 |0,_,_=>none
 |n+1,f,σ=>match f σ with
  |some (.fG σ')=>B8 n f σ'
  |o=>o
def d8 (T:aO):lT->St->Option sO
 |.skip,σ=>some (.fG σ)
 |.ae _ ops,σ=>match kv T ops σ with
  |some σ'=>some (.fG σ')
  |none=>none
 |.qb ps ops,σ=>match mU T ops [] σ with
  |some (fs,σ')=>cond (w5 ps fs) (some (.fG σ')) none
  |none=>none
 |.seq a b,σ=>match d8 T a σ with
  |some (.fG σ')=>d8 T b σ'
  |o=>o
 |.cond c a b,σ=>match σ.ev c with
  |.one (.c (.bool t))=>if t=true then d8 T a σ else d8 T b σ
  |_=>none
 |.block id c,σ=>match d8 T c σ with
  |some (.ext i σ')=>if i=id then some (.fG σ') else some (.ext i σ')
  |o=>o
 |.join ke kh cn c,σ=>match d8 T c σ with
  |some (.fG σ')=>match σ'.head ke kh cn with
   |some σ1=>some (.fG σ1)
   |none=>none
  |o=>o
 |.loop id ke kh cn c,σ=>B8 aE (fun σ=>match σ.head ke kh cn with|some σ1=>d8 T c σ1|none=>none) σ
 |.exit id,σ=>some (.ext id σ)
 |.ret,σ=>some (.ret σ)
end Go.Am
