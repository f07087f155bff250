/- Am3: the abstract machine's code and its evaluator. No condition. -/
import Derived.Test.YtfkfmbhknekkdaaAm2
set_option linter.unusedVariables false
namespace Go.Am
inductive MO where
 |t (n:Nat)
 |k (v:ai)
inductive aw where
 |mv (x:MO)
 |pick (c x y:MO)
 |alloc (zs:List ae)
 |box (sz:Nat) (x:MO)
 |build (zs:List ae) (parts:List (Nat×Nat×MO))
 |gA (sz:Nat) (parts:List MO)
 |load (ag:Bool) (sz:Nat) (x:MO)
 |mC (ag:Bool) (sz:Nat) (x:MO)
 |store (sz:Nat) (x v:MO)
 |mG (x:MO)
 |bin (op:BinOp) (x y:MO)
 |kv (op:BinOp) (x y:MO)
 |un (op:UnOp) (x:MO)
 |conv (k:IntKind) (x:MO)
 |kg (m:Mode) (sz by_:Nat) (zs:List C) (l c:MO)
 |slice (sz:Nat) (x:MO) (lo hi:Option MO)
 |tail (sz:Nat) (x lo:MO)
 |aB (off:Nat) (x:MO)
 |cR (sz:Nat) (x i:MO)
 |ext (i:Nat) (x:MO)
 |m7 (ag:Bool) (off sz:Nat) (x:MO)
 |mK (f:FuncId) (bw:Bool) (x:MO)
 |len (x:MO)
 |append (fl:Bool) (sz by_:Nat) (x y:MO)
 |copy (sz:Nat) (x y:MO)
 |jz (z:C) (x:MO)
 |mm (mx:Bool) (x y:MO)
 |call (m:Mode) (f:FuncId) (xs:List MO)
 |kw (f:FuncId) (xs:List MO)
 |mF (f:FuncId) (xs:List MO)
 |ky (m:Mode) (x:MO) (xs:List MO)
 |iZ (m:Mode) (f:FuncId) (xs:List MO)
 |iu (f:FuncId) (xs:List MO)
 |kA (f:FuncId) (xs:List MO)
 |kx (f:FuncId) (xs:List MO)
 |kB (m:Mode) (f:FuncId) (xs:List MO)
 |kz (m:Mode) (f:FuncId) (x:MO) (xs:List MO)
structure bI where
 dst:Option Nat
 op:aw
 guard:Option (Nat×Bool)
inductive ld where
 |skip
 |af (pi:Bool) (ops:List bI)
 |sV (ps:List (Nat×Nat)) (ops:List bI)
 |seq (a b:ld)
 |cond (c:MO) (a b:ld)
 |block (id:Nat) (c:ld)
 |join (ke kh:List Nat) (cn:List (Bool×Nat×Nat×Nat×Mode)) (c:ld)
 |loop (id:Nat) (ke kh:List Nat) (cn:List (Bool×Nat×Nat×Nat×Mode)) (c:ld)
 |exit (id:Nat)
 |ret
inductive K where
 |one|agg|ptr
 deriving DecidableEq
abbrev Dv:=K×List C
abbrev aJ:=List (List (Option Mode))
structure aA where
 pure:List (FuncId×(List Dv->Option (List Dv)))
 rn:List (FuncId×aJ×(List Dv->Option (List Dv×List C)))
 vs:List (FuncId×(List Dv->Option (List Dv×List C)))
 ws:List (FuncId×aJ×(List Dv->Option (Nat×Nat)))
 xs:List (FuncId×Nat×(List Dv->Option (List Dv×List C)))
def aA.kF:List (FuncId×aJ×(List Dv->Option (List Dv×List C)))->FuncId->Option (aJ×(List Dv->Option (List Dv×List C)))
 |[],_=>none
 |(g,M)::l,f=>if f=g then some M else aA.kF l f
def aA.pt:List (FuncId×aJ×(List Dv->Option (Nat×Nat)))->FuncId->Option (aJ×(List Dv->Option (Nat×Nat)))
 |[],_=>none
 |(g,M)::l,f=>if f=g then some M else aA.pt l f
def aA.pu:List (FuncId×Nat×(List Dv->Option (List Dv×List C)))->FuncId->Option (Nat×(List Dv->Option (List Dv×List C)))
 |[],_=>none
 |(g,M)::l,f=>if f=g then some M else aA.pu l f
def aA.jb:List (FuncId×(List Dv->Option (List Dv×List C)))->FuncId->Option (List Dv->Option (List Dv×List C))
 |[],_=>none
 |(g,M)::l,f=>if f=g then some M else aA.jb l f
def aA.find:List (FuncId×(List Dv->Option (List Dv)))->FuncId->Option (List Dv->Option (List Dv))
 |[],_=>none
 |(g,M)::l,f=>if f=g then some M else aA.find l f
inductive qu where
 |fx (σ:St)
 |ext (id:Nat) (σ:St)
 |ret (σ:St)
def St.ev (σ:St):MO->ai
 |.t n=>σ.env n
 |.k v=>v
def St.put (σ:St) (d:Option Nat) (v:ai):St:=
 match d with
 |some n=>{σ with env:=aq σ.env n v}
 |none=>σ
def St.ins (σ:St) (n:Nat) (b:ak):Option St:=
 if σ.used n=true then none else some {σ with h:=aq σ.h n (some b),used:=aq σ.used n true}
def St.df (σ:St) (n:Nat) (b:ak):St:={σ with h:=aq σ.h n (some b)}
def St.del (σ:St) (n:Nat):St:={σ with h:=aq σ.h n none}
def ai.cells?:ai->Option (Bool×List ae)
 |.one .bg=>none
 |.one c=>some (false,[c])
 |.agg cs=>some (true,cs)
 |.aY _=>none
def jL:Bool->List ae->ai
 |true,cs=>.agg cs
 |false,[c]=>.one c
 |false,_=>.one .bg
def sub {α:Type} (l:List α) (off sz:Nat):Option (List α):=if off+sz<=l.length then some ((l.drop off).take sz) else none
def bY {α:Type} (l:List α) (off:Nat) (vs:List α):List α:=l.take off++vs++l.drop (off+vs.length)
def C.dX:C->Bool
 |.list ..=>false
 |_=>true
def eW (l:List C):Bool:=l.all C.dX
def fB (l:List (List C)):Bool:=l.all eW
def fT (n k rs:Nat):Nat->List C->List ae
 |_,[]=>[]
 |off,.list sz ys::l=>.bj n k rs off sz ys.length::fT n k rs (off+1) l
 |off,x::l=>.c x::fT n k rs (off+1) l
def loadAt (h:Nat->Option ak) (p:ae) (sz:Nat):Option (List ae):=
 match p with
 |.ptr n k au off=>
  match h n with
  |some (.box cs)=>if k=0 then sub cs off sz else none
  |some (.row _ m rs xs)=>
   if au=rs then
    match xs[k]? with
    |some e=>match sub e off sz with
     |some l=>some (if m=.live then fT n k rs off l else l.map .c)
     |none=>none
    |none=>none
   else none
  |none=>none
 |.bV xs off=>(sub xs off sz).map (·.map .c)
 |.bD xs off j n s len=>if off=j/\sz=1 then some [.sl n s 0 len] else if off+sz<=j then(sub xs off sz).map (·.map .c) else none
 |_=>none
def bS (h:Nat->Option ak):ae->Option C
 |.c x=>some x
 |.nil sz=>if 0<sz then some (.list sz []) else none
 |.sl n sz lo len=>
  match h n with
  |some (.row _ _ rs xs)=>if rs=sz/\lo+len<=xs.length then some (.list sz ((xs.drop lo).take len)) else none
  |_=>none
 |.bj n k au off sz len=>
  match h n with
  |some (.row _ .live rs xs)=>if rs=au then(xs[k]?).bind (·[off]?) else none
  |_=>none
 |_=>none
def gZ (h:Nat->Option ak):List ae->Option (List C)
 |[]=>some []
 |c::cs=>match bS h c,gZ h cs with
  |some x,some xs=>some (x::xs)
  |_,_=>none
def f7 (h:Nat->Option ak):ai->Option Dv
 |.one (.ptr n k sz off)=>
  match h n with
  |some (.box cs)=>if k=0/\off=0 then(gZ h cs).map fun l=>(.ptr,l) else none
  |_=>none
 |.one (.bV xs off)=>if off=0 then some (.ptr,xs) else none
 |.one c=>(bS h c).map fun x=>(.one,[x])
 |.agg cs=>(gZ h cs).map fun l=>(.agg,l)
 |.aY _=>none
def jr (h:Nat->Option ak):List ai->Option (List Dv)
 |[]=>some []
 |c::cs=>match f7 h c,jr h cs with
  |some x,some xs=>some (x::xs)
  |_,_=>none
def St.fe (σ:St):ae->Option (C×Bool×St)
 |.c x=>some (x,x.dX,σ)
 |.nil sz=>if 0<sz then some (.list sz [],true,σ) else none
 |.sl n sz lo len=>
  match σ.h n with
  |some (.row _ m rs xs)=>if rs=sz/\lo=0/\len<=xs.length then some (.list sz (xs.take len),decide (m≠ .aF),σ.del n) else none
  |_=>none
 |_=>none
def St.eS (σ:St):List ae->Option (List C×Bool×St)
 |[]=>some ([],true,σ)
 |c::cs=>match σ.fe c with
  |some (x,o,σ1)=>match σ1.eS cs with
   |some (xs,o',σ2)=>some (x::xs,o&&o',σ2)
   |none=>none
  |none=>none
def St.nZ (σ:St):ae->Option St
 |.ptr n _ _ _=>match σ.h n with
  |some (.box cs)=>match σ.eS cs with
   |some (xs,_,σ1)=>some (σ1.df n (.box (xs.map .c)))
   |none=>none
  |_=>none
 |_=>none
def St.jK (sz:Nat) (σ:St):List ai->Option (List (List C)×Bool×St)
 |[]=>some ([],true,σ)
 |v::vs=>match v.cells? with
  |some (_,cs)=>if cs.length=sz then
   match σ.eS cs with
   |some (e,o,σ1)=>match σ1.jK sz vs with
    |some (es,o',σ2)=>some (e::es,o&&o',σ2)
    |none=>none
   |none=>none
   else none
  |none=>none
def St.imp (m:Mode) (σ:St):Nat->List C->Option (List ae×Nat×St)
 |nm,[]=>some ([],nm,σ)
 |nm,.list sz xs::cs=>match σ.ins nm (.row true m sz xs) with
  |some σ1=>match σ1.imp m (nm+1) cs with
   |some (l,eP,σ2)=>some (.sl nm sz 0 xs.length::l,eP,σ2)
   |none=>none
  |none=>none
 |nm,x::cs=>match σ.imp m nm cs with
  |some (l,eP,σ2)=>some (.c x::l,eP,σ2)
  |none=>none
def St.gH (m:Mode) (σ:St):Nat->List Dv->Option (List (Bool×List ae)×St)
 |_,[]=>some ([],σ)
 |nm,(.ptr,_)::_=>none
 |nm,(k,cs)::ds=>match σ.imp m nm cs with
  |some (l,eP,σ1)=>match σ1.gH m eP ds with
   |some (ls,σ2)=>some ((decide (k=.agg),l)::ls,σ2)
   |none=>none
  |none=>none
def iR:List (Bool×List ae)->ai
 |[(ag,cs)]=>jL ag cs
 |l=>.aY l
def oz (d:Option Nat):Nat:=match d with|some n=>1000*(n+1)|none=>999
def fO:List Dv->Option (List (Bool×List ae))
 |[]=>some []
 |(.ptr,_)::_=>none
 |(k,cs)::ds=>match fO ds with
  |some ls=>some ((decide (k=.agg),cs.map .c)::ls)
  |none=>none
def rY (T:aA) (f:FuncId) (as:List ai) (h:Nat->Option ak):Option ai:=
 match jr h as with
 |some ds=>match aA.find T.pure f with
  |some M=>match M ds with
   |some rs=>match fO rs with
    |some ls=>some (iR ls)
    |none=>none
   |none=>none
  |none=>none
 |none=>none
def ph (T:aA) (m:Mode) (d:Option Nat) (f:FuncId) (as:List ai) (σ:St):Option St:=
 match jr σ.h as with
 |some ds=>match aA.find T.pure f with
  |some M=>match M ds with
   |some rs=>match σ.gH m (oz d) rs with
    |some (ls,σ1)=>some (σ1.put d (iR ls))
    |none=>none
   |none=>none
  |none=>none
 |none=>none
def mz:ae->Option C
 |.c x=>some x
 |.nil sz=>if 0<sz then some (.list sz []) else none
 |_=>none
def j5:List ae->Option (List C)
 |[]=>some []
 |c::cs=>match mz c,j5 cs with
  |some x,some xs=>some (x::xs)
  |_,_=>none
def ku (h:Nat->Option ak):ai->Option (Nat×List C)
 |.one (.ptr n k _ off)=>if k=0/\off=0 then match h n with
  |some (.box cs)=>match j5 cs with
   |some xs=>some (n,xs)
   |none=>none
  |_=>none
  else none
 |_=>none
def St.fY (σ:St):List ai->Option (List Dv×List Nat×St)
 |[]=>some ([],[],σ)
 |v::vs=>match ku σ.h v with
  |some (n,xs)=>match σ.fY vs with
   |some (ds,ns,σ1)=>some ((.ptr,xs)::ds,n::ns,σ1)
   |none=>none
  |none=>match v.cells? with
   |some (ag,cs)=>match σ.eS cs with
    |some (xs,_,σ1)=>match σ1.fY vs with
     |some (ds,ns,σ2)=>some ((if ag=true then .agg else .one,xs)::ds,ns,σ2)
     |none=>none
    |none=>none
   |none=>none
def St.oD (σ:St):List Nat->List C->Option St
 |[],[]=>some σ
 |[n],out=>match σ.h n with
  |some (.box cs)=>if cs.length=out.length then some (σ.df n (.box (out.map .c))) else none
  |_=>none
 |_,_=>none
def nN (σ:St) (d:Option Nat):List Dv->Option St
 |[(.ptr,cs)]=>match d with
  |some q=>match σ.ins q (.box (cs.map .c)) with
   |some σ1=>some (σ1.put d (.one (.ptr q 0 0 0)))
   |none=>none
  |none=>none
 |rs=>match fO rs with
  |some ls=>some (σ.put d (iR ls))
  |none=>none
def nT (T:aA) (d:Option Nat) (f:FuncId) (as:List ai) (σ:St):Option St:=
 match σ.fY as,aA.jb T.vs f with
 |some (ds,ns,σ1),some M=>match M ds with
  |some (rs,out)=>match σ1.oD ns out with
   |some σ2=>nN σ2 d rs
   |none=>none
  |none=>none
 |_,_=>none
def wZ:List ai->Option (List Dv)
 |[]=>some []
 |v::vs=>match v.cells? with
  |some (ag,cs)=>match j5 cs with
   |some xs=>match wZ vs with
    |some ds=>some ((if ag=true then .agg else .one,xs)::ds)
    |none=>none
   |none=>none
  |none=>none
def vR (T:aA) (f:FuncId) (as:List ai):Option ai:=
 match wZ as,aA.jb T.vs f with
 |some ds,some M=>match M ds with
  |some (rs,[])=>match fO rs with
   |some ls=>some (iR ls)
   |none=>none
  |_=>none
 |_,_=>none
theorem afd {c:ae} {x:C} (h:mz c=some x) (σ:St):∃o,σ.fe c=some (x,o,σ):=by
 cases c with
 |c y=>simp only[mz] at h;injection h with h;subst h;exact⟨_,rfl⟩
 |nil sz=>
  simp only[mz] at h
  split at h
  ·rename_i hp
   injection h with h
   subst h
   exact⟨_,if_pos hp⟩
  ·cases h
 |_=>simp[mz] at h
theorem VW:∀{cs:List ae} {xs:List C},j5 cs=some xs->∀σ:St,∃o,σ.eS cs=some (xs,o,σ)
 |[],xs,h,σ=>by simp only[j5] at h;injection h with h;subst h;exact⟨_,rfl⟩
 |c::cs,xs,h,σ=>by
  simp only[j5] at h
  split at h
  ·rename_i x ao e1 e2
   injection h with h
   subst h
   obtain⟨o1,h1⟩:=afd e1 σ
   obtain⟨o2,h2⟩:=VW e2 σ
   exact⟨o1&&o2,by simp only[St.eS,h1,h2]⟩
  ·cases h
theorem XG:∀{as:List ai} {ds:List Dv},wZ as=some ds->∀σ:St,σ.fY as=some (ds,[],σ)
 |[],ds,h,σ=>by simp only[wZ] at h;injection h with h;subst h;rfl
 |v::vs,ds,h,σ=>by
  simp only[wZ] at h
  split at h
  ·rename_i ag cs hc
   split at h
   ·rename_i xs hi
    split at h
    ·rename_i r9 hq
     injection h with h
     subst h
     have hp:ku σ.h v=none:=by
      unfold ku
      split
      ·simp only[ai.cells?] at hc
       injection hc with hc
       injection hc with _ hc
       subst hc
       simp[j5,mz] at hi
      ·rfl
     obtain⟨o,ht⟩:=VW hi σ
     simp only[St.fY,hp,hc,ht,XG hq σ]
    ·cases h
   ·cases h
  ·cases h
theorem aa1 {T:aA} {d:Option Nat} {f:FuncId} {as:List ai} {v:ai} (h:vR T f as=some v) (σ:St):nT T d f as σ=some (σ.put d v):=by
 unfold vR at h
 split at h
 ·rename_i ds M hq hM
  split at h
  ·rename_i rs lr
   split at h
   ·rename_i ls hl
    injection h with h
    subst h
    simp only[nT,XG hq σ,hM,lr,St.oD]
    unfold nN
    split
    ·simp[fO] at hl
    ·rw[hl]
   ·cases h
  ·cases h
 ·cases h
def C.qD:C->Bool
 |.list _ xs=>fB xs
 |_=>true
def C.ou:C->Bool
 |.list ..=>true
 |_=>false
def qG:Mode->List (List C)->Bool
 |.aj,xs=>fB xs
 |.live,xs=>xs.all fun e=>e.all C.qD
 |.aF,_=>false
inductive ct where
 |nil (sz:Nat)
 |row (n:Nat)
 |nest (n k off:Nat)
def pT (h:Nat->Option ak) (md:Mode):ae->Option (ct×C)
 |.nil sz=>if 0<sz/\md≠ .aF then some (.nil sz,.list sz []) else none
 |.sl n sz lo len=>match h n with
  |some (.row _ m rs xs)=>if m≠ .aF/\(md=.live->m=.live)/\rs=sz/\lo=0/\len=xs.length/\qG md xs=true then some (.row n,.list sz xs) else none
  |_=>none
 |.bj n k au off sz len=>match h n with
  |some (.row _ .live rs xs)=>if rs=au/\md=.aj then
   match(xs[k]?).bind (·[off]?) with
   |some (.list s ys)=>if fB ys=true then some (.nest n k off,.list s ys) else none
   |_=>none
   else none
  |_=>none
 |_=>none
def ct.de:ct->Option Nat
 |.nil _=>none
 |.row n=>some n
 |.nest n _ _=>some n
def ae.de:ae->Option Nat
 |.sl n _ _ _=>some n
 |.bj n _ _ _ _ _=>some n
 |_=>none
def ki:List (Option Mode)->List ae->List Nat
 |some _::fs,c::cs=>c.de.toList++ki fs cs
 |none::fs,_::cs=>ki fs cs
 |_,_=>[]
def gS (h h0:Nat->Option ak):List (Option Mode)->List ae->Option (List C×List (ct×Mode))
 |[],cs=>match gZ h0 cs with
  |some xs=>some (xs,[])
  |none=>none
 |none::fs,c::cs=>match bS h0 c,gS h h0 fs cs with
  |some x,some (xs,its)=>some (x::xs,its)
  |_,_=>none
 |some md::fs,c::cs=>match pT h md c,gS h h0 fs cs with
  |some (it,x),some (xs,its)=>some (x::xs,(it,md)::its)
  |_,_=>none
 |_::_,[]=>none
def lK:aJ->List (Bool×List ae)->List Nat
 |s::sig,a::as=>ki s a.2++lK sig as
 |_,_=>[]
def aJ.hd:aJ->List (Option Mode)
 |[]=>[]
 |s::_=>s
def aJ.tl:aJ->aJ
 |[]=>[]
 |_::sig=>sig
def jH (h h0:Nat->Option ak):aJ->List (Bool×List ae)->Option (List Dv×List (ct×Mode))
 |_,[]=>some ([],[])
 |sig,(ag,cs)::as=>match gS h h0 (aJ.hd sig) cs,jH h h0 (aJ.tl sig) as with
  |some (xs,its),some (ds,mA)=>some ((if ag=true then(.agg,xs) else(.one,xs))::ds,its++mA)
  |_,_=>none
def nz:List ai->Option (List (Bool×List ae))
 |[]=>some []
 |v::vs=>match v.cells?,nz vs with
  |some x,some xs=>some (x::xs)
  |_,_=>none
def dk (h:Nat->Option ak) (ns:List Nat):Nat->Option ak:=fun n=>if ns.contains n=true then none else h n
def St.lL (σ:St):ct->C->Option St
 |.nil _,_=>some σ
 |.row n,.list sz xs=>match σ.h n with
  |some (.row gr m rs _)=>if rs=sz then some (σ.df n (.row gr m rs xs)) else none
  |_=>none
 |.nest n k off,x=>match σ.h n with
  |some (.row gr m rs xs)=>match xs[k]? with
   |some e=>some (σ.df n (.row gr m rs (xs.set k (e.set off x))))
   |none=>none
  |_=>none
 |_,_=>none
def St.kT (σ:St):List (ct×Mode)->List C->Option St
 |[],[]=>some σ
 |it::its,x::xs=>match σ.lL it.1 x with
  |some σ1=>σ1.kT its xs
  |none=>none
 |_,_=>none
def nU (T:aA) (m:Mode) (d:Option Nat) (f:FuncId) (as:List ai) (σ:St):Option St:=
 match aA.kF T.rn f,nz as with
 |some (sig,M),some bT=>
  if(lK sig bT).Nodup then
   match jH σ.h (dk σ.h (lK sig bT)) sig bT with
   |some (ds,its)=>match M ds with
    |some (rs,cP)=>match σ.kT its cP with
     |some σ1=>match σ1.gH m (oz d) rs with
      |some (ls,σ2)=>some (σ2.put d (iR ls))
      |none=>none
     |none=>none
    |none=>none
   |none=>none
  else none
 |_,_=>none
def NH (s:List (Option Mode)) (n:Nat):Bool:=decide (s=[]\/(0<n/\s=List.replicate (n - 1) none++[some .aj]))
def uI (h:Nat->Option ak) (s:List (Option Mode)):ai->Option (K×List ae)
 |.one (.ptr n k _ off)=>match h n with
  |some (.box cs)=>if k=0/\off=0/\NH s cs.length=true then some (.ptr,cs) else none
  |_=>none
 |v=>match v.cells? with
  |some (ag,cs)=>some (if ag=true then .agg else .one,cs)
  |none=>none
def uJ (h:Nat->Option ak):aJ->List ai->Option (List (K×List ae))
 |_,[]=>some []
 |sig,v::vs=>match uI h (aJ.hd sig) v,uJ h (aJ.tl sig) vs with
  |some x,some xs=>some (x::xs)
  |_,_=>none
def uM:aJ->List (K×List ae)->List Nat
 |s::sig,a::as=>ki s a.2++uM sig as
 |_,_=>[]
def oF (h h0:Nat->Option ak):aJ->List (K×List ae)->Option (List Dv×List (ct×Mode))
 |_,[]=>some ([],[])
 |sig,(k,cs)::as=>match gS h h0 (aJ.hd sig) cs,oF h h0 (aJ.tl sig) as with
  |some (xs,its),some (ds,mA)=>some ((k,xs)::ds,its++mA)
  |_,_=>none
def r7 (T:aA) (m:Mode) (d:Option Nat) (f:FuncId) (as:List ai) (σ:St):Option St:=
 match aA.kF T.rn f with
 |some (sig,M)=>match uJ σ.h sig as with
  |some bT=>if(uM sig bT).Nodup then
   match oF σ.h (dk σ.h (uM sig bT)) sig bT with
   |some (ds,its)=>match M ds with
    |some (rs,cP)=>match σ.kT its cP with
     |some σ1=>match σ1.gH m (oz d) rs with
      |some (ls,σ2)=>some (σ2.put d (iR ls))
      |none=>none
     |none=>none
    |none=>none
   |none=>none
   else none
  |none=>none
 |none=>none
def vi:Nat->aJ
 |0=>[[some .aj]]
 |i+1=>[]::vi i
def dI (n:Nat):Dv:=(.one,[.int .i64 (n:Int)])
def xM (i lo hi:Nat) (M:List Dv->Option (List Dv×List C)) (ds:List Dv):Option (List Dv×List C):=
 match ds[i]? with
 |some (.one,[.list 1 _])=>M (dI lo::dI hi::ds)
 |_=>none
def Au (h:Nat->Option ak):ai->Option (Nat×Nat×Nat×Nat)
 |.one (.sl n s lo len)=>match h n with
  |some (.row _ _ rs xs)=>if s=1/\rs=1/\lo<xs.length/\lo+len<=xs.length then some (n,lo,len,xs.length) else none
  |_=>none
 |_=>none
def r8 (T:aA) (m:Mode) (d:Option Nat) (f:FuncId) (as:List ai) (σ:St):Option St:=
 match aA.pu T.xs f with
 |some (i,M)=>match as[i]? with
  |some a=>match Au σ.h a with
   |some (n,lo,len,N)=>nU {T with rn:=[(f,vi i,xM i lo (lo+len) M)]} m d f (as.set i (.one (.sl n 1 0 N))) σ
   |none=>none
  |none=>none
 |none=>none
def mX (T:aA) (f:FuncId) (as:List ai) (h:Nat->Option ak):Option ai:=
 match aA.pt T.ws f,nz as with
 |some (sig,M),some bT=>
  match lK sig bT with
  |[n]=>match jH h (dk h [n]) sig bT with
   |some (ds,[(.row n',_)])=>if n'=n then match h n,M ds with
    |some (.row _ _ sz _),some (lo,len)=>some (.one (.sl n sz lo len))
    |_,_=>none
    else none
   |_=>none
  |_=>none
 |_,_=>none
def x5 (op:BinOp) (k:IntKind) (a b:Int):Option C:=
 match op with
 |.add=>some (.int k (k.wrap (a+b)))
 |.sub=>some (.int k (k.wrap (a - b)))
 |.mul=>some (.int k (k.wrap (a*b)))
 |.quo=>if b=0 then none else some (.int k (k.wrap (a.tdiv b)))
 |.rem=>if b=0 then none else some (.int k (a.tmod b))
 |.and=>some (.int k (bits .and k a b))
 |.or=>some (.int k (bits .or k a b))
 |.xor=>some (.int k (bits .xor k a b))
 |.eql=>some (.bool (a==b))
 |.neq=>some (.bool (a !=b))
 |.lss=>some (.bool (decide (a<b)))
 |.leq=>some (.bool (decide (a<=b)))
 |.gtr=>some (.bool (decide (b<a)))
 |.geq=>some (.bool (decide (b<=a)))
 |_=>none
def CQ (op:BinOp) (k:IntKind) (a b:Int):Option C:=
 if b<0 then none else
 match op with
 |.shl=>some (.int k (k.wrap (a*2^(min b.toNat k.bits))))
 |.shr=>some (.int k (a/(2^(min b.toNat k.bits))))
 |_=>none
def BinOp.wO:BinOp->Bool
 |.shl|.shr=>true
 |_=>false
def tE (op:BinOp):ai->ai->Option C
 |.one (.c (.int k a)),.one (.c (.int k' b))=>if BinOp.wO op=true then CQ op k a b else if k=k' then x5 op k a b else none
 |_,_=>none
def x4 (op:BinOp):ai->ai->Option C
 |.one (.c (.bool a)),.one (.c (.bool b))=>match op with
  |.eql=>some (.bool (a==b))
  |.neq=>some (.bool (a !=b))
  |_=>none
 |_,_=>none
def Ak (op:UnOp):ai->Option C
 |.one (.c (.bool a))=>match op with
  |.not=>some (.bool (!a))
  |_=>none
 |.one (.c (.int k a))=>match op with
  |.neg=>some (.int k (k.wrap (0 - a)))
  |_=>none
 |_=>none
def ai.cZ:ai->Option Int
 |.one (.c (.int _ n))=>some n
 |_=>none
def fL:Nat:=140737488355328
def nF (ev:MO->ai):List ae->List (Nat×Nat×MO)->Option (List ae)
 |zs,[]=>some zs
 |zs,(off,sz,x)::ps=>match(ev x).cells? with
  |some (_,cs)=>if cs.length=sz/\off+sz<=zs.length then nF ev (bY zs off cs) ps else none
  |none=>none
def k7 (σ:St) (n:Nat) (gr:Bool) (m:Mode) (rs:Nat) (xs:List (List C)) (k off:Nat) (e:List C) (vs:List ae):Option St:=
 match sub e off vs.length with
 |none=>none
 |some eQ=>match σ.eS vs with
  |none=>none
  |some (cs,o,σ1)=>
   if m=.live then
    if eW cs=true/\eW eQ=true/\(σ1.h n).isSome=true then some (σ1.df n (.row gr m rs (xs.set k (bY e off cs)))) else none
   else if(σ1.h n).isSome=true then
    some (σ1.df n (.row gr (if o=true then m else .aF) rs (xs.set k (bY e off cs))))
   else none
def jA:List ae->Option (List C)
 |[]=>some []
 |.c x::l=>if x.dX=true then(jA l).map (x::·) else none
 |_::_=>none
def s9 (xs:List (List C)) (k off s i:Nat) (vs:List ae):Option (List (List C)):=
 match(xs[k]?).bind (·[off]?) with
 |some (.list s' ys)=>if s'=s/\vs.length=s/\i<ys.length/\fB ys=true then(jA vs).map fun cs=>xs.set k ((xs.getD k []).set off (.list s' (ys.set i cs))) else none
 |_=>none
def nM (σ:St) (sz:Nat):ai->Option (List (List C)×Mode×St)
 |.one (.nil _)=>some ([],.aj,σ)
 |.one (.sl a s 0 len)=>match σ.h a with
  |some (.row true m rs xs)=>if rs=sz/\s=sz/\len=xs.length then some (xs,m,σ.del a) else none
  |_=>none
 |_=>none
def jR (fl:Bool) (σ1:St) (sz:Nat) (m:Mode):ai->Option (List (List C)×Mode×St)
  |.one (.nil _)=>some ([],m,σ1)
  |.one (.c (.list s ys))=>if s=sz then(if(fl&&fB ys)=true then some (ys,m,σ1) else if m=.live then none else some (ys,.aF,σ1)) else none
  |.one (.sl b s lo len)=>match σ1.h b with
   |some (.row _ m' rs ys)=>if rs=sz/\s=sz/\lo+len<=ys.length then
       (if(fl&&fB ((ys.drop lo).take len))=true then some ((ys.drop lo).take len,m,σ1)
        else if lo=0/\len=ys.length then(if m=m' then some (ys,m,σ1.del b) else if m=.live\/m'=.live then none else some (ys,.aF,σ1.del b)) else none)
    else none
   |_=>none
  |_=>none
def ae.CB:ae->Bool
 |.bg=>false
 |_=>true
def jJ (bw:Bool) (n:Int) (c:ae):List ae:=if bw=true then[.c (.int .i64 n),.c (.int .i64 1),c] else[.c (.int .i64 1),.c (.int .i64 n),c]
def exec (T:aA) (d:Option Nat) (op:aw) (σ:St):Option St:=
 match op with
 |.mv x=>some (σ.put d (σ.ev x))
 |.pick c x y=>match σ.ev c with
  |.one (.c (.bool b))=>if b=true then some (σ.put d (σ.ev x)) else some (σ.put d (σ.ev y))
  |_=>none
 |.alloc zs=>match d with
  |some n=>match σ.ins n (.box zs) with
   |some σ1=>some (σ1.put d (.one (.ptr n 0 0 0)))
   |none=>none
  |none=>none
 |.box sz x=>match d,(σ.ev x).cells? with
  |some n,some (_,cs)=>if cs.length=sz then
   match σ.ins n (.box cs) with
   |some σ1=>some (σ1.put d (.one (.ptr n 0 0 0)))
   |none=>none
   else none
  |_,_=>none
 |.build zs parts=>match nF σ.ev zs parts with
  |some cs=>some (σ.put d (.agg cs))
  |none=>none
 |.gA sz parts=>match d,σ.jK sz (parts.map σ.ev) with
  |some n,some (es,o,σ1)=>match σ1.ins n (.row true (if o=true then .aj else .aF) sz es) with
   |some σ2=>some (σ2.put d (.one (.sl n sz 0 es.length)))
   |none=>none
  |_,_=>none
 |.load ag sz x=>match σ.ev x with
  |.one p=>match loadAt σ.h p sz with
   |some cs=>some (σ.put d (jL ag cs))
   |none=>none
  |_=>none
 |.mC ag sz x=>match σ.ev x with
  |.one p=>match σ.nZ p with
   |some σ1=>match loadAt σ1.h p sz with
    |some cs=>some (σ1.put d (jL ag cs))
    |none=>none
   |none=>none
  |_=>none
 |.store sz x v=>match σ.ev x,(σ.ev v).cells? with
  |.one (.ptr n k au off),some (_,vs)=>if vs.length=sz then
   match σ.h n with
   |some (.box cs)=>if k=0/\off+sz<=cs.length then some (σ.df n (.box (bY cs off vs))) else none
   |some (.row gr m rs xs)=>if au=rs then
    match xs[k]? with
    |some e=>k7 σ n gr m rs xs k off e vs
    |none=>none
    else none
   |none=>none
   else none
  |.one (.cH n k au off s i),some (_,vs)=>if vs.length=sz then
   match σ.h n with
   |some (.row gr .live rs xs)=>if au=rs then
    match s9 xs k off s i vs with
    |some ao=>some (σ.df n (.row gr .live rs ao))
    |none=>none
    else none
   |_=>none
   else none
  |_,_=>none
 |.mG x=>match σ.ev x with
  |.one (.ptr n k sz off)=>if(σ.h n).isSome=true then some (σ.put d (.one (.ptr n k sz off))) else none
  |.one (.bV xs off)=>some (σ.put d (.one (.bV xs off)))
  |.one (.bD xs off j n s len)=>some (σ.put d (.one (.bD xs off j n s len)))
  |_=>none
 |.bin op x y=>match tE op (σ.ev x) (σ.ev y) with
  |some c=>some (σ.put d (.one (.c c)))
  |none=>none
 |.kv op x y=>match x4 op (σ.ev x) (σ.ev y) with
  |some c=>some (σ.put d (.one (.c c)))
  |none=>none
 |.un op x=>match Ak op (σ.ev x) with
  |some c=>some (σ.put d (.one (.c c)))
  |none=>none
 |.conv k x=>match σ.ev x with
  |.one (.c (.int _ n))=>some (σ.put d (.one (.c (.int k (k.wrap n)))))
  |_=>none
 |.kg m sz by_ zs l c=>match d,(σ.ev l).cZ,(σ.ev c).cZ with
  |some n,some a,some b=>if a<=b/\0<=a/\b.toNat*by_<=fL/\zs.length=sz then
   match σ.ins n (.row true m sz (List.replicate a.toNat zs)) with
   |some σ1=>some (σ1.put d (.one (.sl n sz 0 a.toNat)))
   |none=>none
   else none
  |_,_,_=>none
 |.slice sz x lo hi=>
  let Mv:Option Int:=match lo with|none=>some 0|some l=>(σ.ev l).cZ
  match σ.ev x,Mv with
  |.one (.sl n s l0 len),some l=>
   match(match hi with|none=>some (len:Int)|some h=>(σ.ev h).cZ) with
   |some h=>if s=sz/\0<=l/\l<=h/\h<=len/\(σ.h n).isSome=true then some (σ.put d (.one (.sl n s (l0+l.toNat) (h - l).toNat))) else none
   |none=>none
  |.one (.c (.list s xs)),some l=>
   match(match hi with|none=>some (xs.length:Int)|some h=>(σ.ev h).cZ) with
   |some h=>if s=sz/\0<=l/\l<=h/\h<=xs.length then some (σ.put d (.one (.c (.list s ((xs.drop l.toNat).take (h - l).toNat))))) else none
   |none=>none
  |_,_=>none
 |.tail sz x lo=>match d,σ.ev x,(σ.ev lo).cZ with
  |some n,.one (.sl a s 0 len),some l=>match σ.h a with
   |some (.row true m rs xs)=>if rs=sz/\s=sz/\len=xs.length/\0<=l/\l<=len then
    match(σ.del a).ins n (.row true m sz (xs.drop l.toNat)) with
    |some σ1=>some (σ1.put d (.one (.sl n sz 0 (xs.length - l.toNat))))
    |none=>none
    else none
   |_=>none
  |_,_,_=>none
 |.aB off x=>match σ.ev x with
  |.one (.ptr n k sz o)=>if(σ.h n).isSome=true then some (σ.put d (.one (.ptr n k sz (o+off)))) else none
  |.one (.bV xs o)=>some (σ.put d (.one (.bV xs (o+off))))
  |.one (.bD xs o j n s len)=>some (σ.put d (.one (.bD xs (o+off) j n s len)))
  |_=>none
 |.cR sz x i=>match σ.ev x,(σ.ev i).cZ with
  |.one (.sl n s lo len),some k=>if s=sz/\0<=k/\k<len/\(σ.h n).isSome=true then some (σ.put d (.one (.ptr n (lo+k.toNat) s 0))) else none
  |.one (.c (.list s xs)),some k=>if s=sz/\0<=k then
   match xs[k.toNat]? with
   |some e=>some (σ.put d (.one (.bV e 0)))
   |none=>none
   else none
  |.one (.bj n kk au off s len),some k=>match bS σ.h (.bj n kk au off s len) with
   |some (.list s' ys)=>if s'=sz/\0<=k/\k<ys.length then some (σ.put d (.one (.cH n kk au off sz k.toNat))) else none
   |_=>none
  |_,_=>none
 |.ext i x=>match σ.ev x with
  |.aY xs=>match xs[i]? with
   |some (ag,cs)=>some (σ.put d (jL ag cs))
   |none=>none
  |_=>none
 |.m7 ag off sz x=>match σ.ev x with
  |.agg cs=>match sub cs off sz with
   |some l=>some (σ.put d (jL ag l))
   |none=>none
  |_=>none
 |.mK f bw x=>match σ.ev x with
  |.one (.sl n sz lo len)=>if(σ.h n).isSome=true then some (σ.put d (.agg (jJ bw len (.sl n sz lo len)))) else none
  |.one (.c (.list sz xs))=>some (σ.put d (.agg (jJ bw xs.length (.c (.list sz xs)))))
  |.one (.nil sz)=>some (σ.put d (.agg (jJ bw 0 (.nil sz))))
  |_=>none
 |.len x=>match σ.ev x with
  |.one (.sl n sz lo len)=>if(σ.h n).isSome=true then some (σ.put d (.one (.c (.int .i64 len)))) else none
  |.one (.c (.list sz xs))=>some (σ.put d (.one (.c (.int .i64 xs.length))))
  |.one (.nil sz)=>some (σ.put d (.one (.c (.int .i64 0))))
  |.one (.bj n k au off sz len)=>match bS σ.h (.bj n k au off sz len) with
   |some (.list s ys)=>some (σ.put d (.one (.c (.int .i64 ys.length))))
   |_=>none
  |_=>none
 |.append fl sz by_ x y=>match d with
  |none=>none
  |some n=>match nM σ sz (σ.ev x) with
   |none=>none
   |some (xs,m,σ1)=>match jR fl σ1 sz m (σ.ev y) with
    |none=>none
    |some (ys,m2,σ2)=>
     if(xs.length+ys.length)*by_<=fL then
      match σ2.ins n (.row true m2 sz (xs++ys)) with
      |some fm=>some (fm.put d (.one (.sl n sz 0 (xs.length+ys.length))))
      |none=>none
     else none
 |.copy sz x y=>match σ.ev x,σ.ev y with
  |.one (.sl n s lo len),.one c=>match σ.h n,bS σ.h c with
   |some (.row gr m rs xs),some (.list s' ys)=>if sz=1/\s=1/\rs=1/\s'=1/\m≠ .aF/\fB xs=true/\fB ys=true/\lo+len<=xs.length then
    some ((σ.df n (.row gr m 1 (bY xs lo (ys.take len)))).put d (.one (.c (.int .i64 (Nat.min ys.length len:Nat))))) else none
   |_,_=>none
  |_,_=>none
 |.jz z x=>match σ.ev x with
  |.one (.sl n s lo len)=>match σ.h n with
   |some (.row gr m rs xs)=>if s=1/\rs=1/\z.dX=true/\m≠ .aF/\fB xs=true/\lo+len<=xs.length then
    some ((σ.df n (.row gr m 1 (bY xs lo (List.replicate len [z])))).put d (.aY [])) else none
   |_=>none
  |_=>none
 |.mm mx x y=>match σ.ev x,σ.ev y with
  |.one (.c (.int k a)),.one (.c (.int k' b))=>if mx=true then(if a<b then some (σ.put d (.one (.c (.int k b)))) else some (σ.put d (.one (.c (.int k a)))))
   else(if b<a then some (σ.put d (.one (.c (.int k b)))) else some (σ.put d (.one (.c (.int k a)))))
  |_,_=>none
 |.call m f xs=>ph T m d f (xs.map σ.ev) σ
 |.kw f xs=>match rY T f (xs.map σ.ev) σ.h with
  |some v=>some (σ.put d v)
  |none=>none
 |.mF f xs=>match(xs.map σ.ev).mapM (fun v=>match v with|.one c=>if c.iO=true then none else some c|_=>none) with
  |some cs=>if cs.all ae.CB=true then some (σ.put d (.one (.fn f cs))) else none
  |none=>none
 |.ky m x xs=>match σ.ev x with
  |.one (.fn f bM)=>ph T m d f (xs.map σ.ev++bM.map .one) σ
  |_=>none
 |.iZ m f xs=>nU T m d f (xs.map σ.ev) σ
 |.iu f xs=>nT T d f (xs.map σ.ev) σ
 |.kA f xs=>match mX T f (xs.map σ.ev) σ.h with
  |some v=>some (σ.put d v)
  |none=>none
 |.kx f xs=>match vR T f (xs.map σ.ev) with
  |some v=>some (σ.put d v)
  |none=>none
 |.kB m f xs=>r8 T m d f (xs.map σ.ev) σ
 |.kz m f x xs=>match σ.ev x with
  |.one (.fn g bM)=>if g=f then r7 T m d f (xs.map σ.ev++bM.map .one) σ else none
  |_=>none
def dJ (T:aA) (o:bI) (σ:St):Option St:=
 match o.guard with
 |none=>exec T o.dst o.op σ
 |some (s,jt)=>match σ.env s with
  |.one (.c (.bool b))=>if b=jt then exec T o.dst o.op σ else some (σ.put o.dst (.aY []))
  |.aY []=>some (σ.put o.dst (.aY []))
  |_=>none
def ja (T:aA):List bI->St->Option St
 |[],σ=>some σ
 |o::os,σ=>match dJ T o σ with
  |some σ'=>ja T os σ'
  |none=>none
def ae.dT (ok:Nat->Bool):ae->ae
 |.ptr n k sz off=>if ok n=true then .ptr n k sz off else .bg
 |.sl n sz lo len=>if ok n=true then .sl n sz lo len else .bg
 |.bj n k au off sz len=>if ok n=true then .bj n k au off sz len else .bg
 |.cH n k au off sz i=>if ok n=true then .cH n k au off sz i else .bg
 |.bD xs off j n sz len=>if ok n=true then .bD xs off j n sz len else .bg
 |x=>x
def ae.cG (ok:Nat->Bool):ae->ae
 |.fn f bM=>.fn f (bM.map (·.dT ok))
 |x=>x.dT ok
def ai.cG (ok:Nat->Bool):ai->ai
 |.one c=>.one (c.cG ok)
 |.agg cs=>.agg (cs.map (·.cG ok))
 |.aY xs=>.aY (xs.map fun x=>(x.1,x.2.map (·.cG ok)))
def ak.cG (ok:Nat->Bool):ak->ak
 |.box cs=>.box (cs.map (·.cG ok))
 |b=>b
def yn:Nat->ai:=fun _=>.one .bg
def yo:Nat->Option ak:=fun _=>none
def Sw:Nat->Bool:=fun _=>false
def sW (ok:Nat->Bool) (env:Nat->ai):List Nat->(Nat->ai)
 |[]=>yn
 |s::ss=>aq (sW ok env ss) s ((env s).cG ok)
def oH (ok:Nat->Bool) (h:Nat->Option ak):List Nat->(Nat->Option ak)
 |[]=>yo
 |s::ss=>if ok s=true then match h s with
  |some b=>aq (oH ok h ss) s (some (b.cG ok))
  |none=>oH ok h ss
  else oH ok h ss
def sY (ok:Nat->Bool):List Nat->(Nat->Bool)
 |[]=>Sw
 |s::ss=>if ok s=true then aq (sY ok ss) s true else sY ok ss
def ae.uP (n:Nat):ae->Bool
 |.ptr m _ _ _=>m==n
 |.sl m _ _ _=>m==n
 |.bj m _ _ _ _ _=>m==n
 |.cH m _ _ _ _ _=>m==n
 |.bD _ _ _ m _ _=>m==n
 |_=>false
def ae.fU (n:Nat):ae->Bool
 |.fn _ bM=>bM.any (·.uP n)
 |x=>x.uP n
def ai.fU (n:Nat):ai->Bool
 |.one c=>c.fU n
 |.agg cs=>cs.any (·.fU n)
 |.aY xs=>xs.any fun x=>x.2.any (·.fU n)
def St.gU (σ:St) (ke kh:List Nat):Nat->Bool:=fun n=>kh.contains n&&(σ.h n).isSome&&
 (Nat.ble aZ n||ke.any (fun s=>(σ.env s).fU n)||kh.any fun k=>match σ.h k with|some (.box cs)=>cs.any (·.fU n)|_=>false)
def St.gv (σ:St) (ke kh:List Nat):St:=
 {env:=sW (σ.gU ke kh) σ.env ke,h:=oH (σ.gU ke kh) σ.h kh,used:=fun n=>Nat.ble aZ n||sY (σ.gU ke kh) kh n}
def kV (x c n:Nat):Nat:=if n=x then c else n
def ae.lM (x c:Nat):ae->ae
 |.ptr n k sz off=>.ptr (kV x c n) k sz off
 |.sl n sz lo len=>.sl (kV x c n) sz lo len
 |.bj n k au off sz len=>.bj (kV x c n) k au off sz len
 |.cH n k au off sz i=>.cH (kV x c n) k au off sz i
 |.bD xs off j n sz len=>.bD xs off j (kV x c n) sz len
 |y=>y
def ae.aO (x c:Nat):ae->ae
 |.fn f bM=>.fn f (bM.map (·.lM x c))
 |y=>y.lM x c
def ai.aO (x c:Nat):ai->ai
 |.one y=>.one (y.aO x c)
 |.agg ys=>.agg (ys.map (·.aO x c))
 |.aY ys=>.aY (ys.map fun y=>(y.1,y.2.map (·.aO x c)))
def ak.aO (x c:Nat):ak->ak
 |.box cs=>.box (cs.map (·.aO x c))
 |b=>b
def St.aO (σ:St) (x c:Nat):Option St:=
 if x=c then some σ else if Nat.ble aZ x=true then some σ else if σ.used c=true then none else
 some {env:=fun s=>(σ.env s).aO x c,h:=fun n=>if n=c then(σ.h x).map (·.aO x c) else if n=x then none else(σ.h n).map (·.aO x c),used:=fun n=>if n=c then σ.used x else if n=x then false else σ.used n}
def St.iE (σ:St) (c:Nat):Mode->St
 |.aF=>match σ.h c with
  |some (.row gr .aj rs xs)=>σ.df c (.row gr .aF rs xs)
  |_=>σ
 |_=>σ
def St.canon (σ:St):Bool×Nat×Nat×Nat×Mode->Option St
 |(true,n,j,c,m)=>match σ.h n with
  |some (.box cs)=>match cs[j]? with
   |some (.sl a _ _ _)=>(σ.aO a c).map fun σ1=>σ1.iE c m
   |some (.nil sz)=>if 0<sz then match σ.ins c (.row true m sz []) with
    |some σ1=>some (σ1.df n (.box (cs.set j (.sl c sz 0 0))))
    |none=>none
    else some σ
   |_=>some σ
  |_=>some σ
 |(false,n,j,c,m)=>match σ.env n with
  |.one (.sl a _ _ _)=>(σ.aO a c).map fun σ1=>σ1.iE c m
  |.one (.nil sz)=>if 0<sz then match σ.ins c (.row true m sz []) with
   |some σ1=>some (σ1.put (some n) (.one (.sl c sz 0 0)))
   |none=>none
   else some σ
  |_=>some σ
def St.qx (σ:St):List (Bool×Nat×Nat×Nat×Mode)->Option St
 |[]=>some σ
 |x::l=>match σ.canon x with
  |some σ1=>σ1.qx l
  |none=>none
def St.head (σ:St) (ke kh:List Nat) (cn:List (Bool×Nat×Nat×Nat×Mode)):Option St:=
 match((σ.gv ke kh).gv ke kh).qx cn with
 |some σ1=>some (σ1.gv ke kh)
 |none=>none
def aw.args:aw->List MO
 |.mv x|.box _ x|.load _ _ x|.mC _ _ x|.mG x|.un _ x|.conv _ x|.aB _ x|.ext _ x|.m7 _ _ _ x|.mK _ _ x|.len x|.jz _ x=>[x]
 |.pick c x y=>[c,x,y]
 |.alloc _=>[]
 |.build _ ps=>ps.map (·.2.2)
 |.gA _ ps=>ps
 |.store _ x v=>[x,v]
 |.bin _ x y|.kv _ x y|.mm _ x y|.append _ _ _ x y|.copy _ x y|.cR _ x y|.tail _ x y=>[x,y]
 |.kg _ _ _ _ l c=>[l,c]
 |.slice _ x lo hi=>x::(lo.toList++hi.toList)
 |.call _ _ xs|.mF _ xs|.iZ _ _ xs|.kw _ xs|.iu _ xs|.kA _ xs|.kx _ xs|.kB _ _ xs=>xs
 |.ky _ x xs|.kz _ _ x xs=>x::xs
def aw.Cf:aw->Bool
 |.call ..|.ky ..|.kw ..=>true
 |_=>false
def ae.pY:ae->List Nat
 |.ptr n _ _ _=>[n]
 |.sl n _ _ _=>[n]
 |.bj n _ _ _ _ _=>[n]
 |.cH n _ _ _ _ _=>[n]
 |.bD _ _ _ n _ _=>[n]
 |_=>[]
def ae.nm:ae->List Nat
 |.fn _ bM=>bM.flatMap ae.pY
 |x=>x.pY
def ai.fM:ai->List Nat
 |.one c=>c.nm
 |.agg cs=>cs.flatMap ae.nm
 |.aY xs=>xs.flatMap fun x=>x.2.flatMap ae.nm
def x7 (h:Nat->Option ak) (l:List Nat):List Nat:=l.flatMap fun n=>match h n with
 |some (.box cs)=>cs.flatMap ae.nm
 |_=>[]
def aw.gT (op:aw) (ev:MO->ai):List Nat:=op.args.flatMap fun x=>(ev x).fM
def aw.kl (op:aw) (ev:MO->ai) (h:Nat->Option ak):List Nat:=cond op.Cf (op.gT ev++x7 h (op.gT ev)) (op.gT ev)
def aw.iV (op:aw) (ev:MO->ai) (h:Nat->Option ak):Option (List Nat):=
 match op with
 |.store _ x v=>match ev x with
  |.one (.ptr n _ _ _)=>match h n with
   |some (.box _)=>some [n]
   |some (.row ..)=>some (n::(ev v).fM)
   |none=>none
  |.one (.cH n _ _ _ _ _)=>some [n]
  |_=>none
 |.gA _ ps=>some (ps.flatMap fun p=>(ev p).fM)
 |.iu _ xs=>some (xs.flatMap fun p=>(ev p).fM)
 |.append _ _ _ x y=>some ((ev x).fM++(ev y).fM)
 |.copy _ x _|.jz _ x=>match ev x with
  |.one (.sl n _ _ _)=>some [n]
  |_=>none
 |.iZ ..|.kB ..|.kz ..|.tail ..|.mC ..=>none
 |_=>some []
abbrev FP:=List Nat×List Nat
def aw.fp (op:aw) (σ:St):Option FP:=(op.iV σ.ev σ.h).map fun w=>(op.kl σ.ev σ.h,w)
def A8 (f g:FP):Bool:=f.2.all (fun n=> !(g.1.contains n))&&g.2.all (fun n=> !(f.1.contains n))
def A9:Option FP->Option FP->Bool
 |some f,some g=>A8 f g
 |_,_=>false
def kD (o:bI) (e:Nat->ai):Option aw:=
 match o.guard with
 |none=>some o.op
 |some (s,jt)=>match e s with
  |.one (.c (.bool b))=>if b=jt then some o.op else some (.mv (.k (.aY [])))
  |.aY []=>some (.mv (.k (.aY [])))
  |_=>none
def bI.fp (o:bI) (σ:St):Option FP:=
 match kD o σ.env with
 |some op=>op.fp σ
 |none=>none
def uK (ps:List (Nat×Nat)) (fs:List (Option FP)):Bool:=ps.all fun p=>A9 (fs.getD p.1 none) (fs.getD p.2 none)
def kE (T:aA):List bI->List (Option FP)->St->Option (List (Option FP)×St)
 |[],cF,σ=>some (cF,σ)
 |o::os,cF,σ=>match dJ T o σ with
  |some σ1=>kE T os (cF++[o.fp σ]) σ1
  |none=>none
def bh:Nat:=2^64
def zw:Nat->(St->Option qu)->St->Option qu
 |0,_,_=>none
 |n+1,f,σ=>match f σ with
  |some (.fx σ')=>zw n f σ'
  |o=>o
def dH (T:aA):ld->St->Option qu
 |.skip,σ=>some (.fx σ)
 |.af _ ops,σ=>match ja T ops σ with
  |some σ'=>some (.fx σ')
  |none=>none
 |.sV ps ops,σ=>match kE T ops [] σ with
  |some (fs,σ')=>cond (uK ps fs) (some (.fx σ')) none
  |none=>none
 |.seq a b,σ=>match dH T a σ with
  |some (.fx σ')=>dH T b σ'
  |o=>o
 |.cond c a b,σ=>match σ.ev c with
  |.one (.c (.bool t))=>if t=true then dH T a σ else dH T b σ
  |_=>none
 |.block id c,σ=>match dH T c σ with
  |some (.ext i σ')=>if i=id then some (.fx σ') else some (.ext i σ')
  |o=>o
 |.join ke kh cn c,σ=>match dH T c σ with
  |some (.fx σ')=>match σ'.head ke kh cn with
   |some σ1=>some (.fx σ1)
   |none=>none
  |o=>o
 |.loop id ke kh cn c,σ=>zw bh (fun σ=>match σ.head ke kh cn with|some σ1=>dH T c σ1|none=>none) σ
 |.exit id,σ=>some (.ext id σ)
 |.ret,σ=>some (.ret σ)
end Go.Am
