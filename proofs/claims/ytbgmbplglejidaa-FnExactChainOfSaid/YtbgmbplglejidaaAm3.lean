/- Am3: the abstract machine's code and its evaluator. No condition. -/
import Derived.Test.YtbgmbplglejidaaAm2
set_option linter.unusedVariables false
namespace Go.Am
inductive MO where
 |t (n:Nat)
 |k (v:aj)
inductive aF where
 |mv (x:MO)
 |pick (c x y:MO)
 |alloc (zs:List ah)
 |box (sz:Nat) (x:MO)
 |build (zs:List ah) (parts:List (Nat×Nat×MO))
 |e7 (sz:Nat) (parts:List MO)
 |load (ag:Bool) (sz:Nat) (x:MO)
 |mO (ag:Bool) (sz:Nat) (x:MO)
 |store (sz:Nat) (x v:MO)
 |od (x:MO)
 |bin (op:BinOp) (x y:MO)
 |me (op:BinOp) (x y:MO)
 |un (op:UnOp) (x:MO)
 |conv (k:IntKind) (x:MO)
 |jC (m:Mode) (sz by_:Nat) (zs:List C) (l c:MO)
 |slice (sz:Nat) (x:MO) (lo hi:Option MO)
 |tail (sz:Nat) (x lo:MO)
 |ao (off:Nat) (x:MO)
 |bm (sz:Nat) (x i:MO)
 |ext (i:Nat) (x:MO)
 |oM (ag:Bool) (off sz:Nat) (x:MO)
 |ou (f:FuncId) (bN:Bool) (x:MO)
 |len (x:MO)
 |append (fl:Bool) (sz by_:Nat) (x y:MO)
 |copy (sz:Nat) (x y:MO)
 |kB (z:C) (x:MO)
 |mm (mx:Bool) (x y:MO)
 |call (m:Mode) (f:FuncId) (xs:List MO)
 |mf (f:FuncId) (xs:List MO)
 |pf (f:FuncId) (xs:List MO)
 |mg (m:Mode) (x:MO) (xs:List MO)
 |eN (m:Mode) (f:FuncId) (xs:List MO)
 |jh (f:FuncId) (xs:List MO)
 |mh (f:FuncId) (xs:List MO)
 |lv (f:FuncId) (xs:List MO)
structure bK where
 dst:Option Nat
 op:aF
 guard:Option (Nat×Bool)
inductive lg where
 |skip
 |aa (re:Bool) (ops:List bK)
 |rS (ps:List (Nat×Nat)) (ops:List bK)
 |seq (a b:lg)
 |cond (c:MO) (a b:lg)
 |block (id:Nat) (c:lg)
 |join (ke kh:List Nat) (cn:List (Bool×Nat×Nat×Nat×Mode)) (c:lg)
 |loop (id:Nat) (ke kh:List Nat) (cn:List (Bool×Nat×Nat×Nat×Mode)) (c:lg)
 |exit (id:Nat)
 |ret
inductive K where
 |one|agg|ptr
 deriving DecidableEq
abbrev Dv:=K×List C
abbrev aN:=List (List (Option Mode))
structure aS where
 pure:List (FuncId×(List Dv->Option (List Dv)))
 BH:List (FuncId×aN×(List Dv->Option (List Dv×List C)))
 vs:List (FuncId×(List Dv->Option (List Dv×List C)))
 ws:List (FuncId×aN×(List Dv->Option (Nat×Nat)))
def aS.rk:List (FuncId×aN×(List Dv->Option (List Dv×List C)))->FuncId->Option (aN×(List Dv->Option (List Dv×List C)))
 |[],_=>none
 |(g,M)::l,f=>if f=g then some M else aS.rk l f
def aS.rl:List (FuncId×aN×(List Dv->Option (Nat×Nat)))->FuncId->Option (aN×(List Dv->Option (Nat×Nat)))
 |[],_=>none
 |(g,M)::l,f=>if f=g then some M else aS.rl l f
def aS.j9:List (FuncId×(List Dv->Option (List Dv×List C)))->FuncId->Option (List Dv->Option (List Dv×List C))
 |[],_=>none
 |(g,M)::l,f=>if f=g then some M else aS.j9 l f
def aS.find:List (FuncId×(List Dv->Option (List Dv)))->FuncId->Option (List Dv->Option (List Dv))
 |[],_=>none
 |(g,M)::l,f=>if f=g then some M else aS.find l f
inductive sq where
 |fy (σ:St)
 |ext (id:Nat) (σ:St)
 |ret (σ:St)
def St.ev (σ:St):MO->aj
 |.t n=>σ.env n
 |.k v=>v
def St.put (σ:St) (d:Option Nat) (v:aj):St:=
 match d with
 |some n=>{σ with env:=ax σ.env n v}
 |none=>σ
def St.ins (σ:St) (n:Nat) (b:aq):Option St:=
 if σ.used n=true then none else some {σ with h:=ax σ.h n (some b),used:=ax σ.used n true}
def St.du (σ:St) (n:Nat) (b:aq):St:={σ with h:=ax σ.h n (some b)}
def St.del (σ:St) (n:Nat):St:={σ with h:=ax σ.h n none}
def aj.cells?:aj->Option (Bool×List ah)
 |.one .bn=>none
 |.one c=>some (false,[c])
 |.agg cs=>some (true,cs)
 |.bo _=>none
def kZ:Bool->List ah->aj
 |true,cs=>.agg cs
 |false,[c]=>.one c
 |false,_=>.one .bn
def sub {α:Type} (l:List α) (off sz:Nat):Option (List α):=if off+sz<=l.length then some ((l.drop off).take sz) else none
def bX {α:Type} (l:List α) (off:Nat) (vs:List α):List α:=l.take off++vs++l.drop (off+vs.length)
def C.eF:C->Bool
 |.list ..=>false
 |_=>true
def fq (l:List C):Bool:=l.all C.eF
def fQ (l:List (List C)):Bool:=l.all fq
def gz (n k rs:Nat):Nat->List C->List ah
 |_,[]=>[]
 |off,.list sz ys::l=>.bx n k rs off sz ys.length::gz n k rs (off+1) l
 |off,x::l=>.c x::gz n k rs (off+1) l
def loadAt (h:Nat->Option aq) (p:ah) (sz:Nat):Option (List ah):=
 match p with
 |.ptr n k aD off=>
  match h n with
  |some (.box cs)=>if k=0 then sub cs off sz else none
  |some (.row _ m rs xs)=>
   if aD=rs then
    match xs[k]? with
    |some e=>match sub e off sz with
     |some l=>some (if m=.live then gz n k rs off l else l.map .c)
     |none=>none
    |none=>none
   else none
  |none=>none
 |.cj xs off=>(sub xs off sz).map (·.map .c)
 |_=>none
def bU (h:Nat->Option aq):ah->Option C
 |.c x=>some x
 |.nil sz=>if 0<sz then some (.list sz []) else none
 |.sl n sz lo len=>
  match h n with
  |some (.row _ _ rs xs)=>if rs=sz/\lo+len<=xs.length then some (.list sz ((xs.drop lo).take len)) else none
  |_=>none
 |.bx n k aD off sz len=>
  match h n with
  |some (.row _ .live rs xs)=>if rs=aD then(xs[k]?).bind (·[off]?) else none
  |_=>none
 |_=>none
def gB (h:Nat->Option aq):List ah->Option (List C)
 |[]=>some []
 |c::cs=>match bU h c,gB h cs with
  |some x,some xs=>some (x::xs)
  |_,_=>none
def ib (h:Nat->Option aq):aj->Option Dv
 |.one (.ptr n k sz off)=>
  match h n with
  |some (.box cs)=>if k=0/\off=0 then(gB h cs).map fun l=>(.ptr,l) else none
  |_=>none
 |.one (.cj xs off)=>if off=0 then some (.ptr,xs) else none
 |.one c=>(bU h c).map fun x=>(.one,[x])
 |.agg cs=>(gB h cs).map fun l=>(.agg,l)
 |.bo _=>none
def kw (h:Nat->Option aq):List aj->Option (List Dv)
 |[]=>some []
 |c::cs=>match ib h c,kw h cs with
  |some x,some xs=>some (x::xs)
  |_,_=>none
def St.fG (σ:St):ah->Option (C×Bool×St)
 |.c x=>some (x,x.eF,σ)
 |.nil sz=>if 0<sz then some (.list sz [],true,σ) else none
 |.sl n sz lo len=>
  match σ.h n with
  |some (.row _ m rs xs)=>if rs=sz/\lo=0/\len<=xs.length then some (.list sz (xs.take len),decide (m≠ .aO),σ.del n) else none
  |_=>none
 |_=>none
def St.fg (σ:St):List ah->Option (List C×Bool×St)
 |[]=>some ([],true,σ)
 |c::cs=>match σ.fG c with
  |some (x,o,σ1)=>match σ1.fg cs with
   |some (xs,o',σ2)=>some (x::xs,o&&o',σ2)
   |none=>none
  |none=>none
def St.pW (σ:St):ah->Option St
 |.ptr n _ _ _=>match σ.h n with
  |some (.box cs)=>match σ.fg cs with
   |some (xs,_,σ1)=>some (σ1.du n (.box (xs.map .c)))
   |none=>none
  |_=>none
 |_=>none
def St.kY (sz:Nat) (σ:St):List aj->Option (List (List C)×Bool×St)
 |[]=>some ([],true,σ)
 |v::vs=>match v.cells? with
  |some (_,cs)=>if cs.length=sz then
   match σ.fg cs with
   |some (e,o,σ1)=>match σ1.kY sz vs with
    |some (es,o',σ2)=>some (e::es,o&&o',σ2)
    |none=>none
   |none=>none
   else none
  |none=>none
def St.imp (m:Mode) (σ:St):Nat->List C->Option (List ah×Nat×St)
 |nm,[]=>some ([],nm,σ)
 |nm,.list sz xs::cs=>match σ.ins nm (.row true m sz xs) with
  |some σ1=>match σ1.imp m (nm+1) cs with
   |some (l,fc,σ2)=>some (.sl nm sz 0 xs.length::l,fc,σ2)
   |none=>none
  |none=>none
 |nm,x::cs=>match σ.imp m nm cs with
  |some (l,fc,σ2)=>some (.c x::l,fc,σ2)
  |none=>none
def St.jt (m:Mode) (σ:St):Nat->List Dv->Option (List (Bool×List ah)×St)
 |_,[]=>some ([],σ)
 |nm,(.ptr,_)::_=>none
 |nm,(k,cs)::ds=>match σ.imp m nm cs with
  |some (l,fc,σ1)=>match σ1.jt m fc ds with
   |some (ls,σ2)=>some ((decide (k=.agg),l)::ls,σ2)
   |none=>none
  |none=>none
def kQ:List (Bool×List ah)->aj
 |[(ag,cs)]=>kZ ag cs
 |l=>.bo l
def y8 (d:Option Nat):Nat:=match d with|some n=>1000*(n+1)|none=>999
def gj:List Dv->Option (List (Bool×List ah))
 |[]=>some []
 |(.ptr,_)::_=>none
 |(k,cs)::ds=>match gj ds with
  |some ls=>some ((decide (k=.agg),cs.map .c)::ls)
  |none=>none
def tQ (T:aS) (f:FuncId) (as:List aj) (h:Nat->Option aq):Option aj:=
 match kw h as with
 |some ds=>match aS.find T.pure f with
  |some M=>match M ds with
   |some rs=>match gj rs with
    |some ls=>some (kQ ls)
    |none=>none
   |none=>none
  |none=>none
 |none=>none
def rb (T:aS) (m:Mode) (d:Option Nat) (f:FuncId) (as:List aj) (σ:St):Option St:=
 match kw σ.h as with
 |some ds=>match aS.find T.pure f with
  |some M=>match M ds with
   |some rs=>match σ.jt m (y8 d) rs with
    |some (ls,σ1)=>some (σ1.put d (kQ ls))
    |none=>none
   |none=>none
  |none=>none
 |none=>none
def nW:ah->Option C
 |.c x=>some x
 |.nil sz=>if 0<sz then some (.list sz []) else none
 |_=>none
def jr:List ah->Option (List C)
 |[]=>some []
 |c::cs=>match nW c,jr cs with
  |some x,some xs=>some (x::xs)
  |_,_=>none
def lr (h:Nat->Option aq):aj->Option (Nat×List C)
 |.one (.ptr n k _ off)=>if k=0/\off=0 then match h n with
  |some (.box cs)=>match jr cs with
   |some xs=>some (n,xs)
   |none=>none
  |_=>none
  else none
 |_=>none
def St.gF (σ:St):List aj->Option (List Dv×List Nat×St)
 |[]=>some ([],[],σ)
 |v::vs=>match lr σ.h v with
  |some (n,xs)=>match σ.gF vs with
   |some (ds,ns,σ1)=>some ((.ptr,xs)::ds,n::ns,σ1)
   |none=>none
  |none=>match v.cells? with
   |some (ag,cs)=>match σ.fg cs with
    |some (xs,_,σ1)=>match σ1.gF vs with
     |some (ds,ns,σ2)=>some ((if ag=true then .agg else .one,xs)::ds,ns,σ2)
     |none=>none
    |none=>none
   |none=>none
def St.qF (σ:St):List Nat->List C->Option St
 |[],[]=>some σ
 |[n],out=>match σ.h n with
  |some (.box cs)=>if cs.length=out.length then some (σ.du n (.box (out.map .c))) else none
  |_=>none
 |_,_=>none
def pK (σ:St) (d:Option Nat):List Dv->Option St
 |[(.ptr,cs)]=>match d with
  |some q=>match σ.ins q (.box (cs.map .c)) with
   |some σ1=>some (σ1.put d (.one (.ptr q 0 0 0)))
   |none=>none
  |none=>none
 |rs=>match gj rs with
  |some ls=>some (σ.put d (kQ ls))
  |none=>none
def pQ (T:aS) (d:Option Nat) (f:FuncId) (as:List aj) (σ:St):Option St:=
 match σ.gF as,aS.j9 T.vs f with
 |some (ds,ns,σ1),some M=>match M ds with
  |some (rs,out)=>match σ1.qF ns out with
   |some σ2=>pK σ2 d rs
   |none=>none
  |none=>none
 |_,_=>none
def zg:List aj->Option (List Dv)
 |[]=>some []
 |v::vs=>match v.cells? with
  |some (ag,cs)=>match jr cs with
   |some xs=>match zg vs with
    |some ds=>some ((if ag=true then .agg else .one,xs)::ds)
    |none=>none
   |none=>none
  |none=>none
def x9 (T:aS) (f:FuncId) (as:List aj):Option aj:=
 match zg as,aS.j9 T.vs f with
 |some ds,some M=>match M ds with
  |some (rs,[])=>match gj rs with
   |some ls=>some (kQ ls)
   |none=>none
  |_=>none
 |_,_=>none
theorem aiM {c:ah} {x:C} (h:nW c=some x) (σ:St):∃o,σ.fG c=some (x,o,σ):=by
 cases c with
 |c y=>simp only[nW] at h;injection h with h;subst h;exact⟨_,rfl⟩
 |nil sz=>
  simp only[nW] at h
  split at h
  ·rename_i hp
   injection h with h
   subst h
   exact⟨_,if_pos hp⟩
  ·cases h
 |_=>simp[nW] at h
theorem aal:∀{cs:List ah} {xs:List C},jr cs=some xs->∀σ:St,∃o,σ.fg cs=some (xs,o,σ)
 |[],xs,h,σ=>by simp only[jr] at h;injection h with h;subst h;exact⟨_,rfl⟩
 |c::cs,xs,h,σ=>by
  simp only[jr] at h
  split at h
  ·rename_i x ar e1 e2
   injection h with h
   subst h
   obtain⟨o1,h1⟩:=aiM e1 σ
   obtain⟨o2,h2⟩:=aal e2 σ
   exact⟨o1&&o2,by simp only[St.fg,h1,h2]⟩
  ·cases h
theorem abU:∀{as:List aj} {ds:List Dv},zg as=some ds->∀σ:St,σ.gF as=some (ds,[],σ)
 |[],ds,h,σ=>by simp only[zg] at h;injection h with h;subst h;rfl
 |v::vs,ds,h,σ=>by
  simp only[zg] at h
  split at h
  ·rename_i ag cs hc
   split at h
   ·rename_i xs hi
    split at h
    ·rename_i tW hq
     injection h with h
     subst h
     have hp:lr σ.h v=none:=by
      unfold lr
      split
      ·simp only[aj.cells?] at hc
       injection hc with hc
       injection hc with _ hc
       subst hc
       simp[jr,nW] at hi
      ·rfl
     obtain⟨o,ht⟩:=aal hi σ
     simp only[St.gF,hp,hc,ht,abU hq σ]
    ·cases h
   ·cases h
  ·cases h
theorem afk {T:aS} {d:Option Nat} {f:FuncId} {as:List aj} {v:aj} (h:x9 T f as=some v) (σ:St):pQ T d f as σ=some (σ.put d v):=by
 unfold x9 at h
 split at h
 ·rename_i ds M hq hM
  split at h
  ·rename_i rs oP
   split at h
   ·rename_i ls hl
    injection h with h
    subst h
    simp only[pQ,abU hq σ,hM,oP,St.qF]
    unfold pK
    split
    ·simp[gj] at hl
    ·rw[hl]
   ·cases h
  ·cases h
 ·cases h
def C.sE:C->Bool
 |.list _ xs=>fQ xs
 |_=>true
def C.qt:C->Bool
 |.list ..=>true
 |_=>false
def sJ:Mode->List (List C)->Bool
 |.ab,xs=>fQ xs
 |.live,xs=>xs.all fun e=>e.all C.sE
 |.aO,_=>false
inductive cI where
 |nil (sz:Nat)
 |row (n:Nat)
 |nest (n k off:Nat)
def rQ (h:Nat->Option aq) (md:Mode):ah->Option (cI×C)
 |.nil sz=>if 0<sz/\md≠ .aO then some (.nil sz,.list sz []) else none
 |.sl n sz lo len=>match h n with
  |some (.row _ m rs xs)=>if m≠ .aO/\(md=.live->m=.live)/\rs=sz/\lo=0/\len=xs.length/\sJ md xs=true then some (.row n,.list sz xs) else none
  |_=>none
 |.bx n k aD off sz len=>match h n with
  |some (.row _ .live rs xs)=>if rs=aD/\md=.ab then
   match(xs[k]?).bind (·[off]?) with
   |some (.list s ys)=>if fQ ys=true then some (.nest n k off,.list s ys) else none
   |_=>none
   else none
  |_=>none
 |_=>none
def cI.dB:cI->Option Nat
 |.nil _=>none
 |.row n=>some n
 |.nest n _ _=>some n
def ah.dB:ah->Option Nat
 |.sl n _ _ _=>some n
 |.bx n _ _ _ _ _=>some n
 |_=>none
def mQ:List (Option Mode)->List ah->List Nat
 |some _::fs,c::cs=>c.dB.toList++mQ fs cs
 |none::fs,_::cs=>mQ fs cs
 |_,_=>[]
def jA (h h0:Nat->Option aq):List (Option Mode)->List ah->Option (List C×List (cI×Mode))
 |[],cs=>match gB h0 cs with
  |some xs=>some (xs,[])
  |none=>none
 |none::fs,c::cs=>match bU h0 c,jA h h0 fs cs with
  |some x,some (xs,its)=>some (x::xs,its)
  |_,_=>none
 |some md::fs,c::cs=>match rQ h md c,jA h h0 fs cs with
  |some (it,x),some (xs,its)=>some (x::xs,(it,md)::its)
  |_,_=>none
 |_::_,[]=>none
def jW:aN->List (Bool×List ah)->List Nat
 |s::sig,a::as=>mQ s a.2++jW sig as
 |_,_=>[]
def aN.hd:aN->List (Option Mode)
 |[]=>[]
 |s::_=>s
def aN.tl:aN->aN
 |[]=>[]
 |_::sig=>sig
def kO (h h0:Nat->Option aq):aN->List (Bool×List ah)->Option (List Dv×List (cI×Mode))
 |_,[]=>some ([],[])
 |sig,(ag,cs)::as=>match jA h h0 (aN.hd sig) cs,kO h h0 (aN.tl sig) as with
  |some (xs,its),some (ds,uS)=>some ((if ag=true then(.agg,xs) else(.one,xs))::ds,its++uS)
  |_,_=>none
def o8:List aj->Option (List (Bool×List ah))
 |[]=>some []
 |v::vs=>match v.cells?,o8 vs with
  |some x,some xs=>some (x::xs)
  |_,_=>none
def dJ (h:Nat->Option aq) (ns:List Nat):Nat->Option aq:=fun n=>if ns.contains n=true then none else h n
def St.nr (σ:St):cI->C->Option St
 |.nil _,_=>some σ
 |.row n,.list sz xs=>match σ.h n with
  |some (.row gr m rs _)=>if rs=sz then some (σ.du n (.row gr m rs xs)) else none
  |_=>none
 |.nest n k off,x=>match σ.h n with
  |some (.row gr m rs xs)=>match xs[k]? with
   |some e=>some (σ.du n (.row gr m rs (xs.set k (e.set off x))))
   |none=>none
  |_=>none
 |_,_=>none
def St.pw (σ:St):List (cI×Mode)->List C->Option St
 |[],[]=>some σ
 |it::its,x::xs=>match σ.nr it.1 x with
  |some σ1=>σ1.pw its xs
  |none=>none
 |_,_=>none
def tV (T:aS) (m:Mode) (d:Option Nat) (f:FuncId) (as:List aj) (σ:St):Option St:=
 match aS.rk T.BH f,o8 as with
 |some (sig,M),some dq=>
  if(jW sig dq).Nodup then
   match kO σ.h (dJ σ.h (jW sig dq)) sig dq with
   |some (ds,its)=>match M ds with
    |some (rs,eI)=>match σ.pw its eI with
     |some σ1=>match σ1.jt m (y8 d) rs with
      |some (ls,σ2)=>some (σ2.put d (kQ ls))
      |none=>none
     |none=>none
    |none=>none
   |none=>none
  else none
 |_,_=>none
def oI (T:aS) (f:FuncId) (as:List aj) (h:Nat->Option aq):Option aj:=
 match aS.rl T.ws f,o8 as with
 |some (sig,M),some dq=>
  match jW sig dq with
  |[n]=>match kO h (dJ h [n]) sig dq with
   |some (ds,[(.row n',_)])=>if n'=n then match h n,M ds with
    |some (.row _ _ sz _),some (lo,len)=>some (.one (.sl n sz lo len))
    |_,_=>none
    else none
   |_=>none
  |_=>none
 |_,_=>none
def An (op:BinOp) (k:IntKind) (a b:Int):Option C:=
 match op with
 |.add=>some (.int k (k.wrap (a+b)))
 |.sub=>some (.int k (k.wrap (a - b)))
 |.mul=>some (.int k (k.wrap (a*b)))
 |.quo=>if b=0 then none else some (.int k (k.wrap (a.tdiv b)))
 |.rem=>if b=0 then none else some (.int k (a.tmod b))
 |.and=>some (.int k (bits .and k a b))
 |.or=>some (.int k (bits .or k a b))
 |.xor=>some (.int k (bits .xor k a b))
 |.eql=>some (.bool (a==b))
 |.neq=>some (.bool (a !=b))
 |.lss=>some (.bool (decide (a<b)))
 |.leq=>some (.bool (decide (a<=b)))
 |.gtr=>some (.bool (decide (b<a)))
 |.geq=>some (.bool (decide (b<=a)))
 |_=>none
def E7 (op:BinOp) (k:IntKind) (a b:Int):Option C:=
 if b<0 then none else
 match op with
 |.shl=>some (.int k (k.wrap (a*2^(min b.toNat k.bits))))
 |.shr=>some (.int k (a/(2^(min b.toNat k.bits))))
 |_=>none
def BinOp.yR:BinOp->Bool
 |.shl|.shr=>true
 |_=>false
def vH (op:BinOp):aj->aj->Option C
 |.one (.c (.int k a)),.one (.c (.int k' b))=>if BinOp.yR op=true then E7 op k a b else if k=k' then An op k a b else none
 |_,_=>none
def Al (op:BinOp):aj->aj->Option C
 |.one (.c (.bool a)),.one (.c (.bool b))=>match op with
  |.eql=>some (.bool (a==b))
  |.neq=>some (.bool (a !=b))
  |_=>none
 |_,_=>none
def Cw (op:UnOp):aj->Option C
 |.one (.c (.bool a))=>match op with
  |.not=>some (.bool (!a))
  |_=>none
 |.one (.c (.int k a))=>match op with
  |.neg=>some (.int k (k.wrap (0 - a)))
  |_=>none
 |_=>none
def aj.dh:aj->Option Int
 |.one (.c (.int _ n))=>some n
 |_=>none
def dA:Nat:=140737488355328
def pC (ev:MO->aj):List ah->List (Nat×Nat×MO)->Option (List ah)
 |zs,[]=>some zs
 |zs,(off,sz,x)::ps=>match(ev x).cells? with
  |some (_,cs)=>if cs.length=sz/\off+sz<=zs.length then pC ev (bX zs off cs) ps else none
  |none=>none
def mU (σ:St) (n:Nat) (gr:Bool) (m:Mode) (rs:Nat) (xs:List (List C)) (k off:Nat) (e:List C) (vs:List ah):Option St:=
 match sub e off vs.length with
 |none=>none
 |some f0=>match σ.fg vs with
  |none=>none
  |some (cs,o,σ1)=>
   if m=.live then
    if fq cs=true/\fq f0=true/\(σ1.h n).isSome=true then some (σ1.du n (.row gr m rs (xs.set k (bX e off cs)))) else none
   else if(σ1.h n).isSome=true then
    some (σ1.du n (.row gr (if o=true then m else .aO) rs (xs.set k (bX e off cs))))
   else none
def lC:List ah->Option (List C)
 |[]=>some []
 |.c x::l=>if x.eF=true then(lC l).map (x::·) else none
 |_::_=>none
def vc (xs:List (List C)) (k off s i:Nat) (vs:List ah):Option (List (List C)):=
 match(xs[k]?).bind (·[off]?) with
 |some (.list s' ys)=>if s'=s/\vs.length=s/\i<ys.length/\fQ ys=true then(lC vs).map fun cs=>xs.set k ((xs.getD k []).set off (.list s' (ys.set i cs))) else none
 |_=>none
def pI (σ:St) (sz:Nat):aj->Option (List (List C)×Mode×St)
 |.one (.nil _)=>some ([],.ab,σ)
 |.one (.sl a s 0 len)=>match σ.h a with
  |some (.row true m rs xs)=>if rs=sz/\s=sz/\len=xs.length then some (xs,m,σ.del a) else none
  |_=>none
 |_=>none
def lm (fl:Bool) (σ1:St) (sz:Nat) (m:Mode):aj->Option (List (List C)×Mode×St)
  |.one (.nil _)=>some ([],m,σ1)
  |.one (.c (.list s ys))=>if s=sz then(if(fl&&fQ ys)=true then some (ys,m,σ1) else if m=.live then none else some (ys,.aO,σ1)) else none
  |.one (.sl b s lo len)=>match σ1.h b with
   |some (.row _ m' rs ys)=>if rs=sz/\s=sz/\lo+len<=ys.length then
       (if(fl&&fQ ((ys.drop lo).take len))=true then some ((ys.drop lo).take len,m,σ1)
        else if lo=0/\len=ys.length then(if m=m' then some (ys,m,σ1.del b) else if m=.live\/m'=.live then none else some (ys,.aO,σ1.del b)) else none)
    else none
   |_=>none
  |_=>none
def ah.EH:ah->Bool
 |.bn=>false
 |_=>true
def kS (bN:Bool) (n:Int) (c:ah):List ah:=if bN=true then[.c (.int .i64 n),.c (.int .i64 1),c] else[.c (.int .i64 1),.c (.int .i64 n),c]
def exec (T:aS) (d:Option Nat) (op:aF) (σ:St):Option St:=
 match op with
 |.mv x=>some (σ.put d (σ.ev x))
 |.pick c x y=>match σ.ev c with
  |.one (.c (.bool b))=>if b=true then some (σ.put d (σ.ev x)) else some (σ.put d (σ.ev y))
  |_=>none
 |.alloc zs=>match d with
  |some n=>match σ.ins n (.box zs) with
   |some σ1=>some (σ1.put d (.one (.ptr n 0 0 0)))
   |none=>none
  |none=>none
 |.box sz x=>match d,(σ.ev x).cells? with
  |some n,some (_,cs)=>if cs.length=sz then
   match σ.ins n (.box cs) with
   |some σ1=>some (σ1.put d (.one (.ptr n 0 0 0)))
   |none=>none
   else none
  |_,_=>none
 |.build zs parts=>match pC σ.ev zs parts with
  |some cs=>some (σ.put d (.agg cs))
  |none=>none
 |.e7 sz parts=>match d,σ.kY sz (parts.map σ.ev) with
  |some n,some (es,o,σ1)=>match σ1.ins n (.row true (if o=true then .ab else .aO) sz es) with
   |some σ2=>some (σ2.put d (.one (.sl n sz 0 es.length)))
   |none=>none
  |_,_=>none
 |.load ag sz x=>match σ.ev x with
  |.one p=>match loadAt σ.h p sz with
   |some cs=>some (σ.put d (kZ ag cs))
   |none=>none
  |_=>none
 |.mO ag sz x=>match σ.ev x with
  |.one p=>match σ.pW p with
   |some σ1=>match loadAt σ1.h p sz with
    |some cs=>some (σ1.put d (kZ ag cs))
    |none=>none
   |none=>none
  |_=>none
 |.store sz x v=>match σ.ev x,(σ.ev v).cells? with
  |.one (.ptr n k aD off),some (_,vs)=>if vs.length=sz then
   match σ.h n with
   |some (.box cs)=>if k=0/\off+sz<=cs.length then some (σ.du n (.box (bX cs off vs))) else none
   |some (.row gr m rs xs)=>if aD=rs then
    match xs[k]? with
    |some e=>mU σ n gr m rs xs k off e vs
    |none=>none
    else none
   |none=>none
   else none
  |.one (.cN n k aD off s i),some (_,vs)=>if vs.length=sz then
   match σ.h n with
   |some (.row gr .live rs xs)=>if aD=rs then
    match vc xs k off s i vs with
    |some ar=>some (σ.du n (.row gr .live rs ar))
    |none=>none
    else none
   |_=>none
   else none
  |_,_=>none
 |.od x=>match σ.ev x with
  |.one (.ptr n k sz off)=>if(σ.h n).isSome=true then some (σ.put d (.one (.ptr n k sz off))) else none
  |.one (.cj xs off)=>some (σ.put d (.one (.cj xs off)))
  |_=>none
 |.bin op x y=>match vH op (σ.ev x) (σ.ev y) with
  |some c=>some (σ.put d (.one (.c c)))
  |none=>none
 |.me op x y=>match Al op (σ.ev x) (σ.ev y) with
  |some c=>some (σ.put d (.one (.c c)))
  |none=>none
 |.un op x=>match Cw op (σ.ev x) with
  |some c=>some (σ.put d (.one (.c c)))
  |none=>none
 |.conv k x=>match σ.ev x with
  |.one (.c (.int _ n))=>some (σ.put d (.one (.c (.int k (k.wrap n)))))
  |_=>none
 |.jC m sz by_ zs l c=>match d,(σ.ev l).dh,(σ.ev c).dh with
  |some n,some a,some b=>if a<=b/\0<=a/\b.toNat*by_<=dA/\zs.length=sz then
   match σ.ins n (.row true m sz (List.replicate a.toNat zs)) with
   |some σ1=>some (σ1.put d (.one (.sl n sz 0 a.toNat)))
   |none=>none
   else none
  |_,_,_=>none
 |.slice sz x lo hi=>
  let Qr:Option Int:=match lo with|none=>some 0|some l=>(σ.ev l).dh
  match σ.ev x,Qr with
  |.one (.sl n s l0 len),some l=>
   match(match hi with|none=>some (len:Int)|some h=>(σ.ev h).dh) with
   |some h=>if s=sz/\0<=l/\l<=h/\h<=len/\(σ.h n).isSome=true then some (σ.put d (.one (.sl n s (l0+l.toNat) (h - l).toNat))) else none
   |none=>none
  |.one (.c (.list s xs)),some l=>
   match(match hi with|none=>some (xs.length:Int)|some h=>(σ.ev h).dh) with
   |some h=>if s=sz/\0<=l/\l<=h/\h<=xs.length then some (σ.put d (.one (.c (.list s ((xs.drop l.toNat).take (h - l).toNat))))) else none
   |none=>none
  |_,_=>none
 |.tail sz x lo=>match d,σ.ev x,(σ.ev lo).dh with
  |some n,.one (.sl a s 0 len),some l=>match σ.h a with
   |some (.row true m rs xs)=>if rs=sz/\s=sz/\len=xs.length/\0<=l/\l<=len then
    match(σ.del a).ins n (.row true m sz (xs.drop l.toNat)) with
    |some σ1=>some (σ1.put d (.one (.sl n sz 0 (xs.length - l.toNat))))
    |none=>none
    else none
   |_=>none
  |_,_,_=>none
 |.ao off x=>match σ.ev x with
  |.one (.ptr n k sz o)=>if(σ.h n).isSome=true then some (σ.put d (.one (.ptr n k sz (o+off)))) else none
  |.one (.cj xs o)=>some (σ.put d (.one (.cj xs (o+off))))
  |_=>none
 |.bm sz x i=>match σ.ev x,(σ.ev i).dh with
  |.one (.sl n s lo len),some k=>if s=sz/\0<=k/\k<len/\(σ.h n).isSome=true then some (σ.put d (.one (.ptr n (lo+k.toNat) s 0))) else none
  |.one (.c (.list s xs)),some k=>if s=sz/\0<=k then
   match xs[k.toNat]? with
   |some e=>some (σ.put d (.one (.cj e 0)))
   |none=>none
   else none
  |.one (.bx n kk aD off s len),some k=>match bU σ.h (.bx n kk aD off s len) with
   |some (.list s' ys)=>if s'=sz/\0<=k/\k<ys.length then some (σ.put d (.one (.cN n kk aD off sz k.toNat))) else none
   |_=>none
  |_,_=>none
 |.ext i x=>match σ.ev x with
  |.bo xs=>match xs[i]? with
   |some (ag,cs)=>some (σ.put d (kZ ag cs))
   |none=>none
  |_=>none
 |.oM ag off sz x=>match σ.ev x with
  |.agg cs=>match sub cs off sz with
   |some l=>some (σ.put d (kZ ag l))
   |none=>none
  |_=>none
 |.ou f bN x=>match σ.ev x with
  |.one (.sl n sz lo len)=>if(σ.h n).isSome=true then some (σ.put d (.agg (kS bN len (.sl n sz lo len)))) else none
  |.one (.c (.list sz xs))=>some (σ.put d (.agg (kS bN xs.length (.c (.list sz xs)))))
  |.one (.nil sz)=>some (σ.put d (.agg (kS bN 0 (.nil sz))))
  |_=>none
 |.len x=>match σ.ev x with
  |.one (.sl n sz lo len)=>if(σ.h n).isSome=true then some (σ.put d (.one (.c (.int .i64 len)))) else none
  |.one (.c (.list sz xs))=>some (σ.put d (.one (.c (.int .i64 xs.length))))
  |.one (.nil sz)=>some (σ.put d (.one (.c (.int .i64 0))))
  |.one (.bx n k aD off sz len)=>match bU σ.h (.bx n k aD off sz len) with
   |some (.list s ys)=>some (σ.put d (.one (.c (.int .i64 ys.length))))
   |_=>none
  |_=>none
 |.append fl sz by_ x y=>match d with
  |none=>none
  |some n=>match pI σ sz (σ.ev x) with
   |none=>none
   |some (xs,m,σ1)=>match lm fl σ1 sz m (σ.ev y) with
    |none=>none
    |some (ys,m2,σ2)=>
     if(xs.length+ys.length)*by_<=dA then
      match σ2.ins n (.row true m2 sz (xs++ys)) with
      |some gD=>some (gD.put d (.one (.sl n sz 0 (xs.length+ys.length))))
      |none=>none
     else none
 |.copy sz x y=>match σ.ev x,σ.ev y with
  |.one (.sl n s lo len),.one c=>match σ.h n,bU σ.h c with
   |some (.row gr m rs xs),some (.list s' ys)=>if sz=1/\s=1/\rs=1/\s'=1/\m≠ .aO/\fQ xs=true/\fQ ys=true/\lo+len<=xs.length then
    some ((σ.du n (.row gr m 1 (bX xs lo (ys.take len)))).put d (.one (.c (.int .i64 (Nat.min ys.length len:Nat))))) else none
   |_,_=>none
  |_,_=>none
 |.kB z x=>match σ.ev x with
  |.one (.sl n s lo len)=>match σ.h n with
   |some (.row gr m rs xs)=>if s=1/\rs=1/\z.eF=true/\m≠ .aO/\fQ xs=true/\lo+len<=xs.length then
    some ((σ.du n (.row gr m 1 (bX xs lo (List.replicate len [z])))).put d (.bo [])) else none
   |_=>none
  |_=>none
 |.mm mx x y=>match σ.ev x,σ.ev y with
  |.one (.c (.int k a)),.one (.c (.int k' b))=>if mx=true then(if a<b then some (σ.put d (.one (.c (.int k b)))) else some (σ.put d (.one (.c (.int k a)))))
   else(if b<a then some (σ.put d (.one (.c (.int k b)))) else some (σ.put d (.one (.c (.int k a)))))
  |_,_=>none
 |.call m f xs=>rb T m d f (xs.map σ.ev) σ
 |.mf f xs=>match tQ T f (xs.map σ.ev) σ.h with
  |some v=>some (σ.put d v)
  |none=>none
 |.pf f xs=>match(xs.map σ.ev).mapM (fun v=>match v with|.one c=>if c.kJ=true then none else some c|_=>none) with
  |some cs=>if cs.all ah.EH=true then some (σ.put d (.one (.fn f cs))) else none
  |none=>none
 |.mg m x xs=>match σ.ev x with
  |.one (.fn f cf)=>rb T m d f (xs.map σ.ev++cf.map .one) σ
  |_=>none
 |.eN m f xs=>tV T m d f (xs.map σ.ev) σ
 |.jh f xs=>pQ T d f (xs.map σ.ev) σ
 |.mh f xs=>match oI T f (xs.map σ.ev) σ.h with
  |some v=>some (σ.put d v)
  |none=>none
 |.lv f xs=>match x9 T f (xs.map σ.ev) with
  |some v=>some (σ.put d v)
  |none=>none
def d8 (T:aS) (o:bK) (σ:St):Option St:=
 match o.guard with
 |none=>exec T o.dst o.op σ
 |some (s,kx)=>match σ.env s with
  |.one (.c (.bool b))=>if b=kx then exec T o.dst o.op σ else some (σ.put o.dst (.bo []))
  |.bo []=>some (σ.put o.dst (.bo []))
  |_=>none
def j8 (T:aS):List bK->St->Option St
 |[],σ=>some σ
 |o::os,σ=>match d8 T o σ with
  |some σ'=>j8 T os σ'
  |none=>none
def ah.fi (ok:Nat->Bool):ah->ah
 |.ptr n k sz off=>if ok n=true then .ptr n k sz off else .bn
 |.sl n sz lo len=>if ok n=true then .sl n sz lo len else .bn
 |.bx n k aD off sz len=>if ok n=true then .bx n k aD off sz len else .bn
 |.cN n k aD off sz i=>if ok n=true then .cN n k aD off sz i else .bn
 |x=>x
def ah.cQ (ok:Nat->Bool):ah->ah
 |.fn f cf=>.fn f (cf.map (·.fi ok))
 |x=>x.fi ok
def aj.cQ (ok:Nat->Bool):aj->aj
 |.one c=>.one (c.cQ ok)
 |.agg cs=>.agg (cs.map (·.cQ ok))
 |.bo xs=>.bo (xs.map fun x=>(x.1,x.2.map (·.cQ ok)))
def aq.cQ (ok:Nat->Bool):aq->aq
 |.box cs=>.box (cs.map (·.cQ ok))
 |b=>b
def vO:Nat->aj:=fun _=>.one .bn
def AE:Nat->Option aq:=fun _=>none
def Yl:Nat->Bool:=fun _=>false
def u4 (ok:Nat->Bool) (env:Nat->aj):List Nat->(Nat->aj)
 |[]=>vO
 |s::ss=>ax (u4 ok env ss) s ((env s).cQ ok)
def qH (ok:Nat->Bool) (h:Nat->Option aq):List Nat->(Nat->Option aq)
 |[]=>AE
 |s::ss=>if ok s=true then match h s with
  |some b=>ax (qH ok h ss) s (some (b.cQ ok))
  |none=>qH ok h ss
  else qH ok h ss
def u5 (ok:Nat->Bool):List Nat->(Nat->Bool)
 |[]=>Yl
 |s::ss=>if ok s=true then ax (u5 ok ss) s true else u5 ok ss
def ah.w9 (n:Nat):ah->Bool
 |.ptr m _ _ _=>m==n
 |.sl m _ _ _=>m==n
 |.bx m _ _ _ _ _=>m==n
 |.cN m _ _ _ _ _=>m==n
 |_=>false
def ah.gA (n:Nat):ah->Bool
 |.fn _ cf=>cf.any (·.w9 n)
 |x=>x.w9 n
def aj.gA (n:Nat):aj->Bool
 |.one c=>c.gA n
 |.agg cs=>cs.any (·.gA n)
 |.bo xs=>xs.any fun x=>x.2.any (·.gA n)
def St.iK (σ:St) (ke kh:List Nat):Nat->Bool:=fun n=>kh.contains n&&(σ.h n).isSome&&
 (Nat.ble aM n||ke.any (fun s=>(σ.env s).gA n)||kh.any fun k=>match σ.h k with|some (.box cs)=>cs.any (·.gA n)|_=>false)
def St.h9 (σ:St) (ke kh:List Nat):St:=
 {env:=u4 (σ.iK ke kh) σ.env ke,h:=qH (σ.iK ke kh) σ.h kh,used:=fun n=>Nat.ble aM n||u5 (σ.iK ke kh) kh n}
def nu (x c n:Nat):Nat:=if n=x then c else n
def ah.ot (x c:Nat):ah->ah
 |.ptr n k sz off=>.ptr (nu x c n) k sz off
 |.sl n sz lo len=>.sl (nu x c n) sz lo len
 |.bx n k aD off sz len=>.bx (nu x c n) k aD off sz len
 |.cN n k aD off sz i=>.cN (nu x c n) k aD off sz i
 |y=>y
def ah.ba (x c:Nat):ah->ah
 |.fn f cf=>.fn f (cf.map (·.ot x c))
 |y=>y.ot x c
def aj.ba (x c:Nat):aj->aj
 |.one y=>.one (y.ba x c)
 |.agg ys=>.agg (ys.map (·.ba x c))
 |.bo ys=>.bo (ys.map fun y=>(y.1,y.2.map (·.ba x c)))
def aq.ba (x c:Nat):aq->aq
 |.box cs=>.box (cs.map (·.ba x c))
 |b=>b
def St.ba (σ:St) (x c:Nat):Option St:=
 if x=c then some σ else if Nat.ble aM x=true then some σ else if σ.used c=true then none else
 some {env:=fun s=>(σ.env s).ba x c,h:=fun n=>if n=c then(σ.h x).map (·.ba x c) else if n=x then none else(σ.h n).map (·.ba x c),used:=fun n=>if n=c then σ.used x else if n=x then false else σ.used n}
def St.jH (σ:St) (c:Nat):Mode->St
 |.aO=>match σ.h c with
  |some (.row gr .ab rs xs)=>σ.du c (.row gr .aO rs xs)
  |_=>σ
 |_=>σ
def St.canon (σ:St):Bool×Nat×Nat×Nat×Mode->Option St
 |(true,n,j,c,m)=>match σ.h n with
  |some (.box cs)=>match cs[j]? with
   |some (.sl a _ _ _)=>(σ.ba a c).map fun σ1=>σ1.jH c m
   |some (.nil sz)=>if 0<sz then match σ.ins c (.row true m sz []) with
    |some σ1=>some (σ1.du n (.box (cs.set j (.sl c sz 0 0))))
    |none=>none
    else some σ
   |_=>some σ
  |_=>some σ
 |(false,n,j,c,m)=>match σ.env n with
  |.one (.sl a _ _ _)=>(σ.ba a c).map fun σ1=>σ1.jH c m
  |.one (.nil sz)=>if 0<sz then match σ.ins c (.row true m sz []) with
   |some σ1=>some (σ1.put (some n) (.one (.sl c sz 0 0)))
   |none=>none
   else some σ
  |_=>some σ
def St.sy (σ:St):List (Bool×Nat×Nat×Nat×Mode)->Option St
 |[]=>some σ
 |x::l=>match σ.canon x with
  |some σ1=>σ1.sy l
  |none=>none
def St.head (σ:St) (ke kh:List Nat) (cn:List (Bool×Nat×Nat×Nat×Mode)):Option St:=
 match((σ.h9 ke kh).h9 ke kh).sy cn with
 |some σ1=>some (σ1.h9 ke kh)
 |none=>none
def aF.args:aF->List MO
 |.mv x|.box _ x|.load _ _ x|.mO _ _ x|.od x|.un _ x|.conv _ x|.ao _ x|.ext _ x|.oM _ _ _ x|.ou _ _ x|.len x|.kB _ x=>[x]
 |.pick c x y=>[c,x,y]
 |.alloc _=>[]
 |.build _ ps=>ps.map (·.2.2)
 |.e7 _ ps=>ps
 |.store _ x v=>[x,v]
 |.bin _ x y|.me _ x y|.mm _ x y|.append _ _ _ x y|.copy _ x y|.bm _ x y|.tail _ x y=>[x,y]
 |.jC _ _ _ _ l c=>[l,c]
 |.slice _ x lo hi=>x::(lo.toList++hi.toList)
 |.call _ _ xs|.pf _ xs|.eN _ _ xs|.mf _ xs|.jh _ xs|.mh _ xs|.lv _ xs=>xs
 |.mg _ x xs=>x::xs
def aF.Ei:aF->Bool
 |.call ..|.mg ..|.mf ..=>true
 |_=>false
def ah.rR:ah->List Nat
 |.ptr n _ _ _=>[n]
 |.sl n _ _ _=>[n]
 |.bx n _ _ _ _ _=>[n]
 |.cN n _ _ _ _ _=>[n]
 |_=>[]
def ah.nm:ah->List Nat
 |.fn _ cf=>cf.flatMap ah.rR
 |x=>x.rR
def aj.gf:aj->List Nat
 |.one c=>c.nm
 |.agg cs=>cs.flatMap ah.nm
 |.bo xs=>xs.flatMap fun x=>x.2.flatMap ah.nm
def Ap (h:Nat->Option aq) (l:List Nat):List Nat:=l.flatMap fun n=>match h n with
 |some (.box cs)=>cs.flatMap ah.nm
 |_=>[]
def aF.iJ (op:aF) (ev:MO->aj):List Nat:=op.args.flatMap fun x=>(ev x).gf
def aF.lU (op:aF) (ev:MO->aj) (h:Nat->Option aq):List Nat:=cond op.Ei (op.iJ ev++Ap h (op.iJ ev)) (op.iJ ev)
def aF.j4 (op:aF) (ev:MO->aj) (h:Nat->Option aq):Option (List Nat):=
 match op with
 |.store _ x v=>match ev x with
  |.one (.ptr n _ _ _)=>match h n with
   |some (.box _)=>some [n]
   |some (.row ..)=>some (n::(ev v).gf)
   |none=>none
  |.one (.cN n _ _ _ _ _)=>some [n]
  |_=>none
 |.e7 _ ps=>some (ps.flatMap fun p=>(ev p).gf)
 |.jh _ xs=>some (xs.flatMap fun p=>(ev p).gf)
 |.append _ _ _ x y=>some ((ev x).gf++(ev y).gf)
 |.copy _ x _|.kB _ x=>match ev x with
  |.one (.sl n _ _ _)=>some [n]
  |_=>none
 |.eN ..|.tail ..|.mO ..=>none
 |_=>some []
abbrev FP:=List Nat×List Nat
def aF.fp (op:aF) (σ:St):Option FP:=(op.j4 σ.ev σ.h).map fun w=>(op.lU σ.ev σ.h,w)
def C9 (f g:FP):Bool:=f.2.all (fun n=> !(g.1.contains n))&&g.2.all (fun n=> !(f.1.contains n))
def Da:Option FP->Option FP->Bool
 |some f,some g=>C9 f g
 |_,_=>false
def mq (o:bK) (e:Nat->aj):Option aF:=
 match o.guard with
 |none=>some o.op
 |some (s,kx)=>match e s with
  |.one (.c (.bool b))=>if b=kx then some o.op else some (.mv (.k (.bo [])))
  |.bo []=>some (.mv (.k (.bo [])))
  |_=>none
def bK.fp (o:bK) (σ:St):Option FP:=
 match mq o σ.env with
 |some op=>op.fp σ
 |none=>none
def wZ (ps:List (Nat×Nat)) (fs:List (Option FP)):Bool:=ps.all fun p=>Da (fs.getD p.1 none) (fs.getD p.2 none)
def mr (T:aS):List bK->List (Option FP)->St->Option (List (Option FP)×St)
 |[],cL,σ=>some (cL,σ)
 |o::os,cL,σ=>match d8 T o σ with
  |some σ1=>mr T os (cL++[o.fp σ]) σ1
  |none=>none
def az:Nat:=2^64
def BA:Nat->(St->Option sq)->St->Option sq
 |0,_,_=>none
 |n+1,f,σ=>match f σ with
  |some (.fy σ')=>BA n f σ'
  |o=>o
def dY (T:aS):lg->St->Option sq
 |.skip,σ=>some (.fy σ)
 |.aa _ ops,σ=>match j8 T ops σ with
  |some σ'=>some (.fy σ')
  |none=>none
 |.rS ps ops,σ=>match mr T ops [] σ with
  |some (fs,σ')=>cond (wZ ps fs) (some (.fy σ')) none
  |none=>none
 |.seq a b,σ=>match dY T a σ with
  |some (.fy σ')=>dY T b σ'
  |o=>o
 |.cond c a b,σ=>match σ.ev c with
  |.one (.c (.bool t))=>if t=true then dY T a σ else dY T b σ
  |_=>none
 |.block id c,σ=>match dY T c σ with
  |some (.ext i σ')=>if i=id then some (.fy σ') else some (.ext i σ')
  |o=>o
 |.join ke kh cn c,σ=>match dY T c σ with
  |some (.fy σ')=>match σ'.head ke kh cn with
   |some σ1=>some (.fy σ1)
   |none=>none
  |o=>o
 |.loop id ke kh cn c,σ=>BA az (fun σ=>match σ.head ke kh cn with|some σ1=>dY T c σ1|none=>none) σ
 |.exit id,σ=>some (.ext id σ)
 |.ret,σ=>some (.ret σ)
end Go.Am
