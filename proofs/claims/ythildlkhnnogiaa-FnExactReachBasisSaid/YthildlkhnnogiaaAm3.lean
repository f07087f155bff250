/- Am3: the abstract machine's code and its evaluator. No condition. -/
import Derived.Test.YthildlkhnnogiaaAm2
set_option linter.unusedVariables false
namespace Go.Am
inductive MO where
 |t (n:Nat)
 |k (v:ah)
inductive aI where
 |mv (x:MO)
 |pick (c x y:MO)
 |alloc (zs:List ab)
 |box (sz:Nat) (x:MO)
 |build (zs:List ab) (parts:List (Nat×Nat×MO))
 |fF (sz:Nat) (parts:List MO)
 |load (ag:Bool) (sz:Nat) (x:MO)
 |oE (ag:Bool) (sz:Nat) (x:MO)
 |store (sz:Nat) (x v:MO)
 |oG (x:MO)
 |bin (op:BinOp) (x y:MO)
 |oZ (op:BinOp) (x y:MO)
 |un (op:UnOp) (x:MO)
 |conv (k:IntKind) (x:MO)
 |lK (m:Mode) (sz by_:Nat) (zs:List C) (l c:MO)
 |slice (sz:Nat) (x:MO) (lo hi:Option MO)
 |tail (sz:Nat) (x lo:MO)
 |aC (off:Nat) (x:MO)
 |cH (sz:Nat) (x i:MO)
 |ext (i:Nat) (x:MO)
 |n8 (ag:Bool) (off sz:Nat) (x:MO)
 |nJ (f:FuncId) (bU:Bool) (x:MO)
 |len (x:MO)
 |append (fl:Bool) (sz by_:Nat) (x y:MO)
 |copy (sz:Nat) (x y:MO)
 |kq (z:C) (x:MO)
 |mm (mx:Bool) (x y:MO)
 |call (m:Mode) (f:FuncId) (xs:List MO)
 |lT (f:FuncId) (xs:List MO)
 |pR (f:FuncId) (xs:List MO)
 |lV (m:Mode) (x:MO) (xs:List MO)
 |fN (m:Mode) (f:FuncId) (xs:List MO)
 |iA (f:FuncId) (xs:List MO)
 |lW (f:FuncId) (xs:List MO)
 |lU (f:FuncId) (xs:List MO)
 |lY (m:Mode) (f:FuncId) (xs:List MO)
 |nX (m:Mode) (f:FuncId) (x:MO) (xs:List MO)
structure bq where
 dst:Option Nat
 op:aI
 guard:Option (Nat×Bool)
structure oT where
 ia:Nat
 sz:Nat
 by_:Nat
 mx:MO
 ml:MO
 my:MO
 d:Nat
inductive Dr where
 |s6 (sz:Nat) (p:MO)
 |uE (p:MO) (s:Nat)
 |pop (x lo:MO) (s:Nat)
 |wM (f:FuncId) (xs:List MO)
inductive Dq where
 |op (m:bq)
 |m7 (d:Nat) (c:Dr)
inductive kR where
 |skip
 |ae (jW:Bool) (ops:List bq)
 |t9 (ps:List (Nat×Nat)) (ops:List bq)
 |re (its:List Dq)
 |sr (jW:Bool) (ps:List (Nat×Nat)) (ops:List bq) (sp:oT)
 |seq (a b:kR)
 |cond (c:MO) (a b:kR)
 |block (id:Nat) (c:kR)
 |join (ke kh:List Nat) (cn:List (Bool×Nat×Nat×Nat×Mode)) (c:kR)
 |loop (id:Nat) (ke kh:List Nat) (cn:List (Bool×Nat×Nat×Nat×Mode)) (c:kR)
 |exit (id:Nat)
 |ret
inductive K where
 |one|agg|ptr
 deriving DecidableEq
abbrev Dv:=K×List C
abbrev aN:=List (List (Option Mode))
structure aF where
 pure:List (FuncId×(List Dv->Option (List Dv)))
 tZ:List (FuncId×aN×(List Dv->Option (List Dv×List C)))
 vs:List (FuncId×(List Dv->Option (List Dv×List C)))
 ws:List (FuncId×aN×(List Dv->Option (Nat×Nat)))
 xs:List (FuncId×Nat×(List Dv->Option (List Dv×List C)))
 ns:List (FuncId×(List Dv->Option (List Dv)))
def aF.me:List (FuncId×aN×(List Dv->Option (List Dv×List C)))->FuncId->Option (aN×(List Dv->Option (List Dv×List C)))
 |[],_=>none
 |(g,M)::l,f=>if f=g then some M else aF.me l f
def aF.rN:List (FuncId×aN×(List Dv->Option (Nat×Nat)))->FuncId->Option (aN×(List Dv->Option (Nat×Nat)))
 |[],_=>none
 |(g,M)::l,f=>if f=g then some M else aF.rN l f
def aF.rO:List (FuncId×Nat×(List Dv->Option (List Dv×List C)))->FuncId->Option (Nat×(List Dv->Option (List Dv×List C)))
 |[],_=>none
 |(g,M)::l,f=>if f=g then some M else aF.rO l f
def aF.jY:List (FuncId×(List Dv->Option (List Dv×List C)))->FuncId->Option (List Dv->Option (List Dv×List C))
 |[],_=>none
 |(g,M)::l,f=>if f=g then some M else aF.jY l f
def aF.find:List (FuncId×(List Dv->Option (List Dv)))->FuncId->Option (List Dv->Option (List Dv))
 |[],_=>none
 |(g,M)::l,f=>if f=g then some M else aF.find l f
inductive sT where
 |eF (σ:St)
 |ext (id:Nat) (σ:St)
 |ret (σ:St)
def St.ev (σ:St):MO->ah
 |.t n=>σ.env n
 |.k v=>v
def St.put (σ:St) (d:Option Nat) (v:ah):St:=
 match d with
 |some n=>{σ with env:=ao σ.env n v}
 |none=>σ
def St.ins (σ:St) (n:Nat) (b:aj):Option St:=
 if σ.used n=true then none else some {σ with h:=ao σ.h n (some b),used:=ao σ.used n true}
def St.cW (σ:St) (n:Nat) (b:aj):St:={σ with h:=ao σ.h n (some b)}
def St.del (σ:St) (n:Nat):St:={σ with h:=ao σ.h n none}
def ah.cells?:ah->Option (Bool×List ab)
 |.one .aX=>none
 |.one c=>some (false,[c])
 |.agg cs=>some (true,cs)
 |.bk _=>none
def kM:Bool->List ab->ah
 |true,cs=>.agg cs
 |false,[c]=>.one c
 |false,_=>.one .aX
def sub {α:Type} (l:List α) (off sz:Nat):Option (List α):=if off+sz<=l.length then some ((l.drop off).take sz) else none
def ci {α:Type} (l:List α) (off:Nat) (vs:List α):List α:=l.take off++vs++l.drop (off+vs.length)
def C.dL:C->Bool
 |.list ..=>false
 |_=>true
def eo (l:List C):Bool:=l.all C.dL
def dd (l:List (List C)):Bool:=l.all eo
def gB (n k rs:Nat):Nat->List C->List ab
 |_,[]=>[]
 |off,.list sz ys::l=>.bf n k rs off sz ys.length::gB n k rs (off+1) l
 |off,x::l=>.c x::gB n k rs (off+1) l
def loadAt (h:Nat->Option aj) (p:ab) (sz:Nat):Option (List ab):=
 match p with
 |.ptr n k au off=>
  match h n with
  |some (.box cs)=>if k=0 then sub cs off sz else none
  |some (.row _ m rs xs)=>
   if au=rs then
    match xs[k]? with
    |some e=>match sub e off sz with
     |some l=>some (if m=.live then gB n k rs off l else l.map .c)
     |none=>none
    |none=>none
   else none
  |none=>none
 |.cd xs off=>(sub xs off sz).map (·.map .c)
 |.bK xs off j n s len=>if off=j/\sz=1 then some [.sl n s 0 len] else if off+sz<=j then(sub xs off sz).map (·.map .c) else none
 |.bX n k au off s i=>
  match h n with
  |some (.row _ .live rs xs)=>if rs=au then
   match(xs[k]?).bind (·[off]?) with
   |some (.list s' ys)=>if s'=s/\sz=s then
    match ys[i]? with
    |some e=>if eo e=true then some (e.map .c) else none
    |none=>none
    else none
   |_=>none
   else none
  |_=>none
 |_=>none
def bQ (h:Nat->Option aj):ab->Option C
 |.c x=>some x
 |.nil sz=>if 0<sz then some (.list sz []) else none
 |.sl n sz lo len=>
  match h n with
  |some (.row _ _ rs xs)=>if rs=sz/\lo+len<=xs.length then some (.list sz ((xs.drop lo).take len)) else none
  |_=>none
 |.bf n k au off sz len=>
  match h n with
  |some (.row _ .live rs xs)=>if rs=au then(xs[k]?).bind (·[off]?) else none
  |_=>none
 |_=>none
def gE (h:Nat->Option aj):List ab->Option (List C)
 |[]=>some []
 |c::cs=>match bQ h c,gE h cs with
  |some x,some xs=>some (x::xs)
  |_,_=>none
def gR (h:Nat->Option aj):ah->Option Dv
 |.one (.ptr n k sz off)=>
  match h n with
  |some (.box cs)=>if k=0/\off=0 then(gE h cs).map fun l=>(.ptr,l) else none
  |_=>none
 |.one (.cd xs off)=>if off=0 then some (.ptr,xs) else none
 |.one c=>(bQ h c).map fun x=>(.one,[x])
 |.agg cs=>(gE h cs).map fun l=>(.agg,l)
 |.bk _=>none
def ji (h:Nat->Option aj):List ah->Option (List Dv)
 |[]=>some []
 |c::cs=>match gR h c,ji h cs with
  |some x,some xs=>some (x::xs)
  |_,_=>none
def St.eM (σ:St):ab->Option (C×Bool×St)
 |.c x=>some (x,x.dL,σ)
 |.nil sz=>if 0<sz then some (.list sz [],true,σ) else none
 |.sl n sz lo len=>
  match σ.h n with
  |some (.row _ m rs xs)=>if rs=sz/\lo=0/\len<=xs.length then some (.list sz (xs.take len),decide (m≠ .aG),σ.del n) else none
  |_=>none
 |_=>none
def St.fi (σ:St):List ab->Option (List C×Bool×St)
 |[]=>some ([],true,σ)
 |c::cs=>match σ.eM c with
  |some (x,o,σ1)=>match σ1.fi cs with
   |some (xs,o',σ2)=>some (x::xs,o&&o',σ2)
   |none=>none
  |none=>none
def St.qB (σ:St):ab->Option St
 |.ptr n _ _ _=>match σ.h n with
  |some (.box cs)=>match σ.fi cs with
   |some (xs,_,σ1)=>some (σ1.cW n (.box (xs.map .c)))
   |none=>none
  |_=>none
 |_=>none
def St.kL (sz:Nat) (σ:St):List ah->Option (List (List C)×Bool×St)
 |[]=>some ([],true,σ)
 |v::vs=>match v.cells? with
  |some (_,cs)=>if cs.length=sz then
   match σ.fi cs with
   |some (e,o,σ1)=>match σ1.kL sz vs with
    |some (es,o',σ2)=>some (e::es,o&&o',σ2)
    |none=>none
   |none=>none
   else none
  |none=>none
def Mode.si:Mode->Bool
 |.live=>false
 |_=>true
def St.imp (m:Mode) (σ:St):Nat->List C->Option (List ab×Nat×St)
 |nm,[]=>some ([],nm,σ)
 |nm,.list sz xs::cs=>match σ.ins nm (.row m.si m sz xs) with
  |some σ1=>match σ1.imp m (nm+1) cs with
   |some (l,fg,σ2)=>some (.sl nm sz 0 xs.length::l,fg,σ2)
   |none=>none
  |none=>none
 |nm,x::cs=>match σ.imp m nm cs with
  |some (l,fg,σ2)=>some (.c x::l,fg,σ2)
  |none=>none
def St.iq (m:Mode) (σ:St):Nat->List Dv->Option (List (Bool×List ab)×St)
 |_,[]=>some ([],σ)
 |nm,(.ptr,_)::_=>none
 |nm,(k,cs)::ds=>match σ.imp m nm cs with
  |some (l,fg,σ1)=>match σ1.iq m fg ds with
   |some (ls,σ2)=>some ((decide (k=.agg),l)::ls,σ2)
   |none=>none
  |none=>none
def jS:List (Bool×List ab)->ah
 |[(ag,cs)]=>kM ag cs
 |l=>.bk l
def iw (d:Option Nat):Nat:=match d with|some n=>1000*(n+1)|none=>999
def gu:List Dv->Option (List (Bool×List ab))
 |[]=>some []
 |(.ptr,_)::_=>none
 |(k,cs)::ds=>match gu ds with
  |some ls=>some ((decide (k=.agg),cs.map .c)::ls)
  |none=>none
def uF (T:aF) (f:FuncId) (as:List ah) (h:Nat->Option aj):Option ah:=
 match ji h as with
 |some ds=>match aF.find T.pure f with
  |some M=>match M ds with
   |some rs=>match gu rs with
    |some ls=>some (jS ls)
    |none=>none
   |none=>none
  |none=>none
 |none=>none
def rL (T:aF) (m:Mode) (d:Option Nat) (f:FuncId) (as:List ah) (σ:St):Option St:=
 match ji σ.h as with
 |some ds=>match aF.find T.pure f with
  |some M=>match M ds with
   |some rs=>match σ.iq m (iw d) rs with
    |some (ls,σ1)=>some (σ1.put d (jS ls))
    |none=>none
   |none=>none
  |none=>none
 |none=>none
def ox:ab->Option C
 |.c x=>some x
 |.nil sz=>if 0<sz then some (.list sz []) else none
 |_=>none
def jt:List ab->Option (List C)
 |[]=>some []
 |c::cs=>match ox c,jt cs with
  |some x,some xs=>some (x::xs)
  |_,_=>none
def kU (h:Nat->Option aj):ah->Option (Nat×List C)
 |.one (.ptr n k _ off)=>if k=0/\off=0 then match h n with
  |some (.box cs)=>match jt cs with
   |some xs=>some (n,xs)
   |none=>none
  |_=>none
  else none
 |_=>none
def St.gH (σ:St):List ah->Option (List Dv×List Nat×St)
 |[]=>some ([],[],σ)
 |v::vs=>match kU σ.h v with
  |some (n,xs)=>match σ.gH vs with
   |some (ds,ns,σ1)=>some ((.ptr,xs)::ds,n::ns,σ1)
   |none=>none
  |none=>match v.cells? with
   |some (ag,cs)=>match σ.fi cs with
    |some (xs,_,σ1)=>match σ1.gH vs with
     |some (ds,ns,σ2)=>some ((if ag=true then .agg else .one,xs)::ds,ns,σ2)
     |none=>none
    |none=>none
   |none=>none
def St.q9 (σ:St):List Nat->List C->Option St
 |[],[]=>some σ
 |[n],out=>match σ.h n with
  |some (.box cs)=>if cs.length=out.length then some (σ.cW n (.box (out.map .c))) else none
  |_=>none
 |_,_=>none
def ql (σ:St) (d:Option Nat):List Dv->Option St
 |[(.ptr,cs)]=>match d with
  |some q=>match σ.ins q (.box (cs.map .c)) with
   |some σ1=>some (σ1.put d (.one (.ptr q 0 0 0)))
   |none=>none
  |none=>none
 |rs=>match gu rs with
  |some ls=>some (σ.put d (jS ls))
  |none=>none
def qt (T:aF) (d:Option Nat) (f:FuncId) (as:List ah) (σ:St):Option St:=
 match σ.gH as,aF.jY T.vs f with
 |some (ds,ns,σ1),some M=>match M ds with
  |some (rs,out)=>match σ1.q9 ns out with
   |some σ2=>ql σ2 d rs
   |none=>none
  |none=>none
 |_,_=>none
def z5:List ah->Option (List Dv)
 |[]=>some []
 |v::vs=>match v.cells? with
  |some (ag,cs)=>match jt cs with
   |some xs=>match z5 vs with
    |some ds=>some ((if ag=true then .agg else .one,xs)::ds)
    |none=>none
   |none=>none
  |none=>none
def yX (T:aF) (f:FuncId) (as:List ah):Option ah:=
 match z5 as,aF.jY T.vs f with
 |some ds,some M=>match M ds with
  |some (rs,[])=>match gu rs with
   |some ls=>some (jS ls)
   |none=>none
  |_=>none
 |_,_=>none
theorem agy {c:ab} {x:C} (h:ox c=some x) (σ:St):∃o,σ.eM c=some (x,o,σ):=by
 cases c with
 |c y=>simp only[ox] at h;injection h with h;subst h;exact⟨_,rfl⟩
 |nil sz=>
  simp only[ox] at h
  split at h
  ·rename_i hp
   injection h with h
   subst h
   exact⟨_,if_pos hp⟩
  ·cases h
 |_=>simp[ox] at h
theorem Yp:∀{cs:List ab} {xs:List C},jt cs=some xs->∀σ:St,∃o,σ.fi cs=some (xs,o,σ)
 |[],xs,h,σ=>by simp only[jt] at h;injection h with h;subst h;exact⟨_,rfl⟩
 |c::cs,xs,h,σ=>by
  simp only[jt] at h
  split at h
  ·rename_i x ak e1 e2
   injection h with h
   subst h
   obtain⟨o1,h1⟩:=agy e1 σ
   obtain⟨o2,h2⟩:=Yp e2 σ
   exact⟨o1&&o2,by simp only[St.fi,h1,h2]⟩
  ·cases h
theorem ZV:∀{as:List ah} {ds:List Dv},z5 as=some ds->∀σ:St,σ.gH as=some (ds,[],σ)
 |[],ds,h,σ=>by simp only[z5] at h;injection h with h;subst h;rfl
 |v::vs,ds,h,σ=>by
  simp only[z5] at h
  split at h
  ·rename_i ag cs hc
   split at h
   ·rename_i xs hi
    split at h
    ·rename_i tf hq
     injection h with h
     subst h
     have hp:kU σ.h v=none:=by
      unfold kU
      split
      ·simp only[ah.cells?] at hc
       injection hc with hc
       injection hc with _ hc
       subst hc
       simp[jt,ox] at hi
      ·rfl
     obtain⟨o,ht⟩:=Yp hi σ
     simp only[St.gH,hp,hc,ht,ZV hq σ]
    ·cases h
   ·cases h
  ·cases h
theorem ac3 {T:aF} {d:Option Nat} {f:FuncId} {as:List ah} {v:ah} (h:yX T f as=some v) (σ:St):qt T d f as σ=some (σ.put d v):=by
 unfold yX at h
 split at h
 ·rename_i ds M hq hM
  split at h
  ·rename_i rs kw
   split at h
   ·rename_i ls hl
    injection h with h
    subst h
    simp only[qt,ZV hq σ,hM,kw,St.q9]
    unfold ql
    split
    ·simp[gu] at hl
    ·rw[hl]
   ·cases h
  ·cases h
 ·cases h
def C.td:C->Bool
 |.list _ xs=>dd xs
 |_=>true
def C.qS:C->Bool
 |.list ..=>true
 |_=>false
def th:Mode->List (List C)->Bool
 |.af,xs=>dd xs
 |.live,xs=>xs.all fun e=>e.all C.td
 |.aG,_=>false
inductive cq where
 |nil (sz:Nat)
 |row (n:Nat)
 |nest (n k off:Nat)
def sf (h:Nat->Option aj) (md:Mode):ab->Option (cq×C)
 |.nil sz=>if 0<sz/\md≠ .aG then some (.nil sz,.list sz []) else none
 |.sl n sz lo len=>match h n with
  |some (.row gr m rs xs)=>if m≠ .aG/\(md=.live->m=.live)/\rs=sz/\lo=0/\len=xs.length/\th md xs=true/\(m=.live->gr=false) then some (.row n,.list sz xs) else none
  |_=>none
 |.bf n k au off sz len=>match h n with
  |some (.row false .live rs xs)=>if rs=au/\md=.af then
   match(xs[k]?).bind (·[off]?) with
   |some (.list s ys)=>if dd ys=true then some (.nest n k off,.list s ys) else none
   |_=>none
   else none
  |_=>none
 |_=>none
def cq.dq:cq->Option Nat
 |.nil _=>none
 |.row n=>some n
 |.nest n _ _=>some n
def ab.dq:ab->Option Nat
 |.sl n _ _ _=>some n
 |.bf n _ _ _ _ _=>some n
 |_=>none
def lL:List (Option Mode)->List ab->List Nat
 |some _::fs,c::cs=>c.dq.toList++lL fs cs
 |none::fs,_::cs=>lL fs cs
 |_,_=>[]
def iM (h h0:Nat->Option aj):List (Option Mode)->List ab->Option (List C×List (cq×Mode))
 |[],cs=>match gE h0 cs with
  |some xs=>some (xs,[])
  |none=>none
 |none::fs,c::cs=>match bQ h0 c,iM h h0 fs cs with
  |some x,some (xs,its)=>some (x::xs,its)
  |_,_=>none
 |some md::fs,c::cs=>match sf h md c,iM h h0 fs cs with
  |some (it,x),some (xs,its)=>some (x::xs,(it,md)::its)
  |_,_=>none
 |_::_,[]=>none
def nD:aN->List (Bool×List ab)->List Nat
 |s::sig,a::as=>lL s a.2++nD sig as
 |_,_=>[]
def aN.hd:aN->List (Option Mode)
 |[]=>[]
 |s::_=>s
def aN.tl:aN->aN
 |[]=>[]
 |_::sig=>sig
def kH (h h0:Nat->Option aj):aN->List (Bool×List ab)->Option (List Dv×List (cq×Mode))
 |_,[]=>some ([],[])
 |sig,(ag,cs)::as=>match iM h h0 (aN.hd sig) cs,kH h h0 (aN.tl sig) as with
  |some (xs,its),some (ds,oz)=>some ((if ag=true then(.agg,xs) else(.one,xs))::ds,its++oz)
  |_,_=>none
def pM:List ah->Option (List (Bool×List ab))
 |[]=>some []
 |v::vs=>match v.cells?,pM vs with
  |some x,some xs=>some (x::xs)
  |_,_=>none
def cB (h:Nat->Option aj) (ns:List Nat):Nat->Option aj:=fun n=>if ns.contains n=true then none else h n
def St.nG (σ:St):cq->C->Option St
 |.nil _,_=>some σ
 |.row n,.list sz xs=>match σ.h n with
  |some (.row gr m rs _)=>if rs=sz then some (σ.cW n (.row gr m rs xs)) else none
  |_=>none
 |.nest n k off,x=>match σ.h n with
  |some (.row gr m rs xs)=>match xs[k]? with
   |some e=>some (σ.cW n (.row gr m rs (xs.set k (e.set off x))))
   |none=>none
  |_=>none
 |_,_=>none
def St.mL (σ:St):List (cq×Mode)->List C->Option St
 |[],[]=>some σ
 |it::its,x::xs=>match σ.nG it.1 x with
  |some σ1=>σ1.mL its xs
  |none=>none
 |_,_=>none
def qu (T:aF) (m:Mode) (d:Option Nat) (f:FuncId) (as:List ah) (σ:St):Option St:=
 match aF.me T.tZ f,pM as with
 |some (sig,M),some bY=>
  if(nD sig bY).Nodup then
   match kH σ.h (cB σ.h (nD sig bY)) sig bY with
   |some (ds,its)=>match M ds with
    |some (rs,cM)=>match σ.mL its cM with
     |some σ1=>match σ1.iq m (iw d) rs with
      |some (ls,σ2)=>some (σ2.put d (jS ls))
      |none=>none
     |none=>none
    |none=>none
   |none=>none
  else none
 |_,_=>none
def Ri (s:List (Option Mode)) (n:Nat):Bool:=decide (s=[]\/(0<n/\s=List.replicate (n - 1) none++[some .af]))
def xR (h:Nat->Option aj) (s:List (Option Mode)):ah->Option (K×List ab)
 |.one (.ptr n k _ off)=>match h n with
  |some (.box cs)=>if k=0/\off=0/\Ri s cs.length=true then some (.ptr,cs) else none
  |_=>none
 |v=>match v.cells? with
  |some (ag,cs)=>some (if ag=true then .agg else .one,cs)
  |none=>none
def xS (h:Nat->Option aj):aN->List ah->Option (List (K×List ab))
 |_,[]=>some []
 |sig,v::vs=>match xR h (aN.hd sig) v,xS h (aN.tl sig) vs with
  |some x,some xs=>some (x::xs)
  |_,_=>none
def xV:aN->List (K×List ab)->List Nat
 |s::sig,a::as=>lL s a.2++xV sig as
 |_,_=>[]
def rb (h h0:Nat->Option aj):aN->List (K×List ab)->Option (List Dv×List (cq×Mode))
 |_,[]=>some ([],[])
 |sig,(k,cs)::as=>match iM h h0 (aN.hd sig) cs,rb h h0 (aN.tl sig) as with
  |some (xs,its),some (ds,oz)=>some ((k,xs)::ds,its++oz)
  |_,_=>none
def uL (T:aF) (m:Mode) (d:Option Nat) (f:FuncId) (as:List ah) (σ:St):Option St:=
 match aF.me T.tZ f with
 |some (sig,M)=>match xS σ.h sig as with
  |some bY=>if(xV sig bY).Nodup then
   match rb σ.h (cB σ.h (xV sig bY)) sig bY with
   |some (ds,its)=>match M ds with
    |some (rs,cM)=>match σ.mL its cM with
     |some σ1=>match σ1.iq m (iw d) rs with
      |some (ls,σ2)=>some (σ2.put d (jS ls))
      |none=>none
     |none=>none
    |none=>none
   |none=>none
   else none
  |none=>none
 |none=>none
def yt:Nat->aN
 |0=>[[some .af]]
 |i+1=>[]::yt i
def dI (n:Nat):Dv:=(.one,[.int .i64 (n:Int)])
def xM (i lo hi:Nat) (M:List Dv->Option (List Dv×List C)) (ds:List Dv):Option (List Dv×List C):=
 match ds[i]? with
 |some (.one,[.list 1 _])=>M (dI lo::dI hi::ds)
 |_=>none
def Dk (h:Nat->Option aj):ah->Option (Nat×Nat×Nat×Nat)
 |.one (.sl n s lo len)=>match h n with
  |some (.row _ _ rs xs)=>if s=1/\rs=1/\lo<xs.length/\lo+len<=xs.length then some (n,lo,len,xs.length) else none
  |_=>none
 |_=>none
def uM (T:aF) (m:Mode) (d:Option Nat) (f:FuncId) (as:List ah) (σ:St):Option St:=
 match aF.rO T.xs f with
 |some (i,M)=>match as[i]? with
  |some a=>match Dk σ.h a with
   |some (n,lo,len,N)=>qu {T with tZ:=[(f,yt i,xM i lo (lo+len) M)]} m d f (as.set i (.one (.sl n 1 0 N))) σ
   |none=>none
  |none=>none
 |none=>none
def pb (T:aF) (f:FuncId) (as:List ah) (h:Nat->Option aj):Option ah:=
 match aF.rN T.ws f,pM as with
 |some (sig,M),some bY=>
  match nD sig bY with
  |[n]=>match kH h (cB h [n]) sig bY with
   |some (ds,[(.row n',_)])=>if n'=n then match h n,M ds with
    |some (.row _ _ sz _),some (lo,len)=>some (.one (.sl n sz lo len))
    |_,_=>none
    else none
   |_=>none
  |_=>none
 |_,_=>none
def Bb (op:BinOp) (k:IntKind) (a b:Int):Option C:=
 match op with
 |.add=>some (.int k (k.wrap (a+b)))
 |.sub=>some (.int k (k.wrap (a - b)))
 |.mul=>some (.int k (k.wrap (a*b)))
 |.quo=>if b=0 then none else some (.int k (k.wrap (a.tdiv b)))
 |.rem=>if b=0 then none else some (.int k (a.tmod b))
 |.and=>some (.int k (bits .and k a b))
 |.or=>some (.int k (bits .or k a b))
 |.xor=>some (.int k (bits .xor k a b))
 |.eql=>some (.bool (a==b))
 |.neq=>some (.bool (a !=b))
 |.lss=>some (.bool (decide (a<b)))
 |.leq=>some (.bool (decide (a<=b)))
 |.gtr=>some (.bool (decide (b<a)))
 |.geq=>some (.bool (decide (b<=a)))
 |_=>none
def FU (op:BinOp) (k:IntKind) (a b:Int):Option C:=
 if b<0 then none else
 match op with
 |.shl=>some (.int k (k.wrap (a*2^(min b.toNat k.bits))))
 |.shr=>some (.int k (a/(2^(min b.toNat k.bits))))
 |_=>none
def BinOp.zQ:BinOp->Bool
 |.shl|.shr=>true
 |_=>false
def wL (op:BinOp):ah->ah->Option C
 |.one (.c (.int k a)),.one (.c (.int k' b))=>if BinOp.zQ op=true then FU op k a b else if k=k' then Bb op k a b else none
 |_,_=>none
def Ba (op:BinOp):ah->ah->Option C
 |.one (.c (.bool a)),.one (.c (.bool b))=>match op with
  |.eql=>some (.bool (a==b))
  |.neq=>some (.bool (a !=b))
  |_=>none
 |_,_=>none
def Dd (op:UnOp):ah->Option C
 |.one (.c (.bool a))=>match op with
  |.not=>some (.bool (!a))
  |_=>none
 |.one (.c (.int k a))=>match op with
  |.neg=>some (.int k (k.wrap (0 - a)))
  |_=>none
 |_=>none
def ah.cJ:ah->Option Int
 |.one (.c (.int _ n))=>some n
 |_=>none
def e8:Nat:=140737488355328
def pZ (ev:MO->ah):List ab->List (Nat×Nat×MO)->Option (List ab)
 |zs,[]=>some zs
 |zs,(off,sz,x)::ps=>match(ev x).cells? with
  |some (_,cs)=>if cs.length=sz/\off+sz<=zs.length then pZ ev (ci zs off cs) ps else none
  |none=>none
def mQ (σ:St) (n:Nat) (gr:Bool) (m:Mode) (rs:Nat) (xs:List (List C)) (k off:Nat) (e:List C) (vs:List ab):Option St:=
 match sub e off vs.length with
 |none=>none
 |some f8=>match σ.fi vs with
  |none=>none
  |some (cs,o,σ1)=>
   if m=.live then
    if eo cs=true/\eo f8=true/\(σ1.h n).isSome=true/\gr=false then some (σ1.cW n (.row gr m rs (xs.set k (ci e off cs)))) else none
   else if(σ1.h n).isSome=true then
    some (σ1.cW n (.row gr (if o=true then m else .aG) rs (xs.set k (ci e off cs))))
   else none
def kt:List ab->Option (List C)
 |[]=>some []
 |.c x::l=>if x.dL=true then(kt l).map (x::·) else none
 |_::_=>none
def wc (xs:List (List C)) (k off s i:Nat) (vs:List ab):Option (List (List C)):=
 match(xs[k]?).bind (·[off]?) with
 |some (.list s' ys)=>if s'=s/\vs.length=s/\i<ys.length/\dd ys=true then(kt vs).map fun cs=>xs.set k ((xs.getD k []).set off (.list s' (ys.set i cs))) else none
 |_=>none
def qi (σ:St) (sz:Nat):ah->Option (List (List C)×Mode×St)
 |.one (.nil _)=>some ([],.af,σ)
 |.one (.sl a s 0 len)=>match σ.h a with
  |some (.row true m rs xs)=>if rs=sz/\s=sz/\len=xs.length then some (xs,m,σ.del a) else none
  |_=>none
 |_=>none
def ko (fl:Bool) (σ1:St) (sz:Nat) (m:Mode):ah->Option (List (List C)×Mode×St)
  |.one (.nil _)=>some ([],m,σ1)
  |.one (.c (.list s ys))=>if s=sz then(if(fl&&dd ys)=true then some (ys,m,σ1) else if m=.live then none else some (ys,.aG,σ1)) else none
  |.one (.sl b s lo len)=>match σ1.h b with
   |some (.row gr m' rs ys)=>if rs=sz/\s=sz/\lo+len<=ys.length then
       (if(fl&&dd ((ys.drop lo).take len))=true then some ((ys.drop lo).take len,m,σ1)
        else if lo=0/\len=ys.length then(if m=m'/\(m=.live->gr=true) then some (ys,m,σ1.del b) else if m=.live\/m'=.live then none else some (ys,.aG,σ1.del b)) else none)
    else none
   |_=>none
  |_=>none
def ab.Fy:ab->Bool
 |.aX=>false
 |_=>true
def kI (bU:Bool) (n:Int) (c:ab):List ab:=if bU=true then[.c (.int .i64 n),.c (.int .i64 1),c] else[.c (.int .i64 1),.c (.int .i64 n),c]
def exec (T:aF) (d:Option Nat) (op:aI) (σ:St):Option St:=
 match op with
 |.mv x=>some (σ.put d (σ.ev x))
 |.pick c x y=>match σ.ev c with
  |.one (.c (.bool b))=>if b=true then some (σ.put d (σ.ev x)) else some (σ.put d (σ.ev y))
  |_=>none
 |.alloc zs=>match d with
  |some n=>match σ.ins n (.box zs) with
   |some σ1=>some (σ1.put d (.one (.ptr n 0 0 0)))
   |none=>none
  |none=>none
 |.box sz x=>match d,(σ.ev x).cells? with
  |some n,some (_,cs)=>if cs.length=sz then
   match σ.ins n (.box cs) with
   |some σ1=>some (σ1.put d (.one (.ptr n 0 0 0)))
   |none=>none
   else none
  |_,_=>none
 |.build zs parts=>match pZ σ.ev zs parts with
  |some cs=>some (σ.put d (.agg cs))
  |none=>none
 |.fF sz parts=>match d,σ.kL sz (parts.map σ.ev) with
  |some n,some (es,o,σ1)=>match σ1.ins n (.row true (if o=true then .af else .aG) sz es) with
   |some σ2=>some (σ2.put d (.one (.sl n sz 0 es.length)))
   |none=>none
  |_,_=>none
 |.load ag sz x=>match σ.ev x with
  |.one p=>match loadAt σ.h p sz with
   |some cs=>some (σ.put d (kM ag cs))
   |none=>none
  |_=>none
 |.oE ag sz x=>match σ.ev x with
  |.one p=>match σ.qB p with
   |some σ1=>match loadAt σ1.h p sz with
    |some cs=>some (σ1.put d (kM ag cs))
    |none=>none
   |none=>none
  |_=>none
 |.store sz x v=>match σ.ev x,(σ.ev v).cells? with
  |.one (.ptr n k au off),some (_,vs)=>if vs.length=sz then
   match σ.h n with
   |some (.box cs)=>if k=0/\off+sz<=cs.length then some (σ.cW n (.box (ci cs off vs))) else none
   |some (.row gr m rs xs)=>if au=rs then
    match xs[k]? with
    |some e=>mQ σ n gr m rs xs k off e vs
    |none=>none
    else none
   |none=>none
   else none
  |.one (.bX n k au off s i),some (_,vs)=>if vs.length=sz then
   match σ.h n with
   |some (.row false .live rs xs)=>if au=rs then
    match wc xs k off s i vs with
    |some ak=>some (σ.cW n (.row false .live rs ak))
    |none=>none
    else none
   |_=>none
   else none
  |_,_=>none
 |.oG x=>match σ.ev x with
  |.one (.ptr n k sz off)=>if(σ.h n).isSome=true then some (σ.put d (.one (.ptr n k sz off))) else none
  |.one (.cd xs off)=>some (σ.put d (.one (.cd xs off)))
  |.one (.bK xs off j n s len)=>some (σ.put d (.one (.bK xs off j n s len)))
  |_=>none
 |.bin op x y=>match wL op (σ.ev x) (σ.ev y) with
  |some c=>some (σ.put d (.one (.c c)))
  |none=>none
 |.oZ op x y=>match Ba op (σ.ev x) (σ.ev y) with
  |some c=>some (σ.put d (.one (.c c)))
  |none=>none
 |.un op x=>match Dd op (σ.ev x) with
  |some c=>some (σ.put d (.one (.c c)))
  |none=>none
 |.conv k x=>match σ.ev x with
  |.one (.c (.int _ n))=>some (σ.put d (.one (.c (.int k (k.wrap n)))))
  |_=>none
 |.lK m sz by_ zs l c=>match d,(σ.ev l).cJ,(σ.ev c).cJ with
  |some n,some a,some b=>if a<=b/\0<=a/\b.toNat*by_<=e8/\zs.length=sz then
   match σ.ins n (.row true m sz (List.replicate a.toNat zs)) with
   |some σ1=>some (σ1.put d (.one (.sl n sz 0 a.toNat)))
   |none=>none
   else none
  |_,_,_=>none
 |.slice sz x lo hi=>
  let PS:Option Int:=match lo with|none=>some 0|some l=>(σ.ev l).cJ
  match σ.ev x,PS with
  |.one (.sl n s l0 len),some l=>
   match(match hi with|none=>some (len:Int)|some h=>(σ.ev h).cJ) with
   |some h=>if s=sz/\0<=l/\l<=h/\h<=len/\(σ.h n).isSome=true then some (σ.put d (.one (.sl n s (l0+l.toNat) (h - l).toNat))) else none
   |none=>none
  |.one (.c (.list s xs)),some l=>
   match(match hi with|none=>some (xs.length:Int)|some h=>(σ.ev h).cJ) with
   |some h=>if s=sz/\0<=l/\l<=h/\h<=xs.length then some (σ.put d (.one (.c (.list s ((xs.drop l.toNat).take (h - l).toNat))))) else none
   |none=>none
  |_,_=>none
 |.tail sz x lo=>match d,σ.ev x,(σ.ev lo).cJ with
  |some n,.one (.sl a s 0 len),some l=>match σ.h a with
   |some (.row true m rs xs)=>if rs=sz/\s=sz/\len=xs.length/\0<=l/\l<=len then
    match(σ.del a).ins n (.row true m sz (xs.drop l.toNat)) with
    |some σ1=>some (σ1.put d (.one (.sl n sz 0 (xs.length - l.toNat))))
    |none=>none
    else none
   |_=>none
  |_,_,_=>none
 |.aC off x=>match σ.ev x with
  |.one (.ptr n k sz o)=>if(σ.h n).isSome=true then some (σ.put d (.one (.ptr n k sz (o+off)))) else none
  |.one (.cd xs o)=>some (σ.put d (.one (.cd xs (o+off))))
  |.one (.bK xs o j n s len)=>some (σ.put d (.one (.bK xs (o+off) j n s len)))
  |_=>none
 |.cH sz x i=>match σ.ev x,(σ.ev i).cJ with
  |.one (.sl n s lo len),some k=>if s=sz/\0<=k/\k<len/\(σ.h n).isSome=true then some (σ.put d (.one (.ptr n (lo+k.toNat) s 0))) else none
  |.one (.c (.list s xs)),some k=>if s=sz/\0<=k then
   match xs[k.toNat]? with
   |some e=>some (σ.put d (.one (.cd e 0)))
   |none=>none
   else none
  |.one (.bf n kk au off s len),some k=>match bQ σ.h (.bf n kk au off s len) with
   |some (.list s' ys)=>if s'=sz/\0<=k/\k<ys.length then some (σ.put d (.one (.bX n kk au off sz k.toNat))) else none
   |_=>none
  |_,_=>none
 |.ext i x=>match σ.ev x with
  |.bk xs=>match xs[i]? with
   |some (ag,cs)=>some (σ.put d (kM ag cs))
   |none=>none
  |_=>none
 |.n8 ag off sz x=>match σ.ev x with
  |.agg cs=>match sub cs off sz with
   |some l=>some (σ.put d (kM ag l))
   |none=>none
  |_=>none
 |.nJ f bU x=>match σ.ev x with
  |.one (.sl n sz lo len)=>if(σ.h n).isSome=true then some (σ.put d (.agg (kI bU len (.sl n sz lo len)))) else none
  |.one (.c (.list sz xs))=>some (σ.put d (.agg (kI bU xs.length (.c (.list sz xs)))))
  |.one (.nil sz)=>some (σ.put d (.agg (kI bU 0 (.nil sz))))
  |_=>none
 |.len x=>match σ.ev x with
  |.one (.sl n sz lo len)=>if(σ.h n).isSome=true then some (σ.put d (.one (.c (.int .i64 len)))) else none
  |.one (.c (.list sz xs))=>some (σ.put d (.one (.c (.int .i64 xs.length))))
  |.one (.nil sz)=>some (σ.put d (.one (.c (.int .i64 0))))
  |.one (.bf n k au off sz len)=>match bQ σ.h (.bf n k au off sz len) with
   |some (.list s ys)=>some (σ.put d (.one (.c (.int .i64 ys.length))))
   |_=>none
  |_=>none
 |.append fl sz by_ x y=>match d with
  |none=>none
  |some n=>match qi σ sz (σ.ev x) with
   |none=>none
   |some (xs,m,σ1)=>match ko fl σ1 sz m (σ.ev y) with
    |none=>none
    |some (ys,m2,σ2)=>
     if(xs.length+ys.length)*by_<=e8 then
      match σ2.ins n (.row true m2 sz (xs++ys)) with
      |some fE=>some (fE.put d (.one (.sl n sz 0 (xs.length+ys.length))))
      |none=>none
     else none
 |.copy sz x y=>match σ.ev x,σ.ev y with
  |.one (.sl n s lo len),.one c=>match σ.h n,bQ σ.h c with
   |some (.row gr m rs xs),some (.list s' ys)=>if sz=1/\s=1/\rs=1/\s'=1/\m≠ .aG/\dd xs=true/\dd ys=true/\lo+len<=xs.length then
    some ((σ.cW n (.row gr m 1 (ci xs lo (ys.take len)))).put d (.one (.c (.int .i64 (Nat.min ys.length len:Nat))))) else none
   |_,_=>none
  |_,_=>none
 |.kq z x=>match σ.ev x with
  |.one (.sl n s lo len)=>match σ.h n with
   |some (.row gr m rs xs)=>if s=1/\rs=1/\z.dL=true/\m≠ .aG/\dd xs=true/\lo+len<=xs.length then
    some ((σ.cW n (.row gr m 1 (ci xs lo (List.replicate len [z])))).put d (.bk [])) else none
   |_=>none
  |_=>none
 |.mm mx x y=>match σ.ev x,σ.ev y with
  |.one (.c (.int k a)),.one (.c (.int k' b))=>if mx=true then(if a<b then some (σ.put d (.one (.c (.int k b)))) else some (σ.put d (.one (.c (.int k a)))))
   else(if b<a then some (σ.put d (.one (.c (.int k b)))) else some (σ.put d (.one (.c (.int k a)))))
  |_,_=>none
 |.call m f xs=>rL T m d f (xs.map σ.ev) σ
 |.lT f xs=>match uF T f (xs.map σ.ev) σ.h with
  |some v=>some (σ.put d v)
  |none=>none
 |.pR f xs=>match(xs.map σ.ev).mapM (fun v=>match v with|.one c=>if c.fR=true then none else some c|_=>none) with
  |some cs=>if cs.all ab.Fy=true then some (σ.put d (.one (.fn f cs))) else none
  |none=>none
 |.lV m x xs=>match σ.ev x with
  |.one (.fn f bI)=>rL T m d f (xs.map σ.ev++bI.map .one) σ
  |_=>none
 |.fN m f xs=>qu T m d f (xs.map σ.ev) σ
 |.iA f xs=>qt T d f (xs.map σ.ev) σ
 |.lW f xs=>match pb T f (xs.map σ.ev) σ.h with
  |some v=>some (σ.put d v)
  |none=>none
 |.lU f xs=>match yX T f (xs.map σ.ev) with
  |some v=>some (σ.put d v)
  |none=>none
 |.lY m f xs=>uM T m d f (xs.map σ.ev) σ
 |.nX m f x xs=>match σ.ev x with
  |.one (.fn g bI)=>if g=f then uL T m d f (xs.map σ.ev++bI.map .one) σ else none
  |_=>none
def cQ (T:aF) (o:bq) (σ:St):Option St:=
 match o.guard with
 |none=>exec T o.dst o.op σ
 |some (s,kl)=>match σ.env s with
  |.one (.c (.bool b))=>if b=kl then exec T o.dst o.op σ else some (σ.put o.dst (.bk []))
  |.bk []=>some (σ.put o.dst (.bk []))
  |_=>none
def dZ (T:aF):List bq->St->Option St
 |[],σ=>some σ
 |o::os,σ=>match cQ T o σ with
  |some σ'=>dZ T os σ'
  |none=>none
def ab.eA (ok:Nat->Bool):ab->ab
 |.ptr n k sz off=>if ok n=true then .ptr n k sz off else .aX
 |.sl n sz lo len=>if ok n=true then .sl n sz lo len else .aX
 |.bf n k au off sz len=>if ok n=true then .bf n k au off sz len else .aX
 |.bX n k au off sz i=>if ok n=true then .bX n k au off sz i else .aX
 |.bK xs off j n sz len=>if ok n=true then .bK xs off j n sz len else .aX
 |x=>x
def ab.cE (ok:Nat->Bool):ab->ab
 |.fn f bI=>.fn f (bI.map (·.eA ok))
 |x=>x.eA ok
def ah.cE (ok:Nat->Bool):ah->ah
 |.one c=>.one (c.cE ok)
 |.agg cs=>.agg (cs.map (·.cE ok))
 |.bk xs=>.bk (xs.map fun x=>(x.1,x.2.map (·.cE ok)))
def aj.cE (ok:Nat->Bool):aj->aj
 |.box cs=>.box (cs.map (·.cE ok))
 |b=>b
def wU:Nat->ah:=fun _=>.one .aX
def Bv:Nat->Option aj:=fun _=>none
def Wi:Nat->Bool:=fun _=>false
def vY (ok:Nat->Bool) (env:Nat->ah):List Nat->(Nat->ah)
 |[]=>wU
 |s::ss=>ao (vY ok env ss) s ((env s).cE ok)
def rf (ok:Nat->Bool) (h:Nat->Option aj):List Nat->(Nat->Option aj)
 |[]=>Bv
 |s::ss=>if ok s=true then match h s with
  |some b=>ao (rf ok h ss) s (some (b.cE ok))
  |none=>rf ok h ss
  else rf ok h ss
def vZ (ok:Nat->Bool):List Nat->(Nat->Bool)
 |[]=>Wi
 |s::ss=>if ok s=true then ao (vZ ok ss) s true else vZ ok ss
def ab.xY (n:Nat):ab->Bool
 |.ptr m _ _ _=>m==n
 |.sl m _ _ _=>m==n
 |.bf m _ _ _ _ _=>m==n
 |.bX m _ _ _ _ _=>m==n
 |.bK _ _ _ m _ _=>m==n
 |_=>false
def ab.gD (n:Nat):ab->Bool
 |.fn _ bI=>bI.any (·.xY n)
 |x=>x.xY n
def ah.gD (n:Nat):ah->Bool
 |.one c=>c.gD n
 |.agg cs=>cs.any (·.gD n)
 |.bk xs=>xs.any fun x=>x.2.any (·.gD n)
def St.iO (σ:St) (ke kh:List Nat):Nat->Bool:=fun n=>kh.contains n&&(σ.h n).isSome&&
 (Nat.ble aJ n||ke.any (fun s=>(σ.env s).gD n)||kh.any fun k=>match σ.h k with|some (.box cs)=>cs.any (·.gD n)|_=>false)
def St.hJ (σ:St) (ke kh:List Nat):St:=
 {env:=vY (σ.iO ke kh) σ.env ke,h:=rf (σ.iO ke kh) σ.h kh,used:=fun n=>Nat.ble aJ n||vZ (σ.iO ke kh) kh n}
def mN (x c n:Nat):Nat:=if n=x then c else n
def ab.nH (x c:Nat):ab->ab
 |.ptr n k sz off=>.ptr (mN x c n) k sz off
 |.sl n sz lo len=>.sl (mN x c n) sz lo len
 |.bf n k au off sz len=>.bf (mN x c n) k au off sz len
 |.bX n k au off sz i=>.bX (mN x c n) k au off sz i
 |.bK xs off j n sz len=>.bK xs off j (mN x c n) sz len
 |y=>y
def ab.bc (x c:Nat):ab->ab
 |.fn f bI=>.fn f (bI.map (·.nH x c))
 |y=>y.nH x c
def ah.bc (x c:Nat):ah->ah
 |.one y=>.one (y.bc x c)
 |.agg ys=>.agg (ys.map (·.bc x c))
 |.bk ys=>.bk (ys.map fun y=>(y.1,y.2.map (·.bc x c)))
def aj.bc (x c:Nat):aj->aj
 |.box cs=>.box (cs.map (·.bc x c))
 |b=>b
def St.bc (σ:St) (x c:Nat):Option St:=
 if x=c then some σ else if Nat.ble aJ x=true then some σ else if σ.used c=true then none else
 some {env:=fun s=>(σ.env s).bc x c,h:=fun n=>if n=c then(σ.h x).map (·.bc x c) else if n=x then none else(σ.h n).map (·.bc x c),used:=fun n=>if n=c then σ.used x else if n=x then false else σ.used n}
def St.jD (σ:St) (c:Nat):Mode->St
 |.aG=>match σ.h c with
  |some (.row gr .af rs xs)=>σ.cW c (.row gr .aG rs xs)
  |_=>σ
 |_=>σ
def St.canon (σ:St):Bool×Nat×Nat×Nat×Mode->Option St
 |(true,n,j,c,m)=>match σ.h n with
  |some (.box cs)=>match cs[j]? with
   |some (.sl a _ _ _)=>(σ.bc a c).map fun σ1=>σ1.jD c m
   |some (.nil sz)=>if 0<sz then match σ.ins c (.row true m sz []) with
    |some σ1=>some (σ1.cW n (.box (cs.set j (.sl c sz 0 0))))
    |none=>none
    else some σ
   |_=>some σ
  |_=>some σ
 |(false,n,j,c,m)=>match σ.env n with
  |.one (.sl a _ _ _)=>(σ.bc a c).map fun σ1=>σ1.jD c m
  |.one (.nil sz)=>if 0<sz then match σ.ins c (.row true m sz []) with
   |some σ1=>some (σ1.put (some n) (.one (.sl c sz 0 0)))
   |none=>none
   else some σ
  |_=>some σ
def St.s7 (σ:St):List (Bool×Nat×Nat×Nat×Mode)->Option St
 |[]=>some σ
 |x::l=>match σ.canon x with
  |some σ1=>σ1.s7 l
  |none=>none
def St.head (σ:St) (ke kh:List Nat) (cn:List (Bool×Nat×Nat×Nat×Mode)):Option St:=
 match((σ.hJ ke kh).hJ ke kh).s7 cn with
 |some σ1=>some (σ1.hJ ke kh)
 |none=>none
def aI.args:aI->List MO
 |.mv x|.box _ x|.load _ _ x|.oE _ _ x|.oG x|.un _ x|.conv _ x|.aC _ x|.ext _ x|.n8 _ _ _ x|.nJ _ _ x|.len x|.kq _ x=>[x]
 |.pick c x y=>[c,x,y]
 |.alloc _=>[]
 |.build _ ps=>ps.map (·.2.2)
 |.fF _ ps=>ps
 |.store _ x v=>[x,v]
 |.bin _ x y|.oZ _ x y|.mm _ x y|.append _ _ _ x y|.copy _ x y|.cH _ x y|.tail _ x y=>[x,y]
 |.lK _ _ _ _ l c=>[l,c]
 |.slice _ x lo hi=>x::(lo.toList++hi.toList)
 |.call _ _ xs|.pR _ xs|.fN _ _ xs|.lT _ xs|.iA _ xs|.lW _ xs|.lU _ xs|.lY _ _ xs=>xs
 |.lV _ x xs|.nX _ _ x xs=>x::xs
def aI.E7:aI->Bool
 |.call ..|.lV ..|.lT ..=>true
 |_=>false
def ab.sj:ab->List Nat
 |.ptr n _ _ _=>[n]
 |.sl n _ _ _=>[n]
 |.bf n _ _ _ _ _=>[n]
 |.bX n _ _ _ _ _=>[n]
 |.bK _ _ _ n _ _=>[n]
 |_=>[]
def ab.nm:ab->List Nat
 |.fn _ bI=>bI.flatMap ab.sj
 |x=>x.sj
def ah.gk:ah->List Nat
 |.one c=>c.nm
 |.agg cs=>cs.flatMap ab.nm
 |.bk xs=>xs.flatMap fun x=>x.2.flatMap ab.nm
def Bd (h:Nat->Option aj) (l:List Nat):List Nat:=l.flatMap fun n=>match h n with
 |some (.box cs)=>cs.flatMap ab.nm
 |_=>[]
def aI.iN (op:aI) (ev:MO->ah):List Nat:=op.args.flatMap fun x=>(ev x).gk
def aI.lN (op:aI) (ev:MO->ah) (h:Nat->Option aj):List Nat:=cond op.E7 (op.iN ev++Bd h (op.iN ev)) (op.iN ev)
def aI.jU (op:aI) (ev:MO->ah) (h:Nat->Option aj):Option (List Nat):=
 match op with
 |.store _ x v=>match ev x with
  |.one (.ptr n _ _ _)=>match h n with
   |some (.box _)=>some [n]
   |some (.row ..)=>some (n::(ev v).gk)
   |none=>none
  |.one (.bX n _ _ _ _ _)=>some [n]
  |_=>none
 |.fF _ ps=>some (ps.flatMap fun p=>(ev p).gk)
 |.iA _ xs=>some (xs.flatMap fun p=>(ev p).gk)
 |.append _ _ _ x y=>some ((ev x).gk++(ev y).gk)
 |.copy _ x _|.kq _ x=>match ev x with
  |.one (.sl n _ _ _)=>some [n]
  |_=>none
 |.fN ..|.lY ..|.nX ..|.tail ..|.oE ..=>none
 |_=>some []
abbrev FP:=List Nat×List Nat
def aI.fp (op:aI) (σ:St):Option FP:=(op.jU σ.ev σ.h).map fun w=>(op.lN σ.ev σ.h,w)
def DR (f g:FP):Bool:=f.2.all (fun n=> !(g.1.contains n))&&g.2.all (fun n=> !(f.1.contains n))
def DS:Option FP->Option FP->Bool
 |some f,some g=>DR f g
 |_,_=>false
def mb (o:bq) (e:Nat->ah):Option aI:=
 match o.guard with
 |none=>some o.op
 |some (s,kl)=>match e s with
  |.one (.c (.bool b))=>if b=kl then some o.op else some (.mv (.k (.bk [])))
  |.bk []=>some (.mv (.k (.bk [])))
  |_=>none
def bq.fp (o:bq) (σ:St):Option FP:=
 match mb o σ.env with
 |some op=>op.fp σ
 |none=>none
def sk (ps:List (Nat×Nat)) (fs:List (Option FP)):Bool:=ps.all fun p=>DS (fs.getD p.1 none) (fs.getD p.2 none)
def ku (T:aF):List bq->List (Option FP)->St->Option (List (Option FP)×St)
 |[],cD,σ=>some (cD,σ)
 |o::os,cD,σ=>match cQ T o σ with
  |some σ1=>ku T os (cD++[o.fp σ]) σ1
  |none=>none
def aM:Nat:=2^64
def Cq:Nat->(St->Option sT)->St->Option sT
 |0,_,_=>none
 |n+1,f,σ=>match f σ with
  |some (.eF σ')=>Cq n f σ'
  |o=>o
def ab.gp (n:Nat):ab->ab
 |.bf m k au off sz len=>match Nat.beq m n with
  |true=>.aX
  |false=>.bf m k au off sz len
 |.bX m k au off sz i=>match Nat.beq m n with
  |true=>.aX
  |false=>.bX m k au off sz i
 |y=>y
def ab.cut (n:Nat):ab->ab
 |.fn f bI=>.fn f (bI.map (·.gp n))
 |y=>y.gp n
def ah.cut (n:Nat):ah->ah
 |.one c=>.one (c.cut n)
 |.agg cs=>.agg (cs.map (·.cut n))
 |.bk xs=>.bk (xs.map fun x=>(x.1,x.2.map (·.cut n)))
def aj.cut (n:Nat):aj->aj
 |.box cs=>.box (cs.map (·.cut n))
 |b=>b
def St.cut (σ:St) (n:Nat):St:={σ with env:=fun s=>(σ.env s).cut n,h:=fun m=>(σ.h m).map (·.cut n)}
def xL (sp:oT) (σ:St):Option St:=
 match σ.ev sp.mx,σ.ev sp.ml,σ.ev sp.my with
 |.one (.ptr n k rs off),.one (.bf n' k' kJ jR s0 tS),.one yc=>
  if n'=n/\k'=k/\kJ=rs/\jR=off/\off+1=rs/\n<aJ then
   match σ.h n with
   |some (.row true .live FE xs)=>if FE=rs then
    match(xs[k]?).bind (·[off]?),bQ σ.h yc with
    |some (.list s ls),some (.list s' ys)=>
     if s=sp.sz/\s'=sp.sz/\dd ls=true/\dd ys=true/\(ls.length+ys.length)*sp.by_<=e8 then
      some ((σ.cut n).cW n (.row true .live rs (xs.set k ((xs.getD k []).set off (.list sp.sz (ls++ys))))))
     else none
    |_,_=>none
    else none
   |_=>none
  else none
 |_,_,_=>none
def St.uj (σ:St):ab->Option (C×Bool×St)
 |.c x=>if x.dL=true then some (x,true,σ) else none
 |.nil sz=>if 0<sz then some (.list sz [],true,σ) else none
 |.sl n sz 0 len=>match σ.h n with
  |some (.row gr m rs xs)=>if rs=sz/\m≠ .aG/\dd xs=true/\len<=xs.length then some (.list sz (xs.take len),gr&&decide (0<len),σ.del n) else none
  |_=>none
 |_=>none
def St.rr (σ:St):List ab->Option (List C×Bool×St)
 |[]=>some ([],true,σ)
 |c::cs=>match σ.uj c with
  |some (x,o,σ1)=>match σ1.rr cs with
   |some (xs,o',σ2)=>some (x::xs,(match cs with|[]=>o|_::_=>o'),σ2)
   |none=>none
  |none=>none
def DT (T:aF) (d:Nat) (f:FuncId) (as:List ah) (σ:St):Option St:=
 match ji σ.h as,aF.find T.ns f with
 |some ds,some M=>match M ds with
  |some [(.one,[.list sz xs])]=>match σ.ins (iw (some d)) (.row true .live sz xs) with
   |some σ1=>some (σ1.put (some d) (.one (.sl (iw (some d)) sz 0 xs.length)))
   |none=>none
  |_=>none
 |_,_=>none
def St.rl (σ:St) (s:Nat) (v:ah):St:={σ with env:=ao σ.env s v}
def rJ (T:aF) (d:Nat) (c:Dr) (σ:St):Option St:=
 match c with
 |.s6 sz p=>match(σ.ev p).cells? with
  |some (_,cs)=>if cs.length=sz then
   match σ.rr cs with
   |some (es,true,σ1)=>match σ1.ins d (.row true .live sz [es]) with
    |some σ2=>some (σ2.put (some d) (.one (.sl d sz 0 1)))
    |none=>none
   |_=>none
   else none
  |none=>none
 |.uE p s=>match σ.ev p,σ.env s with
  |.one (.sl q sz lo len),.one (.sl q' ax xH tR)=>if q'=q/\ax=sz/\tR=len/\s≠d/\lo=0/\xH=0 then
   match σ.eM (.sl q sz 0 len) with
   |some (y,true,σ1)=>match σ1.ins d (.row true .af 1 [[y]]) with
    |some σ2=>some ((σ2.put (some d) (.one (.sl d 1 0 1))).rl s (.one (.c y)))
    |none=>none
   |_=>none
   else none
  |_,_=>none
 |.pop x lo s=>match σ.ev x,(σ.ev lo).cJ,σ.env s with
  |.one (.sl n s1 l1 len),some l,.one (.bf n' k rs off _ _)=>if s1=1/\l1=0/\l=1/\n'=n/\k=0/\rs=1/\off=0/\s≠d then
   match σ.h n with
   |some (.row true .live FE xs)=>if FE=1/\len=xs.length then
    match xs[0]? with
    |some [C.list sz ys]=>if dd ys=true then
     match(σ.del n).ins d (.row true .live 1 (xs.drop 1)) with
     |some σ1=>match σ1.ins (iw (some d)) (.row false .af sz ys) with
      |some σ2=>some ((σ2.put (some d) (.one (.sl d 1 0 (xs.length - 1)))).rl s (.one (.sl (iw (some d)) sz 0 ys.length)))
      |none=>none
     |none=>none
     else none
    |_=>none
    else none
   |_=>none
   else none
  |_,_,_=>none
 |.wM f xs=>DT T d f (xs.map σ.ev) σ
def s9 (T:aF):List Dq->St->Option St
 |[],σ=>some σ
 |.op m::l,σ=>match cQ T m σ with
  |some σ1=>s9 T l σ1
  |none=>none
 |.m7 d c::l,σ=>match rJ T d c σ with
  |some σ1=>s9 T l σ1
  |none=>none
def dv (T:aF):kR->St->Option sT
 |.skip,σ=>some (.eF σ)
 |.ae _ ops,σ=>match dZ T ops σ with
  |some σ'=>some (.eF σ')
  |none=>none
 |.t9 ps ops,σ=>match ku T ops [] σ with
  |some (fs,σ')=>cond (sk ps fs) (some (.eF σ')) none
  |none=>none
 |.re its,σ=>match s9 T its σ with
  |some σ'=>some (.eF σ')
  |none=>none
 |.sr false _ ops sp,σ=>match dZ T ops σ with
  |some σ1=>match xL sp σ1 with
   |some σ'=>some (.eF σ')
   |none=>none
  |none=>none
 |.sr true ps ops sp,σ=>match ku T ops [] σ with
  |some (fs,σ1)=>match xL sp σ1 with
   |some σ'=>cond (sk ps fs) (some (.eF σ')) none
   |none=>none
  |none=>none
 |.seq a b,σ=>match dv T a σ with
  |some (.eF σ')=>dv T b σ'
  |o=>o
 |.cond c a b,σ=>match σ.ev c with
  |.one (.c (.bool t))=>if t=true then dv T a σ else dv T b σ
  |_=>none
 |.block id c,σ=>match dv T c σ with
  |some (.ext i σ')=>if i=id then some (.eF σ') else some (.ext i σ')
  |o=>o
 |.join ke kh cn c,σ=>match dv T c σ with
  |some (.eF σ')=>match σ'.head ke kh cn with
   |some σ1=>some (.eF σ1)
   |none=>none
  |o=>o
 |.loop id ke kh cn c,σ=>Cq aM (fun σ=>match σ.head ke kh cn with|some σ1=>dv T c σ1|none=>none) σ
 |.exit id,σ=>some (.ext id σ)
 |.ret,σ=>some (.ret σ)
end Go.Am
