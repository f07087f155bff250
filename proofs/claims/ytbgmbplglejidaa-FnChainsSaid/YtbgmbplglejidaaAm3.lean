/- Am3: the abstract machine's code and its evaluator. No condition. -/
import Derived.Test.YtbgmbplglejidaaAm2
set_option linter.unusedVariables false
namespace Go.Am
inductive MO where
 |t (n:Nat)
 |k (v:aj)
inductive aE where
 |mv (x:MO)
 |pick (c x y:MO)
 |alloc (zs:List ah)
 |box (sz:Nat) (x:MO)
 |build (zs:List ah) (parts:List (Nat×Nat×MO))
 |fI (sz:Nat) (parts:List MO)
 |load (ag:Bool) (sz:Nat) (x:MO)
 |mQ (ag:Bool) (sz:Nat) (x:MO)
 |store (sz:Nat) (x v:MO)
 |gE (x:MO)
 |bin (op:BinOp) (x y:MO)
 |oF (op:BinOp) (x y:MO)
 |un (op:UnOp) (x:MO)
 |conv (k:IntKind) (x:MO)
 |jF (m:Mode) (sz by_:Nat) (zs:List C) (l c:MO)
 |slice (sz:Nat) (x:MO) (lo hi:Option MO)
 |tail (sz:Nat) (x lo:MO)
 |aF (off:Nat) (x:MO)
 |bX (sz:Nat) (x i:MO)
 |ext (i:Nat) (x:MO)
 |oM (ag:Bool) (off sz:Nat) (x:MO)
 |ou (f:FuncId) (bH:Bool) (x:MO)
 |len (x:MO)
 |append (fl:Bool) (sz by_:Nat) (x y:MO)
 |copy (sz:Nat) (x y:MO)
 |kB (z:C) (x:MO)
 |mm (mx:Bool) (x y:MO)
 |call (m:Mode) (f:FuncId) (xs:List MO)
 |mh (f:FuncId) (xs:List MO)
 |pq (f:FuncId) (xs:List MO)
 |mn (m:Mode) (x:MO) (xs:List MO)
 |gd (m:Mode) (f:FuncId) (xs:List MO)
 |du (f:FuncId) (xs:List MO)
 |mq (f:FuncId) (xs:List MO)
 |lv (f:FuncId) (xs:List MO)
structure bR where
 dst:Option Nat
 op:aE
 guard:Option (Nat×Bool)
inductive lg where
 |skip
 |ab (rh:Bool) (ops:List bR)
 |qD (ps:List (Nat×Nat)) (ops:List bR)
 |seq (a b:lg)
 |cond (c:MO) (a b:lg)
 |block (id:Nat) (c:lg)
 |join (ke kh:List Nat) (cn:List (Bool×Nat×Nat×Nat×Mode)) (c:lg)
 |loop (id:Nat) (ke kh:List Nat) (cn:List (Bool×Nat×Nat×Nat×Mode)) (c:lg)
 |exit (id:Nat)
 |ret
inductive K where
 |one|agg|ptr
 deriving DecidableEq
abbrev Dv:=K×List C
abbrev aN:=List (List (Option Mode))
structure aO where
 pure:List (FuncId×(List Dv->Option (List Dv)))
 BN:List (FuncId×aN×(List Dv->Option (List Dv×List C)))
 vs:List (FuncId×(List Dv->Option (List Dv×List C)))
 ws:List (FuncId×aN×(List Dv->Option (Nat×Nat)))
def aO.rl:List (FuncId×aN×(List Dv->Option (List Dv×List C)))->FuncId->Option (aN×(List Dv->Option (List Dv×List C)))
 |[],_=>none
 |(g,M)::l,f=>if f=g then some M else aO.rl l f
def aO.rm:List (FuncId×aN×(List Dv->Option (Nat×Nat)))->FuncId->Option (aN×(List Dv->Option (Nat×Nat)))
 |[],_=>none
 |(g,M)::l,f=>if f=g then some M else aO.rm l f
def aO.j8:List (FuncId×(List Dv->Option (List Dv×List C)))->FuncId->Option (List Dv->Option (List Dv×List C))
 |[],_=>none
 |(g,M)::l,f=>if f=g then some M else aO.j8 l f
def aO.find:List (FuncId×(List Dv->Option (List Dv)))->FuncId->Option (List Dv->Option (List Dv))
 |[],_=>none
 |(g,M)::l,f=>if f=g then some M else aO.find l f
inductive sd where
 |fG (σ:St)
 |ext (id:Nat) (σ:St)
 |ret (σ:St)
def St.ev (σ:St):MO->aj
 |.t n=>σ.env n
 |.k v=>v
def St.put (σ:St) (d:Option Nat) (v:aj):St:=
 match d with
 |some n=>{σ with env:=au σ.env n v}
 |none=>σ
def St.ins (σ:St) (n:Nat) (b:ao):Option St:=
 if σ.used n=true then none else some {σ with h:=au σ.h n (some b),used:=au σ.used n true}
def St.dn (σ:St) (n:Nat) (b:ao):St:={σ with h:=au σ.h n (some b)}
def St.del (σ:St) (n:Nat):St:={σ with h:=au σ.h n none}
def aj.cells?:aj->Option (Bool×List ah)
 |.one .bm=>none
 |.one c=>some (false,[c])
 |.agg cs=>some (true,cs)
 |.bn _=>none
def kV:Bool->List ah->aj
 |true,cs=>.agg cs
 |false,[c]=>.one c
 |false,_=>.one .bm
def sub {α:Type} (l:List α) (off sz:Nat):Option (List α):=if off+sz<=l.length then some ((l.drop off).take sz) else none
def cj {α:Type} (l:List α) (off:Nat) (vs:List α):List α:=l.take off++vs++l.drop (off+vs.length)
def C.eN:C->Bool
 |.list ..=>false
 |_=>true
def fA (l:List C):Bool:=l.all C.eN
def fZ (l:List (List C)):Bool:=l.all fA
def gD (n k rs:Nat):Nat->List C->List ah
 |_,[]=>[]
 |off,.list sz ys::l=>.bz n k rs off sz ys.length::gD n k rs (off+1) l
 |off,x::l=>.c x::gD n k rs (off+1) l
def loadAt (h:Nat->Option ao) (p:ah) (sz:Nat):Option (List ah):=
 match p with
 |.ptr n k az off=>
  match h n with
  |some (.box cs)=>if k=0 then sub cs off sz else none
  |some (.row _ m rs xs)=>
   if az=rs then
    match xs[k]? with
    |some e=>match sub e off sz with
     |some l=>some (if m=.live then gD n k rs off l else l.map .c)
     |none=>none
    |none=>none
   else none
  |none=>none
 |.cu xs off=>(sub xs off sz).map (·.map .c)
 |_=>none
def cg (h:Nat->Option ao):ah->Option C
 |.c x=>some x
 |.nil sz=>if 0<sz then some (.list sz []) else none
 |.sl n sz lo len=>
  match h n with
  |some (.row _ _ rs xs)=>if rs=sz/\lo+len<=xs.length then some (.list sz ((xs.drop lo).take len)) else none
  |_=>none
 |.bz n k az off sz len=>
  match h n with
  |some (.row _ .live rs xs)=>if rs=az then(xs[k]?).bind (·[off]?) else none
  |_=>none
 |_=>none
def gG (h:Nat->Option ao):List ah->Option (List C)
 |[]=>some []
 |c::cs=>match cg h c,gG h cs with
  |some x,some xs=>some (x::xs)
  |_,_=>none
def ig (h:Nat->Option ao):aj->Option Dv
 |.one (.ptr n k sz off)=>
  match h n with
  |some (.box cs)=>if k=0/\off=0 then(gG h cs).map fun l=>(.ptr,l) else none
  |_=>none
 |.one (.cu xs off)=>if off=0 then some (.ptr,xs) else none
 |.one c=>(cg h c).map fun x=>(.one,[x])
 |.agg cs=>(gG h cs).map fun l=>(.agg,l)
 |.bn _=>none
def kx (h:Nat->Option ao):List aj->Option (List Dv)
 |[]=>some []
 |c::cs=>match ig h c,kx h cs with
  |some x,some xs=>some (x::xs)
  |_,_=>none
def St.fS (σ:St):ah->Option (C×Bool×St)
 |.c x=>some (x,x.eN,σ)
 |.nil sz=>if 0<sz then some (.list sz [],true,σ) else none
 |.sl n sz lo len=>
  match σ.h n with
  |some (.row _ m rs xs)=>if rs=sz/\lo=0/\len<=xs.length then some (.list sz (xs.take len),decide (m≠ .aD),σ.del n) else none
  |_=>none
 |_=>none
def St.ft (σ:St):List ah->Option (List C×Bool×St)
 |[]=>some ([],true,σ)
 |c::cs=>match σ.fS c with
  |some (x,o,σ1)=>match σ1.ft cs with
   |some (xs,o',σ2)=>some (x::xs,o&&o',σ2)
   |none=>none
  |none=>none
def St.qa (σ:St):ah->Option St
 |.ptr n _ _ _=>match σ.h n with
  |some (.box cs)=>match σ.ft cs with
   |some (xs,_,σ1)=>some (σ1.dn n (.box (xs.map .c)))
   |none=>none
  |_=>none
 |_=>none
def St.kU (sz:Nat) (σ:St):List aj->Option (List (List C)×Bool×St)
 |[]=>some ([],true,σ)
 |v::vs=>match v.cells? with
  |some (_,cs)=>if cs.length=sz then
   match σ.ft cs with
   |some (e,o,σ1)=>match σ1.kU sz vs with
    |some (es,o',σ2)=>some (e::es,o&&o',σ2)
    |none=>none
   |none=>none
   else none
  |none=>none
def St.imp (m:Mode) (σ:St):Nat->List C->Option (List ah×Nat×St)
 |nm,[]=>some ([],nm,σ)
 |nm,.list sz xs::cs=>match σ.ins nm (.row true m sz xs) with
  |some σ1=>match σ1.imp m (nm+1) cs with
   |some (l,fo,σ2)=>some (.sl nm sz 0 xs.length::l,fo,σ2)
   |none=>none
  |none=>none
 |nm,x::cs=>match σ.imp m nm cs with
  |some (l,fo,σ2)=>some (.c x::l,fo,σ2)
  |none=>none
def St.jC (m:Mode) (σ:St):Nat->List Dv->Option (List (Bool×List ah)×St)
 |_,[]=>some ([],σ)
 |nm,(.ptr,_)::_=>none
 |nm,(k,cs)::ds=>match σ.imp m nm cs with
  |some (l,fo,σ1)=>match σ1.jC m fo ds with
   |some (ls,σ2)=>some ((decide (k=.agg),l)::ls,σ2)
   |none=>none
  |none=>none
def kQ:List (Bool×List ah)->aj
 |[(ag,cs)]=>kV ag cs
 |l=>.bn l
def yW (d:Option Nat):Nat:=match d with|some n=>1000*(n+1)|none=>999
def gx:List Dv->Option (List (Bool×List ah))
 |[]=>some []
 |(.ptr,_)::_=>none
 |(k,cs)::ds=>match gx ds with
  |some ls=>some ((decide (k=.agg),cs.map .c)::ls)
  |none=>none
def tF (T:aO) (f:FuncId) (as:List aj) (h:Nat->Option ao):Option aj:=
 match kx h as with
 |some ds=>match aO.find T.pure f with
  |some M=>match M ds with
   |some rs=>match gx rs with
    |some ls=>some (kQ ls)
    |none=>none
   |none=>none
  |none=>none
 |none=>none
def rf (T:aO) (m:Mode) (d:Option Nat) (f:FuncId) (as:List aj) (σ:St):Option St:=
 match kx σ.h as with
 |some ds=>match aO.find T.pure f with
  |some M=>match M ds with
   |some rs=>match σ.jC m (yW d) rs with
    |some (ls,σ1)=>some (σ1.put d (kQ ls))
    |none=>none
   |none=>none
  |none=>none
 |none=>none
def n5:ah->Option C
 |.c x=>some x
 |.nil sz=>if 0<sz then some (.list sz []) else none
 |_=>none
def jB:List ah->Option (List C)
 |[]=>some []
 |c::cs=>match n5 c,jB cs with
  |some x,some xs=>some (x::xs)
  |_,_=>none
def lr (h:Nat->Option ao):aj->Option (Nat×List C)
 |.one (.ptr n k _ off)=>if k=0/\off=0 then match h n with
  |some (.box cs)=>match jB cs with
   |some xs=>some (n,xs)
   |none=>none
  |_=>none
  else none
 |_=>none
def St.gK (σ:St):List aj->Option (List Dv×List Nat×St)
 |[]=>some ([],[],σ)
 |v::vs=>match lr σ.h v with
  |some (n,xs)=>match σ.gK vs with
   |some (ds,ns,σ1)=>some ((.ptr,xs)::ds,n::ns,σ1)
   |none=>none
  |none=>match v.cells? with
   |some (ag,cs)=>match σ.ft cs with
    |some (xs,_,σ1)=>match σ1.gK vs with
     |some (ds,ns,σ2)=>some ((if ag=true then .agg else .one,xs)::ds,ns,σ2)
     |none=>none
    |none=>none
   |none=>none
def St.qB (σ:St):List Nat->List C->Option St
 |[],[]=>some σ
 |[n],out=>match σ.h n with
  |some (.box cs)=>if cs.length=out.length then some (σ.dn n (.box (out.map .c))) else none
  |_=>none
 |_,_=>none
def pQ (σ:St) (d:Option Nat):List Dv->Option St
 |[(.ptr,cs)]=>match d with
  |some q=>match σ.ins q (.box (cs.map .c)) with
   |some σ1=>some (σ1.put d (.one (.ptr q 0 0 0)))
   |none=>none
  |none=>none
 |rs=>match gx rs with
  |some ls=>some (σ.put d (kQ ls))
  |none=>none
def pU (T:aO) (d:Option Nat) (f:FuncId) (as:List aj) (σ:St):Option St:=
 match σ.gK as,aO.j8 T.vs f with
 |some (ds,ns,σ1),some M=>match M ds with
  |some (rs,out)=>match σ1.qB ns out with
   |some σ2=>pQ σ2 d rs
   |none=>none
  |none=>none
 |_,_=>none
def y7:List aj->Option (List Dv)
 |[]=>some []
 |v::vs=>match v.cells? with
  |some (ag,cs)=>match jB cs with
   |some xs=>match y7 vs with
    |some ds=>some ((if ag=true then .agg else .one,xs)::ds)
    |none=>none
   |none=>none
  |none=>none
def xU (T:aO) (f:FuncId) (as:List aj):Option aj:=
 match y7 as,aO.j8 T.vs f with
 |some ds,some M=>match M ds with
  |some (rs,[])=>match gx rs with
   |some ls=>some (kQ ls)
   |none=>none
  |_=>none
 |_,_=>none
theorem ahV {c:ah} {x:C} (h:n5 c=some x) (σ:St):∃o,σ.fS c=some (x,o,σ):=by
 cases c with
 |c y=>simp only[n5] at h;injection h with h;subst h;exact⟨_,rfl⟩
 |nil sz=>
  simp only[n5] at h
  split at h
  ·rename_i hp
   injection h with h
   subst h
   exact⟨_,if_pos hp⟩
  ·cases h
 |_=>simp[n5] at h
theorem Zx:∀{cs:List ah} {xs:List C},jB cs=some xs->∀σ:St,∃o,σ.ft cs=some (xs,o,σ)
 |[],xs,h,σ=>by simp only[jB] at h;injection h with h;subst h;exact⟨_,rfl⟩
 |c::cs,xs,h,σ=>by
  simp only[jB] at h
  split at h
  ·rename_i x aq e1 e2
   injection h with h
   subst h
   obtain⟨o1,h1⟩:=ahV e1 σ
   obtain⟨o2,h2⟩:=Zx e2 σ
   exact⟨o1&&o2,by simp only[St.ft,h1,h2]⟩
  ·cases h
theorem aa7:∀{as:List aj} {ds:List Dv},y7 as=some ds->∀σ:St,σ.gK as=some (ds,[],σ)
 |[],ds,h,σ=>by simp only[y7] at h;injection h with h;subst h;rfl
 |v::vs,ds,h,σ=>by
  simp only[y7] at h
  split at h
  ·rename_i ag cs hc
   split at h
   ·rename_i xs hi
    split at h
    ·rename_i tK hq
     injection h with h
     subst h
     have hp:lr σ.h v=none:=by
      unfold lr
      split
      ·simp only[aj.cells?] at hc
       injection hc with hc
       injection hc with _ hc
       subst hc
       simp[jB,n5] at hi
      ·rfl
     obtain⟨o,ht⟩:=Zx hi σ
     simp only[St.gK,hp,hc,ht,aa7 hq σ]
    ·cases h
   ·cases h
  ·cases h
theorem aeC {T:aO} {d:Option Nat} {f:FuncId} {as:List aj} {v:aj} (h:xU T f as=some v) (σ:St):pU T d f as σ=some (σ.put d v):=by
 unfold xU at h
 split at h
 ·rename_i ds M hq hM
  split at h
  ·rename_i rs oN
   split at h
   ·rename_i ls hl
    injection h with h
    subst h
    simp only[pU,aa7 hq σ,hM,oN,St.qB]
    unfold pQ
    split
    ·simp[gx] at hl
    ·rw[hl]
   ·cases h
  ·cases h
 ·cases h
def C.su:C->Bool
 |.list _ xs=>fZ xs
 |_=>true
def C.qq:C->Bool
 |.list ..=>true
 |_=>false
def sB:Mode->List (List C)->Bool
 |.ae,xs=>fZ xs
 |.live,xs=>xs.all fun e=>e.all C.su
 |.aD,_=>false
inductive cM where
 |nil (sz:Nat)
 |row (n:Nat)
 |nest (n k off:Nat)
def rR (h:Nat->Option ao) (md:Mode):ah->Option (cM×C)
 |.nil sz=>if 0<sz/\md≠ .aD then some (.nil sz,.list sz []) else none
 |.sl n sz lo len=>match h n with
  |some (.row _ m rs xs)=>if m≠ .aD/\(md=.live->m=.live)/\rs=sz/\lo=0/\len=xs.length/\sB md xs=true then some (.row n,.list sz xs) else none
  |_=>none
 |.bz n k az off sz len=>match h n with
  |some (.row _ .live rs xs)=>if rs=az/\md=.ae then
   match(xs[k]?).bind (·[off]?) with
   |some (.list s ys)=>if fZ ys=true then some (.nest n k off,.list s ys) else none
   |_=>none
   else none
  |_=>none
 |_=>none
def cM.dA:cM->Option Nat
 |.nil _=>none
 |.row n=>some n
 |.nest n _ _=>some n
def ah.dA:ah->Option Nat
 |.sl n _ _ _=>some n
 |.bz n _ _ _ _ _=>some n
 |_=>none
def mR:List (Option Mode)->List ah->List Nat
 |some _::fs,c::cs=>c.dA.toList++mR fs cs
 |none::fs,_::cs=>mR fs cs
 |_,_=>[]
def jE (h h0:Nat->Option ao):List (Option Mode)->List ah->Option (List C×List (cM×Mode))
 |[],cs=>match gG h0 cs with
  |some xs=>some (xs,[])
  |none=>none
 |none::fs,c::cs=>match cg h0 c,jE h h0 fs cs with
  |some x,some (xs,its)=>some (x::xs,its)
  |_,_=>none
 |some md::fs,c::cs=>match rR h md c,jE h h0 fs cs with
  |some (it,x),some (xs,its)=>some (x::xs,(it,md)::its)
  |_,_=>none
 |_::_,[]=>none
def jV:aN->List (Bool×List ah)->List Nat
 |s::sig,a::as=>mR s a.2++jV sig as
 |_,_=>[]
def aN.hd:aN->List (Option Mode)
 |[]=>[]
 |s::_=>s
def aN.tl:aN->aN
 |[]=>[]
 |_::sig=>sig
def kO (h h0:Nat->Option ao):aN->List (Bool×List ah)->Option (List Dv×List (cM×Mode))
 |_,[]=>some ([],[])
 |sig,(ag,cs)::as=>match jE h h0 (aN.hd sig) cs,kO h h0 (aN.tl sig) as with
  |some (xs,its),some (ds,uI)=>some ((if ag=true then(.agg,xs) else(.one,xs))::ds,its++uI)
  |_,_=>none
def pj:List aj->Option (List (Bool×List ah))
 |[]=>some []
 |v::vs=>match v.cells?,pj vs with
  |some x,some xs=>some (x::xs)
  |_,_=>none
def dN (h:Nat->Option ao) (ns:List Nat):Nat->Option ao:=fun n=>if ns.contains n=true then none else h n
def St.nr (σ:St):cM->C->Option St
 |.nil _,_=>some σ
 |.row n,.list sz xs=>match σ.h n with
  |some (.row gr m rs _)=>if rs=sz then some (σ.dn n (.row gr m rs xs)) else none
  |_=>none
 |.nest n k off,x=>match σ.h n with
  |some (.row gr m rs xs)=>match xs[k]? with
   |some e=>some (σ.dn n (.row gr m rs (xs.set k (e.set off x))))
   |none=>none
  |_=>none
 |_,_=>none
def St.pC (σ:St):List (cM×Mode)->List C->Option St
 |[],[]=>some σ
 |it::its,x::xs=>match σ.nr it.1 x with
  |some σ1=>σ1.pC its xs
  |none=>none
 |_,_=>none
def tJ (T:aO) (m:Mode) (d:Option Nat) (f:FuncId) (as:List aj) (σ:St):Option St:=
 match aO.rl T.BN f,pj as with
 |some (sig,M),some dm=>
  if(jV sig dm).Nodup then
   match kO σ.h (dN σ.h (jV sig dm)) sig dm with
   |some (ds,its)=>match M ds with
    |some (rs,eV)=>match σ.pC its eV with
     |some σ1=>match σ1.jC m (yW d) rs with
      |some (ls,σ2)=>some (σ2.put d (kQ ls))
      |none=>none
     |none=>none
    |none=>none
   |none=>none
  else none
 |_,_=>none
def oH (T:aO) (f:FuncId) (as:List aj) (h:Nat->Option ao):Option aj:=
 match aO.rm T.ws f,pj as with
 |some (sig,M),some dm=>
  match jV sig dm with
  |[n]=>match kO h (dN h [n]) sig dm with
   |some (ds,[(.row n',_)])=>if n'=n then match h n,M ds with
    |some (.row _ _ sz _),some (lo,len)=>some (.one (.sl n sz lo len))
    |_,_=>none
    else none
   |_=>none
  |_=>none
 |_,_=>none
def Ah (op:BinOp) (k:IntKind) (a b:Int):Option C:=
 match op with
 |.add=>some (.int k (k.wrap (a+b)))
 |.sub=>some (.int k (k.wrap (a - b)))
 |.mul=>some (.int k (k.wrap (a*b)))
 |.quo=>if b=0 then none else some (.int k (k.wrap (a.tdiv b)))
 |.rem=>if b=0 then none else some (.int k (a.tmod b))
 |.and=>some (.int k (bits .and k a b))
 |.or=>some (.int k (bits .or k a b))
 |.xor=>some (.int k (bits .xor k a b))
 |.eql=>some (.bool (a==b))
 |.neq=>some (.bool (a !=b))
 |.lss=>some (.bool (decide (a<b)))
 |.leq=>some (.bool (decide (a<=b)))
 |.gtr=>some (.bool (decide (b<a)))
 |.geq=>some (.bool (decide (b<=a)))
 |_=>none
def EX (op:BinOp) (k:IntKind) (a b:Int):Option C:=
 if b<0 then none else
 match op with
 |.shl=>some (.int k (k.wrap (a*2^(min b.toNat k.bits))))
 |.shr=>some (.int k (a/(2^(min b.toNat k.bits))))
 |_=>none
def BinOp.yJ:BinOp->Bool
 |.shl|.shr=>true
 |_=>false
def vD (op:BinOp):aj->aj->Option C
 |.one (.c (.int k a)),.one (.c (.int k' b))=>if BinOp.yJ op=true then EX op k a b else if k=k' then Ah op k a b else none
 |_,_=>none
def Ag (op:BinOp):aj->aj->Option C
 |.one (.c (.bool a)),.one (.c (.bool b))=>match op with
  |.eql=>some (.bool (a==b))
  |.neq=>some (.bool (a !=b))
  |_=>none
 |_,_=>none
def Ct (op:UnOp):aj->Option C
 |.one (.c (.bool a))=>match op with
  |.not=>some (.bool (!a))
  |_=>none
 |.one (.c (.int k a))=>match op with
  |.neg=>some (.int k (k.wrap (0 - a)))
  |_=>none
 |_=>none
def aj.df:aj->Option Int
 |.one (.c (.int _ n))=>some n
 |_=>none
def dF:Nat:=140737488355328
def pH (ev:MO->aj):List ah->List (Nat×Nat×MO)->Option (List ah)
 |zs,[]=>some zs
 |zs,(off,sz,x)::ps=>match(ev x).cells? with
  |some (_,cs)=>if cs.length=sz/\off+sz<=zs.length then pH ev (cj zs off cs) ps else none
  |none=>none
def mX (σ:St) (n:Nat) (gr:Bool) (m:Mode) (rs:Nat) (xs:List (List C)) (k off:Nat) (e:List C) (vs:List ah):Option St:=
 match sub e off vs.length with
 |none=>none
 |some fq=>match σ.ft vs with
  |none=>none
  |some (cs,o,σ1)=>
   if m=.live then
    if fA cs=true/\fA fq=true/\(σ1.h n).isSome=true then some (σ1.dn n (.row gr m rs (xs.set k (cj e off cs)))) else none
   else if(σ1.h n).isSome=true then
    some (σ1.dn n (.row gr (if o=true then m else .aD) rs (xs.set k (cj e off cs))))
   else none
def lz:List ah->Option (List C)
 |[]=>some []
 |.c x::l=>if x.eN=true then(lz l).map (x::·) else none
 |_::_=>none
def u4 (xs:List (List C)) (k off s i:Nat) (vs:List ah):Option (List (List C)):=
 match(xs[k]?).bind (·[off]?) with
 |some (.list s' ys)=>if s'=s/\vs.length=s/\i<ys.length/\fZ ys=true then(lz vs).map fun cs=>xs.set k ((xs.getD k []).set off (.list s' (ys.set i cs))) else none
 |_=>none
def pP (σ:St) (sz:Nat):aj->Option (List (List C)×Mode×St)
 |.one (.nil _)=>some ([],.ae,σ)
 |.one (.sl a s 0 len)=>match σ.h a with
  |some (.row true m rs xs)=>if rs=sz/\s=sz/\len=xs.length then some (xs,m,σ.del a) else none
  |_=>none
 |_=>none
def lm (fl:Bool) (σ1:St) (sz:Nat) (m:Mode):aj->Option (List (List C)×Mode×St)
  |.one (.nil _)=>some ([],m,σ1)
  |.one (.c (.list s ys))=>if s=sz then(if(fl&&fZ ys)=true then some (ys,m,σ1) else if m=.live then none else some (ys,.aD,σ1)) else none
  |.one (.sl b s lo len)=>match σ1.h b with
   |some (.row _ m' rs ys)=>if rs=sz/\s=sz/\lo+len<=ys.length then
       (if(fl&&fZ ((ys.drop lo).take len))=true then some ((ys.drop lo).take len,m,σ1)
        else if lo=0/\len=ys.length then(if m=m' then some (ys,m,σ1.del b) else if m=.live\/m'=.live then none else some (ys,.aD,σ1.del b)) else none)
    else none
   |_=>none
  |_=>none
def ah.EA:ah->Bool
 |.bm=>false
 |_=>true
def kS (bH:Bool) (n:Int) (c:ah):List ah:=if bH=true then[.c (.int .i64 n),.c (.int .i64 1),c] else[.c (.int .i64 1),.c (.int .i64 n),c]
def exec (T:aO) (d:Option Nat) (op:aE) (σ:St):Option St:=
 match op with
 |.mv x=>some (σ.put d (σ.ev x))
 |.pick c x y=>match σ.ev c with
  |.one (.c (.bool b))=>if b=true then some (σ.put d (σ.ev x)) else some (σ.put d (σ.ev y))
  |_=>none
 |.alloc zs=>match d with
  |some n=>match σ.ins n (.box zs) with
   |some σ1=>some (σ1.put d (.one (.ptr n 0 0 0)))
   |none=>none
  |none=>none
 |.box sz x=>match d,(σ.ev x).cells? with
  |some n,some (_,cs)=>if cs.length=sz then
   match σ.ins n (.box cs) with
   |some σ1=>some (σ1.put d (.one (.ptr n 0 0 0)))
   |none=>none
   else none
  |_,_=>none
 |.build zs parts=>match pH σ.ev zs parts with
  |some cs=>some (σ.put d (.agg cs))
  |none=>none
 |.fI sz parts=>match d,σ.kU sz (parts.map σ.ev) with
  |some n,some (es,o,σ1)=>match σ1.ins n (.row true (if o=true then .ae else .aD) sz es) with
   |some σ2=>some (σ2.put d (.one (.sl n sz 0 es.length)))
   |none=>none
  |_,_=>none
 |.load ag sz x=>match σ.ev x with
  |.one p=>match loadAt σ.h p sz with
   |some cs=>some (σ.put d (kV ag cs))
   |none=>none
  |_=>none
 |.mQ ag sz x=>match σ.ev x with
  |.one p=>match σ.qa p with
   |some σ1=>match loadAt σ1.h p sz with
    |some cs=>some (σ1.put d (kV ag cs))
    |none=>none
   |none=>none
  |_=>none
 |.store sz x v=>match σ.ev x,(σ.ev v).cells? with
  |.one (.ptr n k az off),some (_,vs)=>if vs.length=sz then
   match σ.h n with
   |some (.box cs)=>if k=0/\off+sz<=cs.length then some (σ.dn n (.box (cj cs off vs))) else none
   |some (.row gr m rs xs)=>if az=rs then
    match xs[k]? with
    |some e=>mX σ n gr m rs xs k off e vs
    |none=>none
    else none
   |none=>none
   else none
  |.one (.cQ n k az off s i),some (_,vs)=>if vs.length=sz then
   match σ.h n with
   |some (.row gr .live rs xs)=>if az=rs then
    match u4 xs k off s i vs with
    |some aq=>some (σ.dn n (.row gr .live rs aq))
    |none=>none
    else none
   |_=>none
   else none
  |_,_=>none
 |.gE x=>match σ.ev x with
  |.one (.ptr n k sz off)=>if(σ.h n).isSome=true then some (σ.put d (.one (.ptr n k sz off))) else none
  |.one (.cu xs off)=>some (σ.put d (.one (.cu xs off)))
  |_=>none
 |.bin op x y=>match vD op (σ.ev x) (σ.ev y) with
  |some c=>some (σ.put d (.one (.c c)))
  |none=>none
 |.oF op x y=>match Ag op (σ.ev x) (σ.ev y) with
  |some c=>some (σ.put d (.one (.c c)))
  |none=>none
 |.un op x=>match Ct op (σ.ev x) with
  |some c=>some (σ.put d (.one (.c c)))
  |none=>none
 |.conv k x=>match σ.ev x with
  |.one (.c (.int _ n))=>some (σ.put d (.one (.c (.int k (k.wrap n)))))
  |_=>none
 |.jF m sz by_ zs l c=>match d,(σ.ev l).df,(σ.ev c).df with
  |some n,some a,some b=>if a<=b/\0<=a/\b.toNat*by_<=dF/\zs.length=sz then
   match σ.ins n (.row true m sz (List.replicate a.toNat zs)) with
   |some σ1=>some (σ1.put d (.one (.sl n sz 0 a.toNat)))
   |none=>none
   else none
  |_,_,_=>none
 |.slice sz x lo hi=>
  let PN:Option Int:=match lo with|none=>some 0|some l=>(σ.ev l).df
  match σ.ev x,PN with
  |.one (.sl n s l0 len),some l=>
   match(match hi with|none=>some (len:Int)|some h=>(σ.ev h).df) with
   |some h=>if s=sz/\0<=l/\l<=h/\h<=len/\(σ.h n).isSome=true then some (σ.put d (.one (.sl n s (l0+l.toNat) (h - l).toNat))) else none
   |none=>none
  |.one (.c (.list s xs)),some l=>
   match(match hi with|none=>some (xs.length:Int)|some h=>(σ.ev h).df) with
   |some h=>if s=sz/\0<=l/\l<=h/\h<=xs.length then some (σ.put d (.one (.c (.list s ((xs.drop l.toNat).take (h - l).toNat))))) else none
   |none=>none
  |_,_=>none
 |.tail sz x lo=>match d,σ.ev x,(σ.ev lo).df with
  |some n,.one (.sl a s 0 len),some l=>match σ.h a with
   |some (.row true m rs xs)=>if rs=sz/\s=sz/\len=xs.length/\0<=l/\l<=len then
    match(σ.del a).ins n (.row true m sz (xs.drop l.toNat)) with
    |some σ1=>some (σ1.put d (.one (.sl n sz 0 (xs.length - l.toNat))))
    |none=>none
    else none
   |_=>none
  |_,_,_=>none
 |.aF off x=>match σ.ev x with
  |.one (.ptr n k sz o)=>if(σ.h n).isSome=true then some (σ.put d (.one (.ptr n k sz (o+off)))) else none
  |.one (.cu xs o)=>some (σ.put d (.one (.cu xs (o+off))))
  |_=>none
 |.bX sz x i=>match σ.ev x,(σ.ev i).df with
  |.one (.sl n s lo len),some k=>if s=sz/\0<=k/\k<len/\(σ.h n).isSome=true then some (σ.put d (.one (.ptr n (lo+k.toNat) s 0))) else none
  |.one (.c (.list s xs)),some k=>if s=sz/\0<=k then
   match xs[k.toNat]? with
   |some e=>some (σ.put d (.one (.cu e 0)))
   |none=>none
   else none
  |.one (.bz n kk az off s len),some k=>match cg σ.h (.bz n kk az off s len) with
   |some (.list s' ys)=>if s'=sz/\0<=k/\k<ys.length then some (σ.put d (.one (.cQ n kk az off sz k.toNat))) else none
   |_=>none
  |_,_=>none
 |.ext i x=>match σ.ev x with
  |.bn xs=>match xs[i]? with
   |some (ag,cs)=>some (σ.put d (kV ag cs))
   |none=>none
  |_=>none
 |.oM ag off sz x=>match σ.ev x with
  |.agg cs=>match sub cs off sz with
   |some l=>some (σ.put d (kV ag l))
   |none=>none
  |_=>none
 |.ou f bH x=>match σ.ev x with
  |.one (.sl n sz lo len)=>if(σ.h n).isSome=true then some (σ.put d (.agg (kS bH len (.sl n sz lo len)))) else none
  |.one (.c (.list sz xs))=>some (σ.put d (.agg (kS bH xs.length (.c (.list sz xs)))))
  |.one (.nil sz)=>some (σ.put d (.agg (kS bH 0 (.nil sz))))
  |_=>none
 |.len x=>match σ.ev x with
  |.one (.sl n sz lo len)=>if(σ.h n).isSome=true then some (σ.put d (.one (.c (.int .i64 len)))) else none
  |.one (.c (.list sz xs))=>some (σ.put d (.one (.c (.int .i64 xs.length))))
  |.one (.nil sz)=>some (σ.put d (.one (.c (.int .i64 0))))
  |.one (.bz n k az off sz len)=>match cg σ.h (.bz n k az off sz len) with
   |some (.list s ys)=>some (σ.put d (.one (.c (.int .i64 ys.length))))
   |_=>none
  |_=>none
 |.append fl sz by_ x y=>match d with
  |none=>none
  |some n=>match pP σ sz (σ.ev x) with
   |none=>none
   |some (xs,m,σ1)=>match lm fl σ1 sz m (σ.ev y) with
    |none=>none
    |some (ys,m2,σ2)=>
     if(xs.length+ys.length)*by_<=dF then
      match σ2.ins n (.row true m2 sz (xs++ys)) with
      |some gI=>some (gI.put d (.one (.sl n sz 0 (xs.length+ys.length))))
      |none=>none
     else none
 |.copy sz x y=>match σ.ev x,σ.ev y with
  |.one (.sl n s lo len),.one c=>match σ.h n,cg σ.h c with
   |some (.row gr m rs xs),some (.list s' ys)=>if sz=1/\s=1/\rs=1/\s'=1/\m≠ .aD/\fZ xs=true/\fZ ys=true/\lo+len<=xs.length then
    some ((σ.dn n (.row gr m 1 (cj xs lo (ys.take len)))).put d (.one (.c (.int .i64 (Nat.min ys.length len:Nat))))) else none
   |_,_=>none
  |_,_=>none
 |.kB z x=>match σ.ev x with
  |.one (.sl n s lo len)=>match σ.h n with
   |some (.row gr m rs xs)=>if s=1/\rs=1/\z.eN=true/\m≠ .aD/\fZ xs=true/\lo+len<=xs.length then
    some ((σ.dn n (.row gr m 1 (cj xs lo (List.replicate len [z])))).put d (.bn [])) else none
   |_=>none
  |_=>none
 |.mm mx x y=>match σ.ev x,σ.ev y with
  |.one (.c (.int k a)),.one (.c (.int k' b))=>if mx=true then(if a<b then some (σ.put d (.one (.c (.int k b)))) else some (σ.put d (.one (.c (.int k a)))))
   else(if b<a then some (σ.put d (.one (.c (.int k b)))) else some (σ.put d (.one (.c (.int k a)))))
  |_,_=>none
 |.call m f xs=>rf T m d f (xs.map σ.ev) σ
 |.mh f xs=>match tF T f (xs.map σ.ev) σ.h with
  |some v=>some (σ.put d v)
  |none=>none
 |.pq f xs=>match(xs.map σ.ev).mapM (fun v=>match v with|.one c=>if c.kJ=true then none else some c|_=>none) with
  |some cs=>if cs.all ah.EA=true then some (σ.put d (.one (.fn f cs))) else none
  |none=>none
 |.mn m x xs=>match σ.ev x with
  |.one (.fn f cr)=>rf T m d f (xs.map σ.ev++cr.map .one) σ
  |_=>none
 |.gd m f xs=>tJ T m d f (xs.map σ.ev) σ
 |.du f xs=>pU T d f (xs.map σ.ev) σ
 |.mq f xs=>match oH T f (xs.map σ.ev) σ.h with
  |some v=>some (σ.put d v)
  |none=>none
 |.lv f xs=>match xU T f (xs.map σ.ev) with
  |some v=>some (σ.put d v)
  |none=>none
def d7 (T:aO) (o:bR) (σ:St):Option St:=
 match o.guard with
 |none=>exec T o.dst o.op σ
 |some (s,ky)=>match σ.env s with
  |.one (.c (.bool b))=>if b=ky then exec T o.dst o.op σ else some (σ.put o.dst (.bn []))
  |.bn []=>some (σ.put o.dst (.bn []))
  |_=>none
def j7 (T:aO):List bR->St->Option St
 |[],σ=>some σ
 |o::os,σ=>match d7 T o σ with
  |some σ'=>j7 T os σ'
  |none=>none
def ah.fw (ok:Nat->Bool):ah->ah
 |.ptr n k sz off=>if ok n=true then .ptr n k sz off else .bm
 |.sl n sz lo len=>if ok n=true then .sl n sz lo len else .bm
 |.bz n k az off sz len=>if ok n=true then .bz n k az off sz len else .bm
 |.cQ n k az off sz i=>if ok n=true then .cQ n k az off sz i else .bm
 |x=>x
def ah.cT (ok:Nat->Bool):ah->ah
 |.fn f cr=>.fn f (cr.map (·.fw ok))
 |x=>x.fw ok
def aj.cT (ok:Nat->Bool):aj->aj
 |.one c=>.one (c.cT ok)
 |.agg cs=>.agg (cs.map (·.cT ok))
 |.bn xs=>.bn (xs.map fun x=>(x.1,x.2.map (·.cT ok)))
def ao.cT (ok:Nat->Bool):ao->ao
 |.box cs=>.box (cs.map (·.cT ok))
 |b=>b
def vJ:Nat->aj:=fun _=>.one .bm
def AB:Nat->Option ao:=fun _=>none
def Xo:Nat->Bool:=fun _=>false
def uU (ok:Nat->Bool) (env:Nat->aj):List Nat->(Nat->aj)
 |[]=>vJ
 |s::ss=>au (uU ok env ss) s ((env s).cT ok)
def qE (ok:Nat->Bool) (h:Nat->Option ao):List Nat->(Nat->Option ao)
 |[]=>AB
 |s::ss=>if ok s=true then match h s with
  |some b=>au (qE ok h ss) s (some (b.cT ok))
  |none=>qE ok h ss
  else qE ok h ss
def uV (ok:Nat->Bool):List Nat->(Nat->Bool)
 |[]=>Xo
 |s::ss=>if ok s=true then au (uV ok ss) s true else uV ok ss
def ah.wR (n:Nat):ah->Bool
 |.ptr m _ _ _=>m==n
 |.sl m _ _ _=>m==n
 |.bz m _ _ _ _ _=>m==n
 |.cQ m _ _ _ _ _=>m==n
 |_=>false
def ah.gF (n:Nat):ah->Bool
 |.fn _ cr=>cr.any (·.wR n)
 |x=>x.wR n
def aj.gF (n:Nat):aj->Bool
 |.one c=>c.gF n
 |.agg cs=>cs.any (·.gF n)
 |.bn xs=>xs.any fun x=>x.2.any (·.gF n)
def St.iN (σ:St) (ke kh:List Nat):Nat->Bool:=fun n=>kh.contains n&&(σ.h n).isSome&&
 (Nat.ble aK n||ke.any (fun s=>(σ.env s).gF n)||kh.any fun k=>match σ.h k with|some (.box cs)=>cs.any (·.gF n)|_=>false)
def St.ia (σ:St) (ke kh:List Nat):St:=
 {env:=uU (σ.iN ke kh) σ.env ke,h:=qE (σ.iN ke kh) σ.h kh,used:=fun n=>Nat.ble aK n||uV (σ.iN ke kh) kh n}
def nu (x c n:Nat):Nat:=if n=x then c else n
def ah.ot (x c:Nat):ah->ah
 |.ptr n k sz off=>.ptr (nu x c n) k sz off
 |.sl n sz lo len=>.sl (nu x c n) sz lo len
 |.bz n k az off sz len=>.bz (nu x c n) k az off sz len
 |.cQ n k az off sz i=>.cQ (nu x c n) k az off sz i
 |y=>y
def ah.be (x c:Nat):ah->ah
 |.fn f cr=>.fn f (cr.map (·.ot x c))
 |y=>y.ot x c
def aj.be (x c:Nat):aj->aj
 |.one y=>.one (y.be x c)
 |.agg ys=>.agg (ys.map (·.be x c))
 |.bn ys=>.bn (ys.map fun y=>(y.1,y.2.map (·.be x c)))
def ao.be (x c:Nat):ao->ao
 |.box cs=>.box (cs.map (·.be x c))
 |b=>b
def St.be (σ:St) (x c:Nat):Option St:=
 if x=c then some σ else if Nat.ble aK x=true then some σ else if σ.used c=true then none else
 some {env:=fun s=>(σ.env s).be x c,h:=fun n=>if n=c then(σ.h x).map (·.be x c) else if n=x then none else(σ.h n).map (·.be x c),used:=fun n=>if n=c then σ.used x else if n=x then false else σ.used n}
def St.jJ (σ:St) (c:Nat):Mode->St
 |.aD=>match σ.h c with
  |some (.row gr .ae rs xs)=>σ.dn c (.row gr .aD rs xs)
  |_=>σ
 |_=>σ
def St.canon (σ:St):Bool×Nat×Nat×Nat×Mode->Option St
 |(true,n,j,c,m)=>match σ.h n with
  |some (.box cs)=>match cs[j]? with
   |some (.sl a _ _ _)=>(σ.be a c).map fun σ1=>σ1.jJ c m
   |some (.nil sz)=>if 0<sz then match σ.ins c (.row true m sz []) with
    |some σ1=>some (σ1.dn n (.box (cs.set j (.sl c sz 0 0))))
    |none=>none
    else some σ
   |_=>some σ
  |_=>some σ
 |(false,n,j,c,m)=>match σ.env n with
  |.one (.sl a _ _ _)=>(σ.be a c).map fun σ1=>σ1.jJ c m
  |.one (.nil sz)=>if 0<sz then match σ.ins c (.row true m sz []) with
   |some σ1=>some (σ1.put (some n) (.one (.sl c sz 0 0)))
   |none=>none
   else some σ
  |_=>some σ
def St.sk (σ:St):List (Bool×Nat×Nat×Nat×Mode)->Option St
 |[]=>some σ
 |x::l=>match σ.canon x with
  |some σ1=>σ1.sk l
  |none=>none
def St.head (σ:St) (ke kh:List Nat) (cn:List (Bool×Nat×Nat×Nat×Mode)):Option St:=
 match((σ.ia ke kh).ia ke kh).sk cn with
 |some σ1=>some (σ1.ia ke kh)
 |none=>none
def aE.args:aE->List MO
 |.mv x|.box _ x|.load _ _ x|.mQ _ _ x|.gE x|.un _ x|.conv _ x|.aF _ x|.ext _ x|.oM _ _ _ x|.ou _ _ x|.len x|.kB _ x=>[x]
 |.pick c x y=>[c,x,y]
 |.alloc _=>[]
 |.build _ ps=>ps.map (·.2.2)
 |.fI _ ps=>ps
 |.store _ x v=>[x,v]
 |.bin _ x y|.oF _ x y|.mm _ x y|.append _ _ _ x y|.copy _ x y|.bX _ x y|.tail _ x y=>[x,y]
 |.jF _ _ _ _ l c=>[l,c]
 |.slice _ x lo hi=>x::(lo.toList++hi.toList)
 |.call _ _ xs|.pq _ xs|.gd _ _ xs|.mh _ xs|.du _ xs|.mq _ xs|.lv _ xs=>xs
 |.mn _ x xs=>x::xs
def aE.Eg:aE->Bool
 |.call ..|.mn ..|.mh ..=>true
 |_=>false
def ah.rT:ah->List Nat
 |.ptr n _ _ _=>[n]
 |.sl n _ _ _=>[n]
 |.bz n _ _ _ _ _=>[n]
 |.cQ n _ _ _ _ _=>[n]
 |_=>[]
def ah.nm:ah->List Nat
 |.fn _ cr=>cr.flatMap ah.rT
 |x=>x.rT
def aj.gp:aj->List Nat
 |.one c=>c.nm
 |.agg cs=>cs.flatMap ah.nm
 |.bn xs=>xs.flatMap fun x=>x.2.flatMap ah.nm
def Aj (h:Nat->Option ao) (l:List Nat):List Nat:=l.flatMap fun n=>match h n with
 |some (.box cs)=>cs.flatMap ah.nm
 |_=>[]
def aE.iM (op:aE) (ev:MO->aj):List Nat:=op.args.flatMap fun x=>(ev x).gp
def aE.lT (op:aE) (ev:MO->aj) (h:Nat->Option ao):List Nat:=cond op.Eg (op.iM ev++Aj h (op.iM ev)) (op.iM ev)
def aE.j0 (op:aE) (ev:MO->aj) (h:Nat->Option ao):Option (List Nat):=
 match op with
 |.store _ x v=>match ev x with
  |.one (.ptr n _ _ _)=>match h n with
   |some (.box _)=>some [n]
   |some (.row ..)=>some (n::(ev v).gp)
   |none=>none
  |.one (.cQ n _ _ _ _ _)=>some [n]
  |_=>none
 |.fI _ ps=>some (ps.flatMap fun p=>(ev p).gp)
 |.du _ xs=>some (xs.flatMap fun p=>(ev p).gp)
 |.append _ _ _ x y=>some ((ev x).gp++(ev y).gp)
 |.copy _ x _|.kB _ x=>match ev x with
  |.one (.sl n _ _ _)=>some [n]
  |_=>none
 |.gd ..|.tail ..|.mQ ..=>none
 |_=>some []
abbrev FP:=List Nat×List Nat
def aE.fp (op:aE) (σ:St):Option FP:=(op.j0 σ.ev σ.h).map fun w=>(op.lT σ.ev σ.h,w)
def C7 (f g:FP):Bool:=f.2.all (fun n=> !(g.1.contains n))&&g.2.all (fun n=> !(f.1.contains n))
def C8:Option FP->Option FP->Bool
 |some f,some g=>C7 f g
 |_,_=>false
def mw (o:bR) (e:Nat->aj):Option aE:=
 match o.guard with
 |none=>some o.op
 |some (s,ky)=>match e s with
  |.one (.c (.bool b))=>if b=ky then some o.op else some (.mv (.k (.bn [])))
  |.bn []=>some (.mv (.k (.bn [])))
  |_=>none
def bR.fp (o:bR) (σ:St):Option FP:=
 match mw o σ.env with
 |some op=>op.fp σ
 |none=>none
def wO (ps:List (Nat×Nat)) (fs:List (Option FP)):Bool:=ps.all fun p=>C8 (fs.getD p.1 none) (fs.getD p.2 none)
def mz (T:aO):List bR->List (Option FP)->St->Option (List (Option FP)×St)
 |[],cO,σ=>some (cO,σ)
 |o::os,cO,σ=>match d7 T o σ with
  |some σ1=>mz T os (cO++[o.fp σ]) σ1
  |none=>none
def ax:Nat:=2^64
def BE:Nat->(St->Option sd)->St->Option sd
 |0,_,_=>none
 |n+1,f,σ=>match f σ with
  |some (.fG σ')=>BE n f σ'
  |o=>o
def dX (T:aO):lg->St->Option sd
 |.skip,σ=>some (.fG σ)
 |.ab _ ops,σ=>match j7 T ops σ with
  |some σ'=>some (.fG σ')
  |none=>none
 |.qD ps ops,σ=>match mz T ops [] σ with
  |some (fs,σ')=>cond (wO ps fs) (some (.fG σ')) none
  |none=>none
 |.seq a b,σ=>match dX T a σ with
  |some (.fG σ')=>dX T b σ'
  |o=>o
 |.cond c a b,σ=>match σ.ev c with
  |.one (.c (.bool t))=>if t=true then dX T a σ else dX T b σ
  |_=>none
 |.block id c,σ=>match dX T c σ with
  |some (.ext i σ')=>if i=id then some (.fG σ') else some (.ext i σ')
  |o=>o
 |.join ke kh cn c,σ=>match dX T c σ with
  |some (.fG σ')=>match σ'.head ke kh cn with
   |some σ1=>some (.fG σ1)
   |none=>none
  |o=>o
 |.loop id ke kh cn c,σ=>BE ax (fun σ=>match σ.head ke kh cn with|some σ1=>dX T c σ1|none=>none) σ
 |.exit id,σ=>some (.ext id σ)
 |.ret,σ=>some (.ret σ)
end Go.Am
