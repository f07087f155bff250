/- Am19: operations that may change places, continued. No condition. -/
import Derived.Test.YtifmggmhdcdgbaaAm18
set_option linter.unusedVariables false
namespace Go.Am
def St.we (σ:St) (e:Nat->ai):St:={σ with env:=e}
def uL (e:Nat->ai) (d:Option Nat) (x:Nat->ai):Nat->ai:=
 match d with
 |some n=>av e n (x n)
 |none=>e
theorem aoo (σ:St):σ.we σ.env=σ:=rfl
theorem sU (σ:St) (e:Nat->ai) (d:Option Nat) (v:ai):(σ.we e).put d v=(σ.put d v).we (uL e d (σ.put d v).env):=by
 cases d with
 |none=>rfl
 |some n=>simp[St.put,St.we,uL,bw]
theorem DQ (σ:St) (e:Nat->ai) (n:Nat) (b:ar):(σ.we e).ins n b=(σ.ins n b).map (·.we e):=by
 unfold St.ins
 by_cases h:σ.used n=true
 ·rw[if_pos h,if_pos (show(σ.we e).used n=true from h)];rfl
 ·rw[if_neg h,if_neg (show¬(σ.we e).used n=true from h)];rfl
theorem yr:∀(l:List (Nat×ar)) (σ:St) (e:Nat->ai),(σ.we e).cu l=(σ.cu l).map (·.we e)
 |[],σ,e=>rfl
 |(n,b)::l,σ,e=>by
  simp only[St.cu,DQ]
  cases σ.ins n b with
  |none=>rfl
  |some σ1=>exact yr l σ1 e
theorem aoc (σ:St) (e:Nat->ai) (c:ah):(σ.we e).fu c=(σ.fu c).map fun x=>(x.1,x.2.1,x.2.2.we e):=by
 cases c with
 |c x=>rfl
 |nil sz=>simp only[St.fu];split<;>rfl
 |sl n sz lo len=>
  have:(σ.we e).h n=σ.h n:=rfl
  simp only[St.fu,this]
  cases σ.h n with
  |none=>rfl
  |some b=>cases b with
   |box cs=>rfl
   |row gr m rs xs=>simp only;split<;>rfl
 |_=>rfl
theorem E9:∀(cs:List ah) (σ:St) (e:Nat->ai),(σ.we e).eY cs=(σ.eY cs).map fun x=>(x.1,x.2.1,x.2.2.we e)
 |[],σ,e=>rfl
 |c::cs,σ,e=>by
  simp only[St.eY,aoc]
  cases σ.fu c with
  |none=>rfl
  |some x=>
   obtain⟨x,o,σ1⟩:=x
   simp only[Option.map_some,E9 cs σ1 e]
   cases σ1.eY cs<;>rfl
theorem aeT (σ:St) (e:Nat->ai) (p:ah):(σ.we e).pt p=(σ.pt p).map (·.we e):=by
 cases p with
 |ptr n k sz off=>
  have h3:(σ.we e).h=σ.h:=rfl
  simp only[St.pt,h3]
  cases σ.h n with
  |none=>rfl
  |some b=>
   cases b with
   |row gr m rs xs=>rfl
   |box cs=>
    simp only[E9]
    cases σ.eY cs with
    |none=>rfl
    |some x=>rfl
 |_=>rfl
theorem abP (sz:Nat):∀(vs:List ai) (σ:St) (e:Nat->ai),(σ.we e).kB sz vs=(σ.kB sz vs).map fun x=>(x.1,x.2.1,x.2.2.we e)
 |[],σ,e=>rfl
 |v::vs,σ,e=>by
  simp only[St.kB]
  cases v.cells? with
  |none=>rfl
  |some x=>
   obtain⟨ag,cs⟩:=x
   simp only
   split
   ·simp only[E9]
    cases σ.eY cs with
    |none=>rfl
    |some y=>
     obtain⟨y,o,σ1⟩:=y
     simp only[Option.map_some,abP sz vs σ1 e]
     cases σ1.kB sz vs<;>rfl
   ·rfl
theorem ach (σ:St) (e:Nat->ai) (sz:Nat) (v:ai):pd (σ.we e) sz v=(pd σ sz v).map fun x=>(x.1,x.2.1,x.2.2.we e):=by
 cases v with
 |one v=>cases v with
  |sl a s lo len=>cases lo with
   |zero=>
    have:(σ.we e).h a=σ.h a:=rfl
    simp only[pd,this]
    cases σ.h a with
    |none=>rfl
    |some b=>cases b with
     |box cs=>rfl
     |row gr m rs xs=>cases gr with
      |true=>simp only;split<;>rfl
      |false=>rfl
   |succ lo=>rfl
  |_=>rfl
 |_=>rfl
theorem acj (fl:Bool) (σ:St) (e:Nat->ai) (sz:Nat) (m:Mode) (v:ai):kK fl (σ.we e) sz m v=(kK fl σ sz m v).map fun x=>(x.1,x.2.1,x.2.2.we e):=by
 cases v with
 |one v=>cases v with
  |sl b s lo len=>
   have:(σ.we e).h b=σ.h b:=rfl
   simp only[kK,this]
   cases σ.h b with
   |none=>rfl
   |some b=>cases b with
    |box cs=>rfl
    |row gr m rs xs=>
     simp only
     repeat' split
     all_goals rfl
  |c x=>cases x with
   |list s ys=>
    simp only[kK]
    repeat' split
    all_goals rfl
   |_=>rfl
  |_=>rfl
 |_=>rfl
theorem anX (σ:St) (e:Nat->ai) (n:Nat) (gr:Bool) (m:Mode) (rs:Nat) (xs:List (List C)) (k off:Nat) (el:List C) (vs:List ah):
  ma (σ.we e) n gr m rs xs k off el vs=(ma σ n gr m rs xs k off el vs).map (·.we e):=by
 simp only[ma,E9]
 cases sub el off vs.length with
 |none=>rfl
 |some fB=>
  simp only
  cases σ.eY vs with
  |none=>rfl
  |some x=>
   obtain⟨cs,o,σ1⟩:=x
   have:(σ1.we e).h n=σ1.h n:=rfl
   simp only[Option.map_some,this]
   repeat' split
   all_goals rfl
theorem Bv (T:be) (d:Option Nat) (op:aC) {ev ev':MO->ai} (h:Nat->Option ar) (bn:∀x∈op.args,ev' x=ev x):rd T d op ev' h=rd T d op ev h:=by
 have hl:∀xs:List MO,(∀x∈xs,ev' x=ev x)->xs.map ev'=xs.map ev:=fun xs hx=>List.map_congr_left hx
 have hp:∀(ps:List (Nat×Nat×MO)) (zs:List ah),(∀x∈ps.map (·.2.2),ev' x=ev x)->oW ev' zs ps=oW ev zs ps:=by
  intro ps
  induction ps with
  |nil=>intro zs _;rfl
  |cons p ps ih=>
   intro zs hx
   obtain⟨off,sz,x⟩:=p
   simp only[oW]
   rw[hx x (by simp)]
   cases (ev x).cells? with
   |none=>rfl
   |some y=>
    simp only
    split
    ·exact ih _ fun z hz=>hx z (by simp at hz⊢;exact .inr hz)
    ·rfl
 cases op with
 |build zs ps=>simp only[rd];rw[hp ps zs bn]
 |call m f xs=>simp only[rd];rw[hl xs bn]
 |lA f xs=>simp only[rd];rw[hl xs bn]
 |oN f xs=>simp only[rd];rw[hl xs bn]
 |lB m x xs=>simp only[rd];rw[bn x (by simp[aC.args]),hl xs fun y hy=>bn y (by simp[aC.args,hy])]
 |slice sz x lo hi=>
  have h1:=bn x (by simp[aC.args])
  cases lo with
  |none=>cases hi with
   |none=>simp only[rd,h1]
   |some hi=>have h3:=bn hi (by simp[aC.args]);simp only[rd,h1,h3]
  |some lo=>
   have h2:=bn lo (by simp[aC.args])
   cases hi with
   |none=>simp only[rd,h1,h2]
   |some hi=>have h3:=bn hi (by simp[aC.args]);simp only[rd,h1,h2,h3]
 |mv x=>have h1:=bn x (by simp[aC.args]);simp only[rd,h1]
 |pick x y z=>have h1:=bn x (by simp[aC.args]);have h2:=bn y (by simp[aC.args]);have h3:=bn z (by simp[aC.args]);simp only[rd,h1,h2,h3]
 |alloc zs=>rfl
 |box sz x=>have h1:=bn x (by simp[aC.args]);simp only[rd,h1]
 |dT sz ps=>rfl
 |eQ m f xs=>rfl
 |iJ f xs=>rfl
 |load ag sz x=>have h1:=bn x (by simp[aC.args]);simp only[rd,h1]
 |store sz x v=>rfl
 |nM x=>have h1:=bn x (by simp[aC.args]);simp only[rd,h1]
 |bin op x y=>have h1:=bn x (by simp[aC.args]);have h2:=bn y (by simp[aC.args]);simp only[rd,h1,h2]
 |lz op x y=>have h1:=bn x (by simp[aC.args]);have h2:=bn y (by simp[aC.args]);simp only[rd,h1,h2]
 |un op x=>have h1:=bn x (by simp[aC.args]);simp only[rd,h1]
 |conv k x=>have h1:=bn x (by simp[aC.args]);simp only[rd,h1]
 |ld m sz by_ zs x y=>have h1:=bn x (by simp[aC.args]);have h2:=bn y (by simp[aC.args]);simp only[rd,h1,h2]
 |ak off x=>have h1:=bn x (by simp[aC.args]);simp only[rd,h1]
 |bO sz x y=>have h1:=bn x (by simp[aC.args]);have h2:=bn y (by simp[aC.args]);simp only[rd,h1,h2]
 |ext i x=>have h1:=bn x (by simp[aC.args]);simp only[rd,h1]
 |mA ag off sz x=>have h1:=bn x (by simp[aC.args]);simp only[rd,h1]
 |lr f bE x=>have h1:=bn x (by simp[aC.args]);simp only[rd,h1]
 |len x=>have h1:=bn x (by simp[aC.args]);simp only[rd,h1]
 |append fl sz by_ x y=>rfl
 |tail sz x lo=>rfl
 |lV ag sz x=>rfl
 |copy sz x y=>rfl
 |j7 z x=>rfl
 |mm b x y=>have h1:=bn x (by simp[aC.args]);have h2:=bn y (by simp[aC.args]);simp only[rd,h1,h2]
theorem KK (σ:St) (e:Nat->ai):(σ.we e).h=σ.h:=rfl
theorem amJ (σ:St) (e:Nat->ai) (it:cQ) (x:C):(σ.we e).mV it x=(σ.mV it x).map (·.we e):=by
 cases it with
 |nil sz=>rfl
 |row n=>
  cases x with
  |int k i=>rfl
  |bool b=>rfl
  |list sz xs=>
   simp only[St.mV,KK]
   cases σ.h n with
   |none=>rfl
   |some b=>
    cases b with
    |box cs=>rfl
    |row gr m rs jX=>simp only;split<;>rfl
 |nest n k off=>
  simp only[St.mV,KK]
  cases σ.h n with
  |none=>rfl
  |some b=>
   cases b with
   |box cs=>rfl
   |row gr m rs jX=>
    simp only
    cases jX[k]? with
    |none=>rfl
    |some el=>rfl
theorem aad:∀(its:List (cQ×Mode)) (dZ:List C) (σ:St) (e:Nat->ai),(σ.we e).oS its dZ=(σ.oS its dZ).map (·.we e)
 |[],[],σ,e=>rfl
 |it::its,x::dZ,σ,e=>by
  simp only[St.oS,amJ]
  cases σ.mV it.1 x with
  |none=>rfl
  |some σ1=>exact aad its dZ σ1 e
 |[],_::_,σ,e=>rfl
 |_::_,[],σ,e=>rfl
theorem ahr (m:Mode) (σ:St) (e:Nat->ai) (nm:Nat) (ds:List Dv):(σ.we e).iT m nm ds=(σ.iT m nm ds).map fun x=>(x.1,x.2.we e):=by
 simp only[OG]
 cases vW m nm ds with
 |none=>rfl
 |some x=>
  simp only[Option.bind_some,yr]
  cases σ.cu x.2 with
  |none=>rfl
  |some σ1=>rfl
theorem adf (T:be) (m:Mode) (d:Option Nat) (f:FuncId) (as:List ai) (σ:St) (e:Nat->ai):
  tw T m d f as (σ.we e)=(tw T m d f as σ).map fun τ=>τ.we (uL e d τ.env):=by
 unfold tw
 cases be.qA T.Bi f with
 |none=>rfl
 |some z=>
  obtain⟨sig,M⟩:=z
  cases wq as with
  |none=>rfl
  |some eZ=>
   simp only
   by_cases fJ:(nK sig eZ).Nodup
   ·rw[if_pos fJ,if_pos fJ]
    show(match oO σ.h (ed σ.h (nK sig eZ)) sig eZ with|some (ds,its)=>_|none=>none)=_
    cases oO σ.h (ed σ.h (nK sig eZ)) sig eZ with
    |none=>rfl
    |some z=>
     obtain⟨ds,its⟩:=z
     simp only
     cases M ds with
     |none=>rfl
     |some z=>
      obtain⟨rs,dZ⟩:=z
      simp only[aad]
      cases σ.oS its dZ with
      |none=>rfl
      |some σ1=>
       simp only[Option.map_some,ahr]
       cases σ1.iT m (yI d) rs with
       |none=>rfl
       |some z=>
        obtain⟨ls,σ2⟩:=z
        simp only[Option.map_some,sU]
   ·rw[if_neg fJ,if_neg fJ];rfl
theorem LG:∀(as:List ai) (σ:St) (e:Nat->ai),(σ.we e).gL as=(σ.gL as).map fun x=>(x.1,x.2.1,x.2.2.we e)
 |[],σ,e=>rfl
 |v::as,σ,e=>by
  simp only[St.gL,KK,E9]
  cases mr σ.h v with
  |some x=>
   obtain⟨n,xs⟩:=x
   simp only[LG as σ e]
   cases σ.gL as<;>rfl
  |none=>
   simp only
   cases v.cells? with
   |none=>rfl
   |some x=>
    obtain⟨ag,cs⟩:=x
    simp only
    cases σ.eY cs with
    |none=>rfl
    |some y=>
     obtain⟨xs,o,σ1⟩:=y
     simp only[Option.map_some,LG as σ1 e]
     cases σ1.gL as<;>rfl
theorem amH (σ:St) (e:Nat->ai) (ns:List Nat) (out:List C):(σ.we e).rj ns out=(σ.rj ns out).map (·.we e):=by
 match ns,out with
 |[],[]=>rfl
 |[],_::_=>rfl
 |[n],out=>
  simp only[St.rj,KK]
  cases σ.h n with
  |none=>rfl
  |some b=>
   cases b with
   |box cs=>simp only;split<;>rfl
   |row gr m rs xs=>rfl
 |_::_::_,out=>rfl
theorem acx (σ:St) (e:Nat->ai) (d:Option Nat) (rs:List Dv):qq (σ.we e) d rs=(qq σ d rs).map fun τ=>τ.we (uL e d τ.env):=by
 unfold qq
 split
 ·cases d with
  |none=>rfl
  |some q=>
   simp only[DQ]
   cases σ.ins q _ with
   |none=>rfl
   |some σ1=>simp only[Option.map_some,sU]
 ·cases gw rs with
  |none=>rfl
  |some ls=>simp only[Option.map_some,sU]
theorem ade (T:be) (d:Option Nat) (f:FuncId) (as:List ai) (σ:St) (e:Nat->ai):
  rN T d f as (σ.we e)=(rN T d f as σ).map fun τ=>τ.we (uL e d τ.env):=by
 unfold rN
 rw[LG]
 cases σ.gL as with
 |none=>rfl
 |some x=>
  obtain⟨ds,ns,σ1⟩:=x
  simp only[Option.map_some]
  cases be.nk T.vs f with
  |none=>rfl
  |some M=>
   simp only
   cases M ds with
   |none=>rfl
   |some z=>
    obtain⟨rs,out⟩:=z
    simp only[amH]
    cases σ1.rj ns out with
    |none=>rfl
    |some σ2=>exact acx σ2 e d rs
theorem Mk (T:be) (d:Option Nat) (op:aC) (σ:St) (e:Nat->ai) (bn:∀x∈op.args,(σ.we e).ev x=σ.ev x) (hd:∀sz x v,op=.store sz x v->d=none):
  aI T d op (σ.we e)=(aI T d op σ).map fun τ=>τ.we (uL e d τ.env):=by
 by_cases hc:op.dv<=1
 ·rw[pn T d op _ hc,pn T d op _ hc,Bv T d op _ bn]
  show Option.bind (rd T d op σ.ev σ.h) _=_
  cases rd T d op σ.ev σ.h with
  |none=>rfl
  |some x=>
   simp only[Option.bind_some,gb,yr]
   cases σ.cu x.2 with
   |none=>rfl
   |some σ1=>simp only[Option.map_some,sU]
 ·cases op<;>simp[aC.dv] at hc
  case dT sz ps=>
   have hl:ps.map (σ.we e).ev=ps.map σ.ev:=List.map_congr_left bn
   simp only[aI,hl,abP]
   cases d with
   |none=>rfl
   |some n=>
    cases σ.kB sz (ps.map σ.ev) with
    |none=>rfl
    |some x=>
     obtain⟨es,o,σ1⟩:=x
     simp only[Option.map_some,DQ]
     cases σ1.ins n (.row true (if o=true then .aa else .aE) sz es) with
     |none=>rfl
     |some σ2=>simp only[Option.map_some,sU]
  case store sz x v=>
   have h1:=bn x (by simp[aC.args])
   have h2:=bn v (by simp[aC.args])
   have hd:=hd sz x v rfl
   subst hd
   simp only[aI,h1,h2]
   cases σ.ev x with
   |one p=>cases p with
    |ptr n k ax off=>
     cases (σ.ev v).cells? with
     |none=>rfl
     |some y=>
      obtain⟨ag,vs⟩:=y
      have:(σ.we e).h n=σ.h n:=rfl
      simp only[this]
      split
      ·cases σ.h n with
       |none=>rfl
       |some b=>cases b with
        |box cs=>simp only;split<;>rfl
        |row gr m rs xs=>
         simp only
         split
         ·cases xs[k]? with
          |none=>rfl
          |some el=>simp only[anX];rfl
         ·rfl
      ·rfl
    |cr n k ax off s i=>
     cases (σ.ev v).cells? with
     |none=>rfl
     |some y=>
      obtain⟨ag,vs⟩:=y
      have:(σ.we e).h n=σ.h n:=rfl
      simp only[this]
      split
      ·cases σ.h n with
       |none=>rfl
       |some b=>cases b with
        |box cs=>rfl
        |row gr m rs xs=>cases m with
         |live=>
          simp only
          split
          ·cases uD xs k off s i vs<;>rfl
          ·rfl
         |_=>rfl
      ·rfl
    |_=>cases (σ.ev v).cells?<;>rfl
   |agg cs=>cases (σ.ev v).cells?<;>rfl
   |bj cs=>cases (σ.ev v).cells?<;>rfl
  case append fl sz by_ x y=>
   have h1:=bn x (by simp[aC.args])
   have h2:=bn y (by simp[aC.args])
   simp only[aI,h1,h2,ach]
   cases d with
   |none=>rfl
   |some n=>
    simp only
    cases pd σ sz (σ.ev x) with
    |none=>rfl
    |some z=>
     obtain⟨xs,m,σ1⟩:=z
     simp only[Option.map_some,acj]
     cases kK fl σ1 sz m (σ.ev y) with
     |none=>rfl
     |some z=>
      obtain⟨ys,m2,σ2⟩:=z
      simp only[Option.map_some]
      split
      ·simp only[DQ]
       cases σ2.ins n (.row true m2 sz (xs++ys)) with
       |none=>rfl
       |some f9=>simp only[Option.map_some,sU]
      ·rfl
  case copy sz x y=>
   have h1:=bn x (by simp[aC.args])
   have h2:=bn y (by simp[aC.args])
   have h3:(σ.we e).h=σ.h:=rfl
   simp only[aI,h1,h2,h3]
   cases σ.ev x with
   |one p=>cases p with
    |sl n s lo len=>
     cases σ.ev y with
     |one c=>
      simp only
      cases σ.h n with
      |none=>rfl
      |some b=>cases b with
       |box cs=>rfl
       |row gr m rs xs=>
        cases bM σ.h c with
        |none=>rfl
        |some q=>cases q with
         |list s' ys=>
          simp only
          split
          ·exact congrArg some (sU (σ.cX n _) e d _)
          ·rfl
         |_=>rfl
     |_=>rfl
    |_=>rfl
   |_=>rfl
  case j7 z x=>
   have h1:=bn x (by simp[aC.args])
   have h3:(σ.we e).h=σ.h:=rfl
   simp only[aI,h1,h3]
   cases σ.ev x with
   |one p=>cases p with
    |sl n s lo len=>
     simp only
     cases σ.h n with
     |none=>rfl
     |some b=>cases b with
      |box cs=>rfl
      |row gr m rs xs=>
       simp only
       split
       ·exact congrArg some (sU (σ.cX n _) e d _)
       ·rfl
    |_=>rfl
   |_=>rfl
  case lV ag sz x=>
   have h1:=bn x (by simp[aC.args])
   simp only[aI,h1]
   cases σ.ev x with
   |one p=>
    simp only[aeT]
    cases σ.pt p with
    |none=>rfl
    |some σ1=>
     simp only[Option.map_some]
     have h3:(σ1.we e).h=σ1.h:=rfl
     rw[h3]
     cases loadAt σ1.h p sz with
     |none=>rfl
     |some cs=>exact congrArg some (sU σ1 e d _)
   |_=>rfl
  case tail sz x y=>
   have h1:=bn x (by simp[aC.args])
   have h2:=bn y (by simp[aC.args])
   simp only[aI,h1,h2]
   cases d with
   |none=>rfl
   |some n=>
    generalize (σ.ev y).cN=q
    cases hv:σ.ev x with
    |one p=>cases p with
     |sl a s lo len=>cases lo with
      |zero=>
       cases q with
       |none=>rfl
       |some l=>
        simp only
        have:(σ.we e).h a=σ.h a:=rfl
        rw[this]
        cases σ.h a with
        |none=>rfl
        |some b=>cases b with
         |box cs=>rfl
         |row gr m rs xs=>cases gr with
          |false=>rfl
          |true=>
           simp only
           split
           ·rw[show(σ.we e).del a=(σ.del a).we e from rfl,DQ]
            cases (σ.del a).ins n (.row true m sz (xs.drop l.toNat)) with
            |none=>rfl
            |some f9=>simp only[Option.map_some,sU]
           ·rfl
      |succ lo=>cases q<;>rfl
     |_=>cases q<;>rfl
    |_=>cases q<;>rfl
  case eQ m f xs=>
   have hl:xs.map (σ.we e).ev=xs.map σ.ev:=List.map_congr_left bn
   simp only[aI,hl,adf]
  case iJ f xs=>
   have hl:xs.map (σ.we e).ev=xs.map σ.ev:=List.map_congr_left bn
   simp only[aI,hl,ade]
section
variable {u vv:Nat->Prop} {h h':Nat->Option ar}
theorem ajz (hh:∀n,u n->h' n=h n) {p:ah} (hp:∀m,p.ref m->u m) (sz:Nat):loadAt h' p sz=loadAt h p sz:=by
 cases p with
 |ptr n k ax off=>simp only[loadAt,hh n (hp n rfl)]
 |_=>rfl
theorem ah.BA {c:ah} {m:Nat} (h:c.gU m):c.ref m:=by
 cases c<;>first|exact h|exact h.elim
def ai.wI:ai->Nat->Prop
 |.one c,m=>c.gU m
 |.agg cs,m=>∃c∈cs,c.gU m
 |.bj _,_=>False
theorem ai.Rg {x:ai} {m:Nat} (h:x.wI m):x.ref m:=by
 cases x with
 |one c=>exact ah.BA h
 |agg cs=>obtain⟨c,hc,h⟩:=h;exact⟨c,hc,ah.BA h⟩
 |bj xs=>exact h.elim
theorem B6 (hh:∀n,u n->h' n=h n) {p:ah} (hp:∀m,p.gU m->u m):bM h' p=bM h p:=by
 cases p with
 |sl n sz lo len=>simp only[bM,hh n (hp n rfl)]
 |br n k ax off sz len=>simp only[bM,hh n (hp n rfl)]
 |_=>rfl
theorem UC (hh:∀n,u n->h' n=h n):∀{l:List ah} (_:∀p∈l,∀m,p.gU m->u m),f7 h' l=f7 h l
 |[],_=>rfl
 |c::cs,hp=>by
  have h1:=B6 hh (hp c (by simp))
  have h2:=UC hh (l:=cs) fun p q=>hp p (List.mem_cons_of_mem _ q)
  simp only[f7,h1,h2]
theorem aom (hh:∀n,u n->h' n=h n) (hb:∀m cs c n,vv m->h m=some (.box cs)->c∈cs->c.ref n->u n) {x:ai} (hx:∀m,x.wI m->u m) (hv:∀m,x.wI m->vv m):gG h' x=gG h x:=by
 cases x with
 |one c=>cases c with
  |ptr n k sz off=>
   simp only[gG,hh n (hx n rfl)]
   cases hn:h n with
   |none=>rfl
   |some b=>cases b with
    |box cs=>simp only[UC hh fun p hp m hm=>hb n cs p m (hv n rfl) hn hp (ah.BA hm)]
    |row gr m sz xs=>rfl
  |bT xs off=>rfl
  |c x=>rfl
  |nil sz=>rfl
  |sl n sz lo len=>simp only[gG];rw[B6 hh (p:=.sl n sz lo len) hx]
  |br n k ax off sz len=>simp only[gG];rw[B6 hh (p:=.br n k ax off sz len) hx]
  |cr n k ax off sz i=>rfl
  |fn f bR=>rfl
  |bg=>rfl
 |agg cs=>simp only[gG,UC hh fun p hp m hm=>hx m ⟨p,hp,hm⟩]
 |bj xs=>rfl
theorem KH (hh:∀n,u n->h' n=h n) (hb:∀m cs c n,vv m->h m=some (.box cs)->c∈cs->c.ref n->u n):∀{xs:List ai} (_:∀x∈xs,∀m,x.wI m->u m) (_:∀x∈xs,∀m,x.wI m->vv m),jV h' xs=jV h xs
 |[],_,_=>rfl
 |x::xs,hx,hv=>by
  have h1:=aom hh hb (hx x (by simp)) (hv x (by simp))
  have h2:=KH hh hb (xs:=xs) (fun p q=>hx p (List.mem_cons_of_mem _ q)) (fun p q=>hv p (List.mem_cons_of_mem _ q))
  simp only[jV,h1,h2]
theorem aag (T:be) (d:Option Nat) (op:aC) (ev:MO->ai) (hh:∀n,u n->h' n=h n) (tG:op.DR=true->∀m cs c n,vv m->h m=some (.box cs)->c∈cs->c.ref n->u n)
  (hx:∀x∈op.args,∀m,(ev x).ref m->u m) (Ik:∀x∈op.args,∀m,(ev x).ref m->vv m):rd T d op ev h'=rd T d op ev h:=by
 cases op with
 |load ag sz x=>
  have h1:=hx x (by simp[aC.args])
  simp only[rd]
  cases hv:ev x with
  |one p=>rw[hv] at h1;simp only[ajz hh (p:=p) h1]
  |_=>rfl
 |nM x=>
  have h1:=hx x (by simp[aC.args])
  simp only[rd]
  cases hv:ev x with
  |one p=>cases p with
   |ptr n k sz off=>rw[hv] at h1;simp only[hh n (h1 n rfl)]
   |_=>rfl
  |_=>rfl
 |ak off x=>
  have h1:=hx x (by simp[aC.args])
  simp only[rd]
  cases hv:ev x with
  |one p=>cases p with
   |ptr n k sz off=>rw[hv] at h1;simp only[hh n (h1 n rfl)]
   |_=>rfl
  |_=>rfl
 |len x=>
  have h1:=hx x (by simp[aC.args])
  simp only[rd]
  cases hv:ev x with
  |one p=>cases p with
   |sl n sz lo len=>rw[hv] at h1;simp only[hh n (h1 n rfl)]
   |br n k ax off sz len=>rw[hv] at h1;simp only[B6 hh (p:=.br n k ax off sz len) (fun m hm=>h1 m (ah.BA hm))]
   |c x=>cases x<;>rfl
   |_=>rfl
  |_=>rfl
 |lr f bE x=>
  have h1:=hx x (by simp[aC.args])
  simp only[rd]
  cases hv:ev x with
  |one p=>cases p with
   |sl n sz lo len=>rw[hv] at h1;simp only[hh n (h1 n rfl)]
   |c x=>cases x<;>rfl
   |_=>rfl
  |_=>rfl
 |bO sz x i=>
  have h1:=hx x (by simp[aC.args])
  simp only[rd]
  generalize (ev i).cN=q
  cases hv:ev x with
  |one p=>cases p with
   |sl n s lo len=>
    rw[hv] at h1
    have h2:=hh n (h1 n rfl)
    cases q with
    |none=>rfl
    |some q=>simp only[h2]
   |br n k ax off s len=>
    rw[hv] at h1
    cases q with
    |none=>rfl
    |some q=>simp only[B6 hh (p:=.br n k ax off s len) (fun m hm=>h1 m (ah.BA hm))]
   |c x=>cases x<;>cases q<;>rfl
   |_=>cases q<;>rfl
  |_=>cases q<;>rfl
 |slice sz x lo hi=>
  have h1:=hx x (by simp[aC.args])
  simp only[rd]
  cases hv:ev x with
  |one p=>cases p with
   |sl n s l0 len=>
    rw[hv] at h1
    have h2:=hh n (h1 n rfl)
    cases lo with
    |none=>simp only[h2]
    |some lo=>
     simp only
     cases (ev lo).cN with
     |none=>rfl
     |some q=>simp only[h2]
   |c x=>cases lo with
    |none=>cases x<;>rfl
    |some lo=>
     simp only
     cases (ev lo).cN<;>cases x<;>rfl
   |_=>cases lo<;>rfl
  |_=>cases lo<;>rfl
 |call m f xs=>
  simp only[rd,zG]
  have go:∀u':Nat->Prop,(∀x∈(aC.call m f xs).args,∀m,(ev x).ref m->u' m)->∀x∈xs.map ev,∀m,x.wI m->u' m:=by
   intro u' hx x DA q hq
   obtain⟨y,hy,rfl⟩:=List.mem_map.1 DA
   exact hx y hy q (ai.Rg hq)
  rw[KH hh (tG rfl) (go _ hx) (go _ Ik)]
 |lA f xs=>
  simp only[rd,tt]
  have go:∀u':Nat->Prop,(∀x∈(aC.lA f xs).args,∀m,(ev x).ref m->u' m)->∀x∈xs.map ev,∀m,x.wI m->u' m:=by
   intro u' hx x DA q hq
   obtain⟨y,hy,rfl⟩:=List.mem_map.1 DA
   exact hx y hy q (ai.Rg hq)
  rw[KH hh (tG rfl) (go _ hx) (go _ Ik)]
 |lB m x xs=>
  simp only[rd]
  cases hv:ev x with
  |one p=>cases p with
   |fn f bR=>
    simp only[zG]
    have go:∀u':Nat->Prop,(∀y∈(aC.lB m x xs).args,∀m,(ev y).ref m->u' m)->∀y∈xs.map ev++bR.map ai.one,∀m,y.wI m->u' m:=by
     intro u' hx y hym q hq
     rcases List.mem_append.1 hym with hy|hy
     ·obtain⟨z,hz,rfl⟩:=List.mem_map.1 hy
      exact hx z (by simp[aC.args,hz]) q (ai.Rg hq)
     ·obtain⟨z,hz,rfl⟩:=List.mem_map.1 hy
      refine hx x (by simp[aC.args]) q ?_
      rw[hv]
      exact⟨z,hz,hq⟩
    rw[KH hh (tG rfl) (go _ hx) (go _ Ik)]
   |_=>rfl
  |_=>rfl
 |_=>rfl
theorem aaf (T:be) (d:Option Nat) (op:aC) (ev:MO->ai) (hh:∀n,u n->h' n=h n) (hb:∀m cs c n,h m=some (.box cs)->c∈cs->c.ref n->u n)
  (hx:∀x∈op.args,∀m,(ev x).ref m->u m):rd T d op ev h'=rd T d op ev h:=
 aag (vv:=fun _=>True) T d op ev hh (fun _ m cs c n _=>hb m cs c n) hx (fun _ _ _ _=>trivial)
theorem aai (T:be) (d:Option Nat) (op:aC) (ev:MO->ai) (h h':Nat->Option ar) (hc:op.dv=0):rd T d op ev h'=rd T d op ev h:=by
 cases op<;>simp[aC.dv] at hc<;>rfl
end
end Go.Am
