/- Am19: operations that may change places, continued. No condition. -/
import Derived.Test.YtifmggmhdcdgbaaAm18
set_option linter.unusedVariables false
namespace Go.Am
def St.we (σ:St) (e:Nat->ak):St:={σ with env:=e}
def ui (e:Nat->ak) (d:Option Nat) (x:Nat->ak):Nat->ak:=
 match d with
 |some n=>au e n (x n)
 |none=>e
theorem alf (σ:St):σ.we σ.env=σ:=rfl
theorem sA (σ:St) (e:Nat->ak) (d:Option Nat) (v:ak):(σ.we e).put d v=(σ.put d v).we (ui e d (σ.put d v).env):=by
 cases d with
 |none=>rfl
 |some n=>simp[St.put,St.we,ui,bC]
theorem Dg (σ:St) (e:Nat->ak) (n:Nat) (b:aq):(σ.we e).ins n b=(σ.ins n b).map (·.we e):=by
 unfold St.ins
 by_cases h:σ.used n=true
 ·rw[if_pos h,if_pos (show(σ.we e).used n=true from h)];rfl
 ·rw[if_neg h,if_neg (show¬(σ.we e).used n=true from h)];rfl
theorem xT:∀(l:List (Nat×aq)) (σ:St) (e:Nat->ak),(σ.we e).cF l=(σ.cF l).map (·.we e)
 |[],σ,e=>rfl
 |(n,b)::l,σ,e=>by
  simp only[St.cF,Dg]
  cases σ.ins n b with
  |none=>rfl
  |some σ1=>exact xT l σ1 e
theorem ak1 (σ:St) (e:Nat->ak) (c:ai):(σ.we e).fC c=(σ.fC c).map fun x=>(x.1,x.2.1,x.2.2.we e):=by
 cases c with
 |c x=>rfl
 |nil sz=>simp only[St.fC];split<;>rfl
 |sl n sz lo len=>
  have:(σ.we e).h n=σ.h n:=rfl
  simp only[St.fC,this]
  cases σ.h n with
  |none=>rfl
  |some b=>cases b with
   |box cs=>rfl
   |row gr m rs xs=>simp only;split<;>rfl
 |_=>rfl
theorem El:∀(cs:List ai) (σ:St) (e:Nat->ak),(σ.we e).fc cs=(σ.fc cs).map fun x=>(x.1,x.2.1,x.2.2.we e)
 |[],σ,e=>rfl
 |c::cs,σ,e=>by
  simp only[St.fc,ak1]
  cases σ.fC c with
  |none=>rfl
  |some x=>
   obtain⟨x,o,σ1⟩:=x
   simp only[Option.map_some,El cs σ1 e]
   cases σ1.fc cs<;>rfl
theorem acB (σ:St) (e:Nat->ak) (p:ai):(σ.we e).pf p=(σ.pf p).map (·.we e):=by
 cases p with
 |ptr n k sz off=>
  have h3:(σ.we e).h=σ.h:=rfl
  simp only[St.pf,h3]
  cases σ.h n with
  |none=>rfl
  |some b=>
   cases b with
   |row gr m rs xs=>rfl
   |box cs=>
    simp only[El]
    cases σ.fc cs with
    |none=>rfl
    |some x=>rfl
 |_=>rfl
theorem ZJ (sz:Nat):∀(vs:List ak) (σ:St) (e:Nat->ak),(σ.we e).kH sz vs=(σ.kH sz vs).map fun x=>(x.1,x.2.1,x.2.2.we e)
 |[],σ,e=>rfl
 |v::vs,σ,e=>by
  simp only[St.kH]
  cases v.cells? with
  |none=>rfl
  |some x=>
   obtain⟨ag,cs⟩:=x
   simp only
   split
   ·simp only[El]
    cases σ.fc cs with
    |none=>rfl
    |some y=>
     obtain⟨y,o,σ1⟩:=y
     simp only[Option.map_some,ZJ sz vs σ1 e]
     cases σ1.kH sz vs<;>rfl
   ·rfl
theorem aao (σ:St) (e:Nat->ak) (sz:Nat) (v:ak):oU (σ.we e) sz v=(oU σ sz v).map fun x=>(x.1,x.2.1,x.2.2.we e):=by
 cases v with
 |one v=>cases v with
  |sl a s lo len=>cases lo with
   |zero=>
    have:(σ.we e).h a=σ.h a:=rfl
    simp only[oU,this]
    cases σ.h a with
    |none=>rfl
    |some b=>cases b with
     |box cs=>rfl
     |row gr m rs xs=>cases gr with
      |true=>simp only;split<;>rfl
      |false=>rfl
   |succ lo=>rfl
  |_=>rfl
 |_=>rfl
theorem aaq (fl:Bool) (σ:St) (e:Nat->ak) (sz:Nat) (m:Mode) (v:ak):kQ fl (σ.we e) sz m v=(kQ fl σ sz m v).map fun x=>(x.1,x.2.1,x.2.2.we e):=by
 cases v with
 |one v=>cases v with
  |sl b s lo len=>
   have:(σ.we e).h b=σ.h b:=rfl
   simp only[kQ,this]
   cases σ.h b with
   |none=>rfl
   |some b=>cases b with
    |box cs=>rfl
    |row gr m rs xs=>
     simp only
     repeat' split
     all_goals rfl
  |c x=>cases x with
   |list s ys=>
    simp only[kQ]
    repeat' split
    all_goals rfl
   |_=>rfl
  |_=>rfl
 |_=>rfl
theorem akA (σ:St) (e:Nat->ak) (n:Nat) (gr:Bool) (m:Mode) (rs:Nat) (xs:List (List C)) (k off:Nat) (el:List C) (vs:List ai):
  mn (σ.we e) n gr m rs xs k off el vs=(mn σ n gr m rs xs k off el vs).map (·.we e):=by
 simp only[mn,El]
 cases sub el off vs.length with
 |none=>rfl
 |some eR=>
  simp only
  cases σ.fc vs with
  |none=>rfl
  |some x=>
   obtain⟨cs,o,σ1⟩:=x
   have:(σ1.we e).h n=σ1.h n:=rfl
   simp only[Option.map_some,this]
   repeat' split
   all_goals rfl
theorem A6 (T:bg) (d:Option Nat) (op:aC) {ev ev':MO->ak} (h:Nat->Option aq) (br:∀x∈op.args,ev' x=ev x):rd T d op ev' h=rd T d op ev h:=by
 have hl:∀xs:List MO,(∀x∈xs,ev' x=ev x)->xs.map ev'=xs.map ev:=fun xs hx=>List.map_congr_left hx
 have hp:∀(ps:List (Nat×Nat×MO)) (zs:List ai),(∀x∈ps.map (·.2.2),ev' x=ev x)->oL ev' zs ps=oL ev zs ps:=by
  intro ps
  induction ps with
  |nil=>intro zs _;rfl
  |cons p ps ih=>
   intro zs hx
   obtain⟨off,sz,x⟩:=p
   simp only[oL]
   rw[hx x (by simp)]
   cases (ev x).cells? with
   |none=>rfl
   |some y=>
    simp only
    split
    ·exact ih _ fun z hz=>hx z (by simp at hz⊢;exact .inr hz)
    ·rfl
 cases op with
 |build zs ps=>simp only[rd];rw[hp ps zs br]
 |call m f xs=>simp only[rd];rw[hl xs br]
 |lG f xs=>simp only[rd];rw[hl xs br]
 |oA f xs=>simp only[rd];rw[hl xs br]
 |lH m x xs=>simp only[rd];rw[br x (by simp[aC.args]),hl xs fun y hy=>br y (by simp[aC.args,hy])]
 |slice sz x lo hi=>
  have h1:=br x (by simp[aC.args])
  cases lo with
  |none=>cases hi with
   |none=>simp only[rd,h1]
   |some hi=>have h3:=br hi (by simp[aC.args]);simp only[rd,h1,h3]
  |some lo=>
   have h2:=br lo (by simp[aC.args])
   cases hi with
   |none=>simp only[rd,h1,h2]
   |some hi=>have h3:=br hi (by simp[aC.args]);simp only[rd,h1,h2,h3]
 |mv x=>have h1:=br x (by simp[aC.args]);simp only[rd,h1]
 |pick x y z=>have h1:=br x (by simp[aC.args]);have h2:=br y (by simp[aC.args]);have h3:=br z (by simp[aC.args]);simp only[rd,h1,h2,h3]
 |alloc zs=>rfl
 |box sz x=>have h1:=br x (by simp[aC.args]);simp only[rd,h1]
 |fg sz ps=>rfl
 |fT m f xs=>rfl
 |dn f xs=>rfl
 |load ag sz x=>have h1:=br x (by simp[aC.args]);simp only[rd,h1]
 |store sz x v=>rfl
 |ga x=>have h1:=br x (by simp[aC.args]);simp only[rd,h1]
 |bin op x y=>have h1:=br x (by simp[aC.args]);have h2:=br y (by simp[aC.args]);simp only[rd,h1,h2]
 |nV op x y=>have h1:=br x (by simp[aC.args]);have h2:=br y (by simp[aC.args]);simp only[rd,h1,h2]
 |un op x=>have h1:=br x (by simp[aC.args]);simp only[rd,h1]
 |conv k x=>have h1:=br x (by simp[aC.args]);simp only[rd,h1]
 |mb m sz by_ zs x y=>have h1:=br x (by simp[aC.args]);have h2:=br y (by simp[aC.args]);simp only[rd,h1,h2]
 |aB off x=>have h1:=br x (by simp[aC.args]);simp only[rd,h1]
 |dZ sz x y=>have h1:=br x (by simp[aC.args]);have h2:=br y (by simp[aC.args]);simp only[rd,h1,h2]
 |ext i x=>have h1:=br x (by simp[aC.args]);simp only[rd,h1]
 |kj ag off sz x=>have h1:=br x (by simp[aC.args]);simp only[rd,h1]
 |kE f bD x=>have h1:=br x (by simp[aC.args]);simp only[rd,h1]
 |len x=>have h1:=br x (by simp[aC.args]);simp only[rd,h1]
 |append fl sz by_ x y=>rfl
 |tail sz x lo=>rfl
 |mQ ag sz x=>rfl
 |copy sz x y=>rfl
 |ki z x=>rfl
 |mm b x y=>have h1:=br x (by simp[aC.args]);have h2:=br y (by simp[aC.args]);simp only[rd,h1,h2]
theorem Jh (σ:St) (e:Nat->ak):(σ.we e).h=σ.h:=rfl
theorem ai4 (σ:St) (e:Nat->ak) (it:c6) (x:C):(σ.we e).mT it x=(σ.mT it x).map (·.we e):=by
 cases it with
 |nil sz=>rfl
 |row n=>
  cases x with
  |int k i=>rfl
  |bool b=>rfl
  |list sz xs=>
   simp only[St.mT,Jh]
   cases σ.h n with
   |none=>rfl
   |some b=>
    cases b with
    |box cs=>rfl
    |row gr m rs kb=>simp only;split<;>rfl
 |nest n k off=>
  simp only[St.mT,Jh]
  cases σ.h n with
  |none=>rfl
  |some b=>
   cases b with
   |box cs=>rfl
   |row gr m rs kb=>
    simp only
    cases kb[k]? with
    |none=>rfl
    |some el=>rfl
theorem Yo:∀(its:List (c6×Mode)) (d7:List C) (σ:St) (e:Nat->ak),(σ.we e).oG its d7=(σ.oG its d7).map (·.we e)
 |[],[],σ,e=>rfl
 |it::its,x::d7,σ,e=>by
  simp only[St.oG,ai4]
  cases σ.mT it.1 x with
  |none=>rfl
  |some σ1=>exact Yo its d7 σ1 e
 |[],_::_,σ,e=>rfl
 |_::_,[],σ,e=>rfl
theorem aeM (m:Mode) (σ:St) (e:Nat->ak) (nm:Nat) (ds:List Dv):(σ.we e).iT m nm ds=(σ.iT m nm ds).map fun x=>(x.1,x.2.we e):=by
 simp only[M6]
 cases vq m nm ds with
 |none=>rfl
 |some x=>
  simp only[Option.bind_some,xT]
  cases σ.cF x.2 with
  |none=>rfl
  |some σ1=>rfl
theorem abd (T:bg) (m:Mode) (d:Option Nat) (f:FuncId) (as:List ak) (σ:St) (e:Nat->ak):
  tc T m d f as (σ.we e)=(tc T m d f as σ).map fun τ=>τ.we (ui e d τ.env):=by
 unfold tc
 cases bg.qt T.AP f with
 |none=>rfl
 |some z=>
  obtain⟨sig,M⟩:=z
  cases vI as with
  |none=>rfl
  |some fh=>
   simp only
   by_cases fL:(nD sig fh).Nodup
   ·rw[if_pos fL,if_pos fL]
    show(match oB σ.h (ez σ.h (nD sig fh)) sig fh with|some (ds,its)=>_|none=>none)=_
    cases oB σ.h (ez σ.h (nD sig fh)) sig fh with
    |none=>rfl
    |some z=>
     obtain⟨ds,its⟩:=z
     simp only
     cases M ds with
     |none=>rfl
     |some z=>
      obtain⟨rs,d7⟩:=z
      simp only[Yo]
      cases σ.oG its d7 with
      |none=>rfl
      |some σ1=>
       simp only[Option.map_some,aeM]
       cases σ1.iT m (yj d) rs with
       |none=>rfl
       |some z=>
        obtain⟨ls,σ2⟩:=z
        simp only[Option.map_some,sA]
   ·rw[if_neg fL,if_neg fL];rfl
theorem J0:∀(as:List ak) (σ:St) (e:Nat->ak),(σ.we e).gV as=(σ.gV as).map fun x=>(x.1,x.2.1,x.2.2.we e)
 |[],σ,e=>rfl
 |v::as,σ,e=>by
  simp only[St.gV,Jh,El]
  cases mr σ.h v with
  |some x=>
   obtain⟨n,xs⟩:=x
   simp only[J0 as σ e]
   cases σ.gV as<;>rfl
  |none=>
   simp only
   cases v.cells? with
   |none=>rfl
   |some x=>
    obtain⟨ag,cs⟩:=x
    simp only
    cases σ.fc cs with
    |none=>rfl
    |some y=>
     obtain⟨xs,o,σ1⟩:=y
     simp only[Option.map_some,J0 as σ1 e]
     cases σ1.gV as<;>rfl
theorem ai2 (σ:St) (e:Nat->ak) (ns:List Nat) (out:List C):(σ.we e).qU ns out=(σ.qU ns out).map (·.we e):=by
 match ns,out with
 |[],[]=>rfl
 |[],_::_=>rfl
 |[n],out=>
  simp only[St.qU,Jh]
  cases σ.h n with
  |none=>rfl
  |some b=>
   cases b with
   |box cs=>simp only;split<;>rfl
   |row gr m rs xs=>rfl
 |_::_::_,out=>rfl
theorem aaA (σ:St) (e:Nat->ak) (d:Option Nat) (rs:List Dv):qi (σ.we e) d rs=(qi σ d rs).map fun τ=>τ.we (ui e d τ.env):=by
 unfold qi
 split
 ·cases d with
  |none=>rfl
  |some q=>
   simp only[Dg]
   cases σ.ins q _ with
   |none=>rfl
   |some σ1=>simp only[Option.map_some,sA]
 ·cases gz rs with
  |none=>rfl
  |some ls=>simp only[Option.map_some,sA]
theorem abc (T:bg) (d:Option Nat) (f:FuncId) (as:List ak) (σ:St) (e:Nat->ak):
  rG T d f as (σ.we e)=(rG T d f as σ).map fun τ=>τ.we (ui e d τ.env):=by
 unfold rG
 rw[J0]
 cases σ.gV as with
 |none=>rfl
 |some x=>
  obtain⟨ds,ns,σ1⟩:=x
  simp only[Option.map_some]
  cases bg.ni T.vs f with
  |none=>rfl
  |some M=>
   simp only
   cases M ds with
   |none=>rfl
   |some z=>
    obtain⟨rs,out⟩:=z
    simp only[ai2]
    cases σ1.qU ns out with
    |none=>rfl
    |some σ2=>exact aaA σ2 e d rs
theorem KD (T:bg) (d:Option Nat) (op:aC) (σ:St) (e:Nat->ak) (br:∀x∈op.args,(σ.we e).ev x=σ.ev x) (hd:∀sz x v,op=.store sz x v->d=none):
  aE T d op (σ.we e)=(aE T d op σ).map fun τ=>τ.we (ui e d τ.env):=by
 by_cases hc:op.dE<=1
 ·rw[o9 T d op _ hc,o9 T d op _ hc,A6 T d op _ br]
  show Option.bind (rd T d op σ.ev σ.h) _=_
  cases rd T d op σ.ev σ.h with
  |none=>rfl
  |some x=>
   simp only[Option.bind_some,fin,xT]
   cases σ.cF x.2 with
   |none=>rfl
   |some σ1=>simp only[Option.map_some,sA]
 ·cases op<;>simp[aC.dE] at hc
  case fg sz ps=>
   have hl:ps.map (σ.we e).ev=ps.map σ.ev:=List.map_congr_left br
   simp only[aE,hl,ZJ]
   cases d with
   |none=>rfl
   |some n=>
    cases σ.kH sz (ps.map σ.ev) with
    |none=>rfl
    |some x=>
     obtain⟨es,o,σ1⟩:=x
     simp only[Option.map_some,Dg]
     cases σ1.ins n (.row true (if o=true then .ae else .aA) sz es) with
     |none=>rfl
     |some σ2=>simp only[Option.map_some,sA]
  case store sz x v=>
   have h1:=br x (by simp[aC.args])
   have h2:=br v (by simp[aC.args])
   have hd:=hd sz x v rfl
   subst hd
   simp only[aE,h1,h2]
   cases σ.ev x with
   |one p=>cases p with
    |ptr n k ax off=>
     cases (σ.ev v).cells? with
     |none=>rfl
     |some y=>
      obtain⟨ag,vs⟩:=y
      have:(σ.we e).h n=σ.h n:=rfl
      simp only[this]
      split
      ·cases σ.h n with
       |none=>rfl
       |some b=>cases b with
        |box cs=>simp only;split<;>rfl
        |row gr m rs xs=>
         simp only
         split
         ·cases xs[k]? with
          |none=>rfl
          |some el=>simp only[akA];rfl
         ·rfl
      ·rfl
    |cD n k ax off s i=>
     cases (σ.ev v).cells? with
     |none=>rfl
     |some y=>
      obtain⟨ag,vs⟩:=y
      have:(σ.we e).h n=σ.h n:=rfl
      simp only[this]
      split
      ·cases σ.h n with
       |none=>rfl
       |some b=>cases b with
        |box cs=>rfl
        |row gr m rs xs=>cases m with
         |live=>
          simp only
          split
          ·cases ua xs k off s i vs<;>rfl
          ·rfl
         |_=>rfl
      ·rfl
    |_=>cases (σ.ev v).cells?<;>rfl
   |agg cs=>cases (σ.ev v).cells?<;>rfl
   |bn cs=>cases (σ.ev v).cells?<;>rfl
  case append fl sz by_ x y=>
   have h1:=br x (by simp[aC.args])
   have h2:=br y (by simp[aC.args])
   simp only[aE,h1,h2,aao]
   cases d with
   |none=>rfl
   |some n=>
    simp only
    cases oU σ sz (σ.ev x) with
    |none=>rfl
    |some z=>
     obtain⟨xs,m,σ1⟩:=z
     simp only[Option.map_some,aaq]
     cases kQ fl σ1 sz m (σ.ev y) with
     |none=>rfl
     |some z=>
      obtain⟨ys,m2,σ2⟩:=z
      simp only[Option.map_some]
      split
      ·simp only[Dg]
       cases σ2.ins n (.row true m2 sz (xs++ys)) with
       |none=>rfl
       |some gj=>simp only[Option.map_some,sA]
      ·rfl
  case copy sz x y=>
   have h1:=br x (by simp[aC.args])
   have h2:=br y (by simp[aC.args])
   have h3:(σ.we e).h=σ.h:=rfl
   simp only[aE,h1,h2,h3]
   cases σ.ev x with
   |one p=>cases p with
    |sl n s lo len=>
     cases σ.ev y with
     |one c=>
      simp only
      cases σ.h n with
      |none=>rfl
      |some b=>cases b with
       |box cs=>rfl
       |row gr m rs xs=>
        cases bU σ.h c with
        |none=>rfl
        |some q=>cases q with
         |list s' ys=>
          simp only
          split
          ·exact congrArg some (sA (σ.dd n _) e d _)
          ·rfl
         |_=>rfl
     |_=>rfl
    |_=>rfl
   |_=>rfl
  case ki z x=>
   have h1:=br x (by simp[aC.args])
   have h3:(σ.we e).h=σ.h:=rfl
   simp only[aE,h1,h3]
   cases σ.ev x with
   |one p=>cases p with
    |sl n s lo len=>
     simp only
     cases σ.h n with
     |none=>rfl
     |some b=>cases b with
      |box cs=>rfl
      |row gr m rs xs=>
       simp only
       split
       ·exact congrArg some (sA (σ.dd n _) e d _)
       ·rfl
    |_=>rfl
   |_=>rfl
  case mQ ag sz x=>
   have h1:=br x (by simp[aC.args])
   simp only[aE,h1]
   cases σ.ev x with
   |one p=>
    simp only[acB]
    cases σ.pf p with
    |none=>rfl
    |some σ1=>
     simp only[Option.map_some]
     have h3:(σ1.we e).h=σ1.h:=rfl
     rw[h3]
     cases loadAt σ1.h p sz with
     |none=>rfl
     |some cs=>exact congrArg some (sA σ1 e d _)
   |_=>rfl
  case tail sz x y=>
   have h1:=br x (by simp[aC.args])
   have h2:=br y (by simp[aC.args])
   simp only[aE,h1,h2]
   cases d with
   |none=>rfl
   |some n=>
    generalize (σ.ev y).cX=q
    cases hv:σ.ev x with
    |one p=>cases p with
     |sl a s lo len=>cases lo with
      |zero=>
       cases q with
       |none=>rfl
       |some l=>
        simp only
        have:(σ.we e).h a=σ.h a:=rfl
        rw[this]
        cases σ.h a with
        |none=>rfl
        |some b=>cases b with
         |box cs=>rfl
         |row gr m rs xs=>cases gr with
          |false=>rfl
          |true=>
           simp only
           split
           ·rw[show(σ.we e).del a=(σ.del a).we e from rfl,Dg]
            cases (σ.del a).ins n (.row true m sz (xs.drop l.toNat)) with
            |none=>rfl
            |some gj=>simp only[Option.map_some,sA]
           ·rfl
      |succ lo=>cases q<;>rfl
     |_=>cases q<;>rfl
    |_=>cases q<;>rfl
  case fT m f xs=>
   have hl:xs.map (σ.we e).ev=xs.map σ.ev:=List.map_congr_left br
   simp only[aE,hl,abd]
  case dn f xs=>
   have hl:xs.map (σ.we e).ev=xs.map σ.ev:=List.map_congr_left br
   simp only[aE,hl,abc]
section
variable {u vv:Nat->Prop} {h h':Nat->Option aq}
theorem agv (hh:∀n,u n->h' n=h n) {p:ai} (hp:∀m,p.ref m->u m) (sz:Nat):loadAt h' p sz=loadAt h p sz:=by
 cases p with
 |ptr n k ax off=>simp only[loadAt,hh n (hp n rfl)]
 |_=>rfl
theorem ai.A8 {c:ai} {m:Nat} (h:c.g7 m):c.ref m:=by
 cases c<;>first|exact h|exact h.elim
def ak.vW:ak->Nat->Prop
 |.one c,m=>c.g7 m
 |.agg cs,m=>∃c∈cs,c.g7 m
 |.bn _,_=>False
theorem ak.PJ {x:ak} {m:Nat} (h:x.vW m):x.ref m:=by
 cases x with
 |one c=>exact ai.A8 h
 |agg cs=>obtain⟨c,hc,h⟩:=h;exact⟨c,hc,ai.A8 h⟩
 |bn xs=>exact h.elim
theorem BC (hh:∀n,u n->h' n=h n) {p:ai} (hp:∀m,p.g7 m->u m):bU h' p=bU h p:=by
 cases p with
 |sl n sz lo len=>simp only[bU,hh n (hp n rfl)]
 |bx n k ax off sz len=>simp only[bU,hh n (hp n rfl)]
 |_=>rfl
theorem Su (hh:∀n,u n->h' n=h n):∀{l:List ai} (_:∀p∈l,∀m,p.g7 m->u m),gh h' l=gh h l
 |[],_=>rfl
 |c::cs,hp=>by
  have h1:=BC hh (hp c (by simp))
  have h2:=Su hh (l:=cs) fun p q=>hp p (List.mem_cons_of_mem _ q)
  simp only[gh,h1,h2]
theorem ald (hh:∀n,u n->h' n=h n) (hb:∀m cs c n,vv m->h m=some (.box cs)->c∈cs->c.ref n->u n) {x:ak} (hx:∀m,x.vW m->u m) (hv:∀m,x.vW m->vv m):gQ h' x=gQ h x:=by
 cases x with
 |one c=>cases c with
  |ptr n k sz off=>
   simp only[gQ,hh n (hx n rfl)]
   cases hn:h n with
   |none=>rfl
   |some b=>cases b with
    |box cs=>simp only[Su hh fun p hp m hm=>hb n cs p m (hv n rfl) hn hp (ai.A8 hm)]
    |row gr m sz xs=>rfl
  |cd xs off=>rfl
  |c x=>rfl
  |nil sz=>rfl
  |sl n sz lo len=>simp only[gQ];rw[BC hh (p:=.sl n sz lo len) hx]
  |bx n k ax off sz len=>simp only[gQ];rw[BC hh (p:=.bx n k ax off sz len) hx]
  |cD n k ax off sz i=>rfl
  |fn f bY=>rfl
  |bf=>rfl
 |agg cs=>simp only[gQ,Su hh fun p hp m hm=>hx m ⟨p,hp,hm⟩]
 |bn xs=>rfl
theorem Je (hh:∀n,u n->h' n=h n) (hb:∀m cs c n,vv m->h m=some (.box cs)->c∈cs->c.ref n->u n):∀{xs:List ak} (_:∀x∈xs,∀m,x.vW m->u m) (_:∀x∈xs,∀m,x.vW m->vv m),j9 h' xs=j9 h xs
 |[],_,_=>rfl
 |x::xs,hx,hv=>by
  have h1:=ald hh hb (hx x (by simp)) (hv x (by simp))
  have h2:=Je hh hb (xs:=xs) (fun p q=>hx p (List.mem_cons_of_mem _ q)) (fun p q=>hv p (List.mem_cons_of_mem _ q))
  simp only[j9,h1,h2]
theorem Yu (T:bg) (d:Option Nat) (op:aC) (ev:MO->ak) (hh:∀n,u n->h' n=h n) (tj:op.Dh=true->∀m cs c n,vv m->h m=some (.box cs)->c∈cs->c.ref n->u n)
  (hx:∀x∈op.args,∀m,(ev x).ref m->u m) (He:∀x∈op.args,∀m,(ev x).ref m->vv m):rd T d op ev h'=rd T d op ev h:=by
 cases op with
 |load ag sz x=>
  have h1:=hx x (by simp[aC.args])
  simp only[rd]
  cases hv:ev x with
  |one p=>rw[hv] at h1;simp only[agv hh (p:=p) h1]
  |_=>rfl
 |ga x=>
  have h1:=hx x (by simp[aC.args])
  simp only[rd]
  cases hv:ev x with
  |one p=>cases p with
   |ptr n k sz off=>rw[hv] at h1;simp only[hh n (h1 n rfl)]
   |_=>rfl
  |_=>rfl
 |aB off x=>
  have h1:=hx x (by simp[aC.args])
  simp only[rd]
  cases hv:ev x with
  |one p=>cases p with
   |ptr n k sz off=>rw[hv] at h1;simp only[hh n (h1 n rfl)]
   |_=>rfl
  |_=>rfl
 |len x=>
  have h1:=hx x (by simp[aC.args])
  simp only[rd]
  cases hv:ev x with
  |one p=>cases p with
   |sl n sz lo len=>rw[hv] at h1;simp only[hh n (h1 n rfl)]
   |bx n k ax off sz len=>rw[hv] at h1;simp only[BC hh (p:=.bx n k ax off sz len) (fun m hm=>h1 m (ai.A8 hm))]
   |c x=>cases x<;>rfl
   |_=>rfl
  |_=>rfl
 |kE f bD x=>
  have h1:=hx x (by simp[aC.args])
  simp only[rd]
  cases hv:ev x with
  |one p=>cases p with
   |sl n sz lo len=>rw[hv] at h1;simp only[hh n (h1 n rfl)]
   |c x=>cases x<;>rfl
   |_=>rfl
  |_=>rfl
 |dZ sz x i=>
  have h1:=hx x (by simp[aC.args])
  simp only[rd]
  generalize (ev i).cX=q
  cases hv:ev x with
  |one p=>cases p with
   |sl n s lo len=>
    rw[hv] at h1
    have h2:=hh n (h1 n rfl)
    cases q with
    |none=>rfl
    |some q=>simp only[h2]
   |bx n k ax off s len=>
    rw[hv] at h1
    cases q with
    |none=>rfl
    |some q=>simp only[BC hh (p:=.bx n k ax off s len) (fun m hm=>h1 m (ai.A8 hm))]
   |c x=>cases x<;>cases q<;>rfl
   |_=>cases q<;>rfl
  |_=>cases q<;>rfl
 |slice sz x lo hi=>
  have h1:=hx x (by simp[aC.args])
  simp only[rd]
  cases hv:ev x with
  |one p=>cases p with
   |sl n s l0 len=>
    rw[hv] at h1
    have h2:=hh n (h1 n rfl)
    cases lo with
    |none=>simp only[h2]
    |some lo=>
     simp only
     cases (ev lo).cX with
     |none=>rfl
     |some q=>simp only[h2]
   |c x=>cases lo with
    |none=>cases x<;>rfl
    |some lo=>
     simp only
     cases (ev lo).cX<;>cases x<;>rfl
   |_=>cases lo<;>rfl
  |_=>cases lo<;>rfl
 |call m f xs=>
  simp only[rd,zi]
  have go:∀u':Nat->Prop,(∀x∈(aC.call m f xs).args,∀m,(ev x).ref m->u' m)->∀x∈xs.map ev,∀m,x.vW m->u' m:=by
   intro u' hx x C2 q hq
   obtain⟨y,hy,rfl⟩:=List.mem_map.1 C2
   exact hx y hy q (ak.PJ hq)
  rw[Je hh (tj rfl) (go _ hx) (go _ He)]
 |lG f xs=>
  simp only[rd,s6]
  have go:∀u':Nat->Prop,(∀x∈(aC.lG f xs).args,∀m,(ev x).ref m->u' m)->∀x∈xs.map ev,∀m,x.vW m->u' m:=by
   intro u' hx x C2 q hq
   obtain⟨y,hy,rfl⟩:=List.mem_map.1 C2
   exact hx y hy q (ak.PJ hq)
  rw[Je hh (tj rfl) (go _ hx) (go _ He)]
 |lH m x xs=>
  simp only[rd]
  cases hv:ev x with
  |one p=>cases p with
   |fn f bY=>
    simp only[zi]
    have go:∀u':Nat->Prop,(∀y∈(aC.lH m x xs).args,∀m,(ev y).ref m->u' m)->∀y∈xs.map ev++bY.map ak.one,∀m,y.vW m->u' m:=by
     intro u' hx y hym q hq
     rcases List.mem_append.1 hym with hy|hy
     ·obtain⟨z,hz,rfl⟩:=List.mem_map.1 hy
      exact hx z (by simp[aC.args,hz]) q (ak.PJ hq)
     ·obtain⟨z,hz,rfl⟩:=List.mem_map.1 hy
      refine hx x (by simp[aC.args]) q ?_
      rw[hv]
      exact⟨z,hz,hq⟩
    rw[Je hh (tj rfl) (go _ hx) (go _ He)]
   |_=>rfl
  |_=>rfl
 |_=>rfl
theorem Yt (T:bg) (d:Option Nat) (op:aC) (ev:MO->ak) (hh:∀n,u n->h' n=h n) (hb:∀m cs c n,h m=some (.box cs)->c∈cs->c.ref n->u n)
  (hx:∀x∈op.args,∀m,(ev x).ref m->u m):rd T d op ev h'=rd T d op ev h:=
 Yu (vv:=fun _=>True) T d op ev hh (fun _ m cs c n _=>hb m cs c n) hx (fun _ _ _ _=>trivial)
theorem Yw (T:bg) (d:Option Nat) (op:aC) (ev:MO->ak) (h h':Nat->Option aq) (hc:op.dE=0):rd T d op ev h'=rd T d op ev h:=by
 cases op<;>simp[aC.dE] at hc<;>rfl
end
end Go.Am
