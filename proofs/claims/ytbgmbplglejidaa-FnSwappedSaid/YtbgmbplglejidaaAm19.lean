/- Am19: operations that may change places, continued. No condition. -/
import Derived.Test.YtbgmbplglejidaaAm18
set_option linter.unusedVariables false
namespace Go.Am
def St.we (σ:St) (e:Nat->ak):St:={σ with env:=e}
def vQ (e:Nat->ak) (d:Option Nat) (x:Nat->ak):Nat->ak:=
 match d with
 |some n=>aA e n (x n)
 |none=>e
theorem atb (σ:St):σ.we σ.env=σ:=rfl
theorem tV (σ:St) (e:Nat->ak) (d:Option Nat) (v:ak):(σ.we e).put d v=(σ.put d v).we (vQ e d (σ.put d v).env):=by
 cases d with
 |none=>rfl
 |some n=>simp[St.put,St.we,vQ,bN]
theorem FF (σ:St) (e:Nat->ak) (n:Nat) (b:ar):(σ.we e).ins n b=(σ.ins n b).map (·.we e):=by
 unfold St.ins
 by_cases h:σ.used n=true
 ·rw[if_pos h,if_pos (show(σ.we e).used n=true from h)];rfl
 ·rw[if_neg h,if_neg (show¬(σ.we e).used n=true from h)];rfl
theorem zE:∀(l:List (Nat×ar)) (σ:St) (e:Nat->ak),(σ.we e).cM l=(σ.cM l).map (·.we e)
 |[],σ,e=>rfl
 |(n,b)::l,σ,e=>by
  simp only[St.cM,FF]
  cases σ.ins n b with
  |none=>rfl
  |some σ1=>exact zE l σ1 e
theorem asO (σ:St) (e:Nat->ak) (c:aj):(σ.we e).gb c=(σ.gb c).map fun x=>(x.1,x.2.1,x.2.2.we e):=by
 cases c with
 |c x=>rfl
 |nil sz=>simp only[St.gb];split<;>rfl
 |sl n sz lo len=>
  have:(σ.we e).h n=σ.h n:=rfl
  simp only[St.gb,this]
  cases σ.h n with
  |none=>rfl
  |some b=>cases b with
   |box cs=>rfl
   |row gr m rs xs=>simp only;split<;>rfl
 |_=>rfl
theorem GO:∀(cs:List aj) (σ:St) (e:Nat->ak),(σ.we e).fD cs=(σ.fD cs).map fun x=>(x.1,x.2.1,x.2.2.we e)
 |[],σ,e=>rfl
 |c::cs,σ,e=>by
  simp only[St.fD,asO]
  cases σ.gb c with
  |none=>rfl
  |some x=>
   obtain⟨x,o,σ1⟩:=x
   simp only[Option.map_some,GO cs σ1 e]
   cases σ1.fD cs<;>rfl
theorem aip (σ:St) (e:Nat->ak) (p:aj):(σ.we e).qO p=(σ.qO p).map (·.we e):=by
 cases p with
 |ptr n k sz off=>
  have h3:(σ.we e).h=σ.h:=rfl
  simp only[St.qO,h3]
  cases σ.h n with
  |none=>rfl
  |some b=>
   cases b with
   |row gr m rs xs=>rfl
   |box cs=>
    simp only[GO]
    cases σ.fD cs with
    |none=>rfl
    |some x=>rfl
 |_=>rfl
theorem aez (sz:Nat):∀(vs:List ak) (σ:St) (e:Nat->ak),(σ.we e).lY sz vs=(σ.lY sz vs).map fun x=>(x.1,x.2.1,x.2.2.we e)
 |[],σ,e=>rfl
 |v::vs,σ,e=>by
  simp only[St.lY]
  cases v.cells? with
  |none=>rfl
  |some x=>
   obtain⟨ag,cs⟩:=x
   simp only
   split
   ·simp only[GO]
    cases σ.fD cs with
    |none=>rfl
    |some y=>
     obtain⟨y,o,σ1⟩:=y
     simp only[Option.map_some,aez sz vs σ1 e]
     cases σ1.lY sz vs<;>rfl
   ·rfl
theorem aff (σ:St) (e:Nat->ak) (sz:Nat) (v:ak):qz (σ.we e) sz v=(qz σ sz v).map fun x=>(x.1,x.2.1,x.2.2.we e):=by
 cases v with
 |one v=>cases v with
  |sl a s lo len=>cases lo with
   |zero=>
    have:(σ.we e).h a=σ.h a:=rfl
    simp only[qz,this]
    cases σ.h a with
    |none=>rfl
    |some b=>cases b with
     |box cs=>rfl
     |row gr m rs xs=>cases gr with
      |true=>simp only;split<;>rfl
      |false=>rfl
   |succ lo=>rfl
  |_=>rfl
 |_=>rfl
theorem afh (fl:Bool) (σ:St) (e:Nat->ak) (sz:Nat) (m:Mode) (v:ak):mq fl (σ.we e) sz m v=(mq fl σ sz m v).map fun x=>(x.1,x.2.1,x.2.2.we e):=by
 cases v with
 |one v=>cases v with
  |sl b s lo len=>
   have:(σ.we e).h b=σ.h b:=rfl
   simp only[mq,this]
   cases σ.h b with
   |none=>rfl
   |some b=>cases b with
    |box cs=>rfl
    |row gr m rs xs=>
     simp only
     repeat' split
     all_goals rfl
  |c x=>cases x with
   |list s ys=>
    simp only[mq]
    repeat' split
    all_goals rfl
   |_=>rfl
  |_=>rfl
 |_=>rfl
theorem asv (σ:St) (e:Nat->ak) (n:Nat) (gr:Bool) (m:Mode) (rs:Nat) (xs:List (List C)) (k off:Nat) (el:List C) (vs:List aj):
  nC (σ.we e) n gr m rs xs k off el vs=(nC σ n gr m rs xs k off el vs).map (·.we e):=by
 simp only[nC,GO]
 cases sub el off vs.length with
 |none=>rfl
 |some fB=>
  simp only
  cases σ.fD vs with
  |none=>rfl
  |some x=>
   obtain⟨cs,o,σ1⟩:=x
   have:(σ1.we e).h n=σ1.h n:=rfl
   simp only[Option.map_some,this]
   repeat' split
   all_goals rfl
theorem Dc (T:aT) (d:Option Nat) (op:aH) {ev ev':MO->ak} (h:Nat->Option ar) (bu:∀x∈op.args,ev' x=ev x):rd T d op ev' h=rd T d op ev h:=by
 have hl:∀xs:List MO,(∀x∈xs,ev' x=ev x)->xs.map ev'=xs.map ev:=fun xs hx=>List.map_congr_left hx
 have hp:∀(ps:List (Nat×Nat×MO)) (zs:List aj),(∀x∈ps.map (·.2.2),ev' x=ev x)->qp ev' zs ps=qp ev zs ps:=by
  intro ps
  induction ps with
  |nil=>intro zs _;rfl
  |cons p ps ih=>
   intro zs hx
   obtain⟨off,sz,x⟩:=p
   simp only[qp]
   rw[hx x (by simp)]
   cases (ev x).cells? with
   |none=>rfl
   |some y=>
    simp only
    split
    ·exact ih _ fun z hz=>hx z (by simp at hz⊢;exact .inr hz)
    ·rfl
 cases op with
 |build zs ps=>simp only[rd];rw[hp ps zs bu]
 |call m f xs=>simp only[rd];rw[hl xs bu]
 |mV f xs=>simp only[rd];rw[hl xs bu]
 |mX f xs=>simp only[rd];rw[hl xs bu]
 |mz f xs=>simp only[rd];rw[hl xs bu]
 |qe f xs=>simp only[rd];rw[hl xs bu]
 |mW m x xs=>simp only[rd];rw[bu x (by simp[aH.args]),hl xs fun y hy=>bu y (by simp[aH.args,hy])]
 |slice sz x lo hi=>
  have h1:=bu x (by simp[aH.args])
  cases lo with
  |none=>cases hi with
   |none=>simp only[rd,h1]
   |some hi=>have h3:=bu hi (by simp[aH.args]);simp only[rd,h1,h3]
  |some lo=>
   have h2:=bu lo (by simp[aH.args])
   cases hi with
   |none=>simp only[rd,h1,h2]
   |some hi=>have h3:=bu hi (by simp[aH.args]);simp only[rd,h1,h2,h3]
 |mv x=>have h1:=bu x (by simp[aH.args]);simp only[rd,h1]
 |pick x y z=>have h1:=bu x (by simp[aH.args]);have h2:=bu y (by simp[aH.args]);have h3:=bu z (by simp[aH.args]);simp only[rd,h1,h2,h3]
 |alloc zs=>rfl
 |box sz x=>have h1:=bu x (by simp[aH.args]);simp only[rd,h1]
 |gd sz ps=>rfl
 |fU m f xs=>rfl
 |dT f xs=>rfl
 |load ag sz x=>have h1:=bu x (by simp[aH.args]);simp only[rd,h1]
 |store sz x v=>rfl
 |gZ x=>have h1:=bu x (by simp[aH.args]);simp only[rd,h1]
 |bin op x y=>have h1:=bu x (by simp[aH.args]);have h2:=bu y (by simp[aH.args]);simp only[rd,h1,h2]
 |oJ op x y=>have h1:=bu x (by simp[aH.args]);have h2:=bu y (by simp[aH.args]);simp only[rd,h1,h2]
 |un op x=>have h1:=bu x (by simp[aH.args]);simp only[rd,h1]
 |conv k x=>have h1:=bu x (by simp[aH.args]);simp only[rd,h1]
 |kF m sz by_ zs x y=>have h1:=bu x (by simp[aH.args]);have h2:=bu y (by simp[aH.args]);simp only[rd,h1,h2]
 |aw off x=>have h1:=bu x (by simp[aH.args]);simp only[rd,h1]
 |cf sz x y=>have h1:=bu x (by simp[aH.args]);have h2:=bu y (by simp[aH.args]);simp only[rd,h1,h2]
 |ext i x=>have h1:=bu x (by simp[aH.args]);simp only[rd,h1]
 |pI ag off sz x=>have h1:=bu x (by simp[aH.args]);simp only[rd,h1]
 |pk f bQ x=>have h1:=bu x (by simp[aH.args]);simp only[rd,h1]
 |len x=>have h1:=bu x (by simp[aH.args]);simp only[rd,h1]
 |append fl sz by_ x y=>rfl
 |tail sz x lo=>rfl
 |oZ ag sz x=>rfl
 |copy sz x y=>rfl
 |lE z x=>rfl
 |mm b x y=>have h1:=bu x (by simp[aH.args]);have h2:=bu y (by simp[aH.args]);simp only[rd,h1,h2]
theorem L9 (σ:St) (e:Nat->ak):(σ.we e).h=σ.h:=rfl
theorem aqD (σ:St) (e:Nat->ak) (it:cY) (x:C):(σ.we e).oq it x=(σ.oq it x).map (·.we e):=by
 cases it with
 |nil sz=>rfl
 |row n=>
  cases x with
  |int k i=>rfl
  |bool b=>rfl
  |list sz xs=>
   simp only[St.oq,L9]
   cases σ.h n with
   |none=>rfl
   |some b=>
    cases b with
    |box cs=>rfl
    |row gr m rs lB=>simp only;split<;>rfl
 |nest n k off=>
  simp only[St.oq,L9]
  cases σ.h n with
  |none=>rfl
  |some b=>
   cases b with
   |box cs=>rfl
   |row gr m rs lB=>
    simp only
    cases lB[k]? with
    |none=>rfl
    |some el=>rfl
theorem acI:∀(its:List (cY×Mode)) (fb:List C) (σ:St) (e:Nat->ak),(σ.we e).qk its fb=(σ.qk its fb).map (·.we e)
 |[],[],σ,e=>rfl
 |it::its,x::fb,σ,e=>by
  simp only[St.qk,aqD]
  cases σ.oq it.1 x with
  |none=>rfl
  |some σ1=>exact acI its fb σ1 e
 |[],_::_,σ,e=>rfl
 |_::_,[],σ,e=>rfl
theorem akS (m:Mode) (σ:St) (e:Nat->ak) (nm:Nat) (ds:List Dv):(σ.we e).jX m nm ds=(σ.jX m nm ds).map fun x=>(x.1,x.2.we e):=by
 simp only[QB]
 cases xk m nm ds with
 |none=>rfl
 |some x=>
  simp only[Option.bind_some,zE]
  cases σ.cM x.2 with
  |none=>rfl
  |some σ1=>rfl
theorem agl (T:aT) (m:Mode) (d:Option Nat) (f:FuncId) (as:List ak) (σ:St) (e:Nat->ak):
  uG T m d f as (σ.we e)=(uG T m d f as σ).map fun τ=>τ.we (vQ e d τ.env):=by
 unfold uG
 cases aT.rY T.CY f with
 |none=>rfl
 |some z=>
  obtain⟨sig,M⟩:=z
  cases qb as with
  |none=>rfl
  |some dz=>
   simp only
   by_cases gH:(kG sig dz).Nodup
   ·rw[if_pos gH,if_pos gH]
    show(match lR σ.h (dS σ.h (kG sig dz)) sig dz with|some (ds,its)=>_|none=>none)=_
    cases lR σ.h (dS σ.h (kG sig dz)) sig dz with
    |none=>rfl
    |some z=>
     obtain⟨ds,its⟩:=z
     simp only
     cases M ds with
     |none=>rfl
     |some z=>
      obtain⟨rs,fb⟩:=z
      simp only[acI]
      cases σ.qk its fb with
      |none=>rfl
      |some σ1=>
       simp only[Option.map_some,akS]
       cases σ1.jX m (z6 d) rs with
       |none=>rfl
       |some z=>
        obtain⟨ls,σ2⟩:=z
        simp only[Option.map_some,tV]
   ·rw[if_neg gH,if_neg gH];rfl
theorem Nh:∀(as:List ak) (σ:St) (e:Nat->ak),(σ.we e).ia as=(σ.ia as).map fun x=>(x.1,x.2.1,x.2.2.we e)
 |[],σ,e=>rfl
 |v::as,σ,e=>by
  simp only[St.ia,L9,GO]
  cases mw σ.h v with
  |some x=>
   obtain⟨n,xs⟩:=x
   simp only[Nh as σ e]
   cases σ.ia as<;>rfl
  |none=>
   simp only
   cases v.cells? with
   |none=>rfl
   |some x=>
    obtain⟨ag,cs⟩:=x
    simp only
    cases σ.fD cs with
    |none=>rfl
    |some y=>
     obtain⟨xs,o,σ1⟩:=y
     simp only[Option.map_some,Nh as σ1 e]
     cases σ1.ia as<;>rfl
theorem aqB (σ:St) (e:Nat->ak) (ns:List Nat) (out:List C):(σ.we e).rn ns out=(σ.rn ns out).map (·.we e):=by
 match ns,out with
 |[],[]=>rfl
 |[],_::_=>rfl
 |[n],out=>
  simp only[St.rn,L9]
  cases σ.h n with
  |none=>rfl
  |some b=>
   cases b with
   |box cs=>simp only;split<;>rfl
   |row gr m rs xs=>rfl
 |_::_::_,out=>rfl
theorem afy (σ:St) (e:Nat->ak) (d:Option Nat) (rs:List Dv):qD (σ.we e) d rs=(qD σ d rs).map fun τ=>τ.we (vQ e d τ.env):=by
 unfold qD
 split
 ·cases d with
  |none=>rfl
  |some q=>
   simp only[FF]
   cases σ.ins q _ with
   |none=>rfl
   |some σ1=>simp only[Option.map_some,tV]
 ·cases gR rs with
  |none=>rfl
  |some ls=>simp only[Option.map_some,tV]
theorem agk (T:aT) (d:Option Nat) (f:FuncId) (as:List ak) (σ:St) (e:Nat->ak):
  qI T d f as (σ.we e)=(qI T d f as σ).map fun τ=>τ.we (vQ e d τ.env):=by
 unfold qI
 rw[Nh]
 cases σ.ia as with
 |none=>rfl
 |some x=>
  obtain⟨ds,ns,σ1⟩:=x
  simp only[Option.map_some]
  cases aT.kQ T.vs f with
  |none=>rfl
  |some M=>
   simp only
   cases M ds with
   |none=>rfl
   |some z=>
    obtain⟨rs,out⟩:=z
    simp only[aqB]
    cases σ1.rn ns out with
    |none=>rfl
    |some σ2=>exact afy σ2 e d rs
theorem NZ (T:aT) (d:Option Nat) (op:aH) (σ:St) (e:Nat->ak) (bu:∀x∈op.args,(σ.we e).ev x=σ.ev x) (hd:∀sz x v,op=.store sz x v->d=none):
  exec T d op (σ.we e)=(exec T d op σ).map fun τ=>τ.we (vQ e d τ.env):=by
 by_cases hc:op.dL<=1
 ·rw[pG T d op _ hc,pG T d op _ hc,Dc T d op _ bu]
  show Option.bind (rd T d op σ.ev σ.h) _=_
  cases rd T d op σ.ev σ.h with
  |none=>rfl
  |some x=>
   simp only[Option.bind_some,fin,zE]
   cases σ.cM x.2 with
   |none=>rfl
   |some σ1=>simp only[Option.map_some,tV]
 ·cases op<;>simp[aH.dL] at hc
  case gd sz ps=>
   have hl:ps.map (σ.we e).ev=ps.map σ.ev:=List.map_congr_left bu
   simp only[exec,hl,aez]
   cases d with
   |none=>rfl
   |some n=>
    cases σ.lY sz (ps.map σ.ev) with
    |none=>rfl
    |some x=>
     obtain⟨es,o,σ1⟩:=x
     simp only[Option.map_some,FF]
     cases σ1.ins n (.row true (if o=true then .ae else .aG) sz es) with
     |none=>rfl
     |some σ2=>simp only[Option.map_some,tV]
  case store sz x v=>
   have h1:=bu x (by simp[aH.args])
   have h2:=bu v (by simp[aH.args])
   have hd:=hd sz x v rfl
   subst hd
   simp only[exec,h1,h2]
   cases σ.ev x with
   |one p=>cases p with
    |ptr n k aE off=>
     cases (σ.ev v).cells? with
     |none=>rfl
     |some y=>
      obtain⟨ag,vs⟩:=y
      have:(σ.we e).h n=σ.h n:=rfl
      simp only[this]
      split
      ·cases σ.h n with
       |none=>rfl
       |some b=>cases b with
        |box cs=>simp only;split<;>rfl
        |row gr m rs xs=>
         simp only
         split
         ·cases xs[k]? with
          |none=>rfl
          |some el=>simp only[asv];rfl
         ·rfl
      ·rfl
    |c7 n k aE off s i=>
     cases (σ.ev v).cells? with
     |none=>rfl
     |some y=>
      obtain⟨ag,vs⟩:=y
      have:(σ.we e).h n=σ.h n:=rfl
      simp only[this]
      split
      ·cases σ.h n with
       |none=>rfl
       |some b=>cases b with
        |box cs=>rfl
        |row gr m rs xs=>cases m with
         |live=>
          simp only
          split
          ·cases vI xs k off s i vs<;>rfl
          ·rfl
         |_=>rfl
      ·rfl
    |_=>cases (σ.ev v).cells?<;>rfl
   |agg cs=>cases (σ.ev v).cells?<;>rfl
   |br cs=>cases (σ.ev v).cells?<;>rfl
  case append fl sz by_ x y=>
   have h1:=bu x (by simp[aH.args])
   have h2:=bu y (by simp[aH.args])
   simp only[exec,h1,h2,aff]
   cases d with
   |none=>rfl
   |some n=>
    simp only
    cases qz σ sz (σ.ev x) with
    |none=>rfl
    |some z=>
     obtain⟨xs,m,σ1⟩:=z
     simp only[Option.map_some,afh]
     cases mq fl σ1 sz m (σ.ev y) with
     |none=>rfl
     |some z=>
      obtain⟨ys,m2,σ2⟩:=z
      simp only[Option.map_some]
      split
      ·simp only[FF]
       cases σ2.ins n (.row true m2 sz (xs++ys)) with
       |none=>rfl
       |some g9=>simp only[Option.map_some,tV]
      ·rfl
  case copy sz x y=>
   have h1:=bu x (by simp[aH.args])
   have h2:=bu y (by simp[aH.args])
   have h3:(σ.we e).h=σ.h:=rfl
   simp only[exec,h1,h2,h3]
   cases σ.ev x with
   |one p=>cases p with
    |sl n s lo len=>
     cases σ.ev y with
     |one c=>
      simp only
      cases σ.h n with
      |none=>rfl
      |some b=>cases b with
       |box cs=>rfl
       |row gr m rs xs=>
        cases cq σ.h c with
        |none=>rfl
        |some q=>cases q with
         |list s' ys=>
          simp only
          split
          ·exact congrArg some (tV (σ.dB n _) e d _)
          ·rfl
         |_=>rfl
     |_=>rfl
    |_=>rfl
   |_=>rfl
  case lE z x=>
   have h1:=bu x (by simp[aH.args])
   have h3:(σ.we e).h=σ.h:=rfl
   simp only[exec,h1,h3]
   cases σ.ev x with
   |one p=>cases p with
    |sl n s lo len=>
     simp only
     cases σ.h n with
     |none=>rfl
     |some b=>cases b with
      |box cs=>rfl
      |row gr m rs xs=>
       simp only
       split
       ·exact congrArg some (tV (σ.dB n _) e d _)
       ·rfl
    |_=>rfl
   |_=>rfl
  case oZ ag sz x=>
   have h1:=bu x (by simp[aH.args])
   simp only[exec,h1]
   cases σ.ev x with
   |one p=>
    simp only[aip]
    cases σ.qO p with
    |none=>rfl
    |some σ1=>
     simp only[Option.map_some]
     have h3:(σ1.we e).h=σ1.h:=rfl
     rw[h3]
     cases loadAt σ1.h p sz with
     |none=>rfl
     |some cs=>exact congrArg some (tV σ1 e d _)
   |_=>rfl
  case tail sz x y=>
   have h1:=bu x (by simp[aH.args])
   have h2:=bu y (by simp[aH.args])
   simp only[exec,h1,h2]
   cases d with
   |none=>rfl
   |some n=>
    generalize (σ.ev y).dn=q
    cases hv:σ.ev x with
    |one p=>cases p with
     |sl a s lo len=>cases lo with
      |zero=>
       cases q with
       |none=>rfl
       |some l=>
        simp only
        have:(σ.we e).h a=σ.h a:=rfl
        rw[this]
        cases σ.h a with
        |none=>rfl
        |some b=>cases b with
         |box cs=>rfl
         |row gr m rs xs=>cases gr with
          |false=>rfl
          |true=>
           simp only
           split
           ·rw[show(σ.we e).del a=(σ.del a).we e from rfl,FF]
            cases (σ.del a).ins n (.row true m sz (xs.drop l.toNat)) with
            |none=>rfl
            |some g9=>simp only[Option.map_some,tV]
           ·rfl
      |succ lo=>cases q<;>rfl
     |_=>cases q<;>rfl
    |_=>cases q<;>rfl
  case fU m f xs=>
   have hl:xs.map (σ.we e).ev=xs.map σ.ev:=List.map_congr_left bu
   simp only[exec,hl,agl]
  case dT f xs=>
   have hl:xs.map (σ.we e).ev=xs.map σ.ev:=List.map_congr_left bu
   simp only[exec,hl,agk]
section
variable {u vv:Nat->Prop} {h h':Nat->Option ar}
theorem amI (hh:∀n,u n->h' n=h n) {p:aj} (hp:∀m,p.ref m->u m) (sz:Nat):loadAt h' p sz=loadAt h p sz:=by
 cases p with
 |ptr n k aE off=>simp only[loadAt,hh n (hp n rfl)]
 |_=>rfl
theorem aj.xJ {c:aj} {m:Nat} (h:c.iY m):c.ref m:=by
 cases c<;>first|exact h|exact h.elim
def ak.xK:ak->Nat->Prop
 |.one c,m=>c.iY m
 |.agg cs,m=>∃c∈cs,c.iY m
 |.br _,_=>False
theorem ak.Tw {x:ak} {m:Nat} (h:x.xK m):x.ref m:=by
 cases x with
 |one c=>exact aj.xJ h
 |agg cs=>obtain⟨c,hc,h⟩:=h;exact⟨c,hc,aj.xJ h⟩
 |br xs=>exact h.elim
theorem AH (hh:∀n,u n->h' n=h n) {p:aj} (hp:∀m,p.iY m->u m):cq h' p=cq h p:=by
 cases p with
 |sl n sz lo len=>simp only[cq,hh n (hp n rfl)]
 |bE n k aE off sz len=>simp only[cq,hh n (hp n rfl)]
 |_=>rfl
theorem L5 (hh:∀n,u n->h' n=h n):∀{l:List aj} (_:∀p∈l,∀m,p.iY m->u m),g7 h' l=g7 h l
 |[],_=>rfl
 |c::cs,hp=>by
  have h1:=AH hh (hp c (by simp))
  have h2:=L5 hh (l:=cs) fun p q=>hp p (List.mem_cons_of_mem _ q)
  simp only[g7,h1,h2]
theorem as3 (hh:∀n,u n->h' n=h n) (hb:∀m cs c n,vv m->h m=some (.box cs)->c∈cs->c.ref n->u n) {x:ak} (hx:∀m,x.xK m->u m) (hv:∀m,x.xK m->vv m):iG h' x=iG h x:=by
 cases x with
 |one c=>cases c with
  |ptr n k sz off=>
   simp only[iG,hh n (hx n rfl)]
   cases hn:h n with
   |none=>rfl
   |some b=>cases b with
    |box cs=>simp only[L5 hh fun p hp m hm=>hb n cs p m (hv n rfl) hn hp (aj.xJ hm)]
    |row gr m sz xs=>rfl
  |cH xs off=>rfl
  |c x=>rfl
  |nil sz=>rfl
  |sl n sz lo len=>simp only[iG];rw[AH hh (p:=.sl n sz lo len) hx]
  |bE n k aE off sz len=>simp only[iG];rw[AH hh (p:=.bE n k aE off sz len) hx]
  |c7 n k aE off sz i=>rfl
  |fn f cF=>rfl
  |bq=>rfl
 |agg cs=>simp only[iG,L5 hh fun p hp m hm=>hx m ⟨p,hp,hm⟩]
 |br xs=>rfl
theorem L4 (hh:∀n,u n->h' n=h n) (hb:∀m cs c n,vv m->h m=some (.box cs)->c∈cs->c.ref n->u n):∀{xs:List ak} (_:∀x∈xs,∀m,x.xK m->u m) (_:∀x∈xs,∀m,x.xK m->vv m),ly h' xs=ly h xs
 |[],_,_=>rfl
 |x::xs,hx,hv=>by
  have h1:=as3 hh hb (hx x (by simp)) (hv x (by simp))
  have h2:=L4 hh hb (xs:=xs) (fun p q=>hx p (List.mem_cons_of_mem _ q)) (fun p q=>hv p (List.mem_cons_of_mem _ q))
  simp only[ly,h1,h2]
theorem amN (hh:∀n,u n->h' n=h n) {md:Mode} {c:aj} (hp:∀m,c.ref m->u m):sC h' md c=sC h md c:=by
 cases c with
 |sl n sz lo len=>simp only[sC,hh n (hp n rfl)]
 |bE n k aE off sz len=>simp only[sC,hh n (hp n rfl)]
 |_=>rfl
theorem aaK (hh:∀n,u n->h' n=h n) (ns:List Nat):∀n,u n->dS h' ns n=dS h ns n:=fun n hn=>by simp only[dS,hh n hn]
theorem RL (hh:∀n,u n->h' n=h n) (ns:List Nat):∀(fs:List (Option Mode)) (cs:List aj),(∀c∈cs,∀m,c.ref m->u m)->j4 h' (dS h' ns) fs cs=j4 h (dS h ns) fs cs
 |[],cs,hc=>by simp only[j4,L5 (aaK hh ns) fun p hp m hm=>hc p hp m (aj.xJ hm)]
 |none::fs,c::cs,hc=>by
  simp only[j4,AH (aaK hh ns) fun m hm=>hc c (by simp) m (aj.xJ hm),RL hh ns fs cs fun p hp=>hc p (by simp[hp])]
 |some md::fs,c::cs,hc=>by
  simp only[j4,amN hh (hc c (by simp)),RL hh ns fs cs fun p hp=>hc p (by simp[hp])]
 |none::_,[],_=>rfl
 |some _::_,[],_=>rfl
theorem ab8 (hh:∀n,u n->h' n=h n) (ns:List Nat):∀(as:List (Bool×List aj)) (sig:aQ),(∀x∈as,∀c∈x.2,∀m,c.ref m->u m)->lR h' (dS h' ns) sig as=lR h (dS h ns) sig as
 |[],_,_=>rfl
 |(ag,cs)::as,sig,hc=>by
  simp only[lR,RL hh ns (aQ.hd sig) cs (hc (ag,cs) (by simp)),ab8 hh ns as (aQ.tl sig) fun x hx=>hc x (by simp[hx])]
theorem RM:∀{fs:List (Option Mode)} {cs:List aj} {n:Nat},n∈nu fs cs->∃c∈cs,c.ref n
 |some _::fs,c::cs,n,hn=>by
  simp only[nu] at hn
  rcases List.mem_append.1 hn with h|h
  ·refine⟨c,by simp,?_⟩
   cases c<;>simp[aj.dJ] at h<;>(subst h;rfl)
  ·obtain⟨c',h1,h2⟩:=RM h
   exact⟨c',by simp[h1],h2⟩
 |none::fs,c::cs,n,hn=>by
  simp only[nu] at hn
  obtain⟨c',h1,h2⟩:=RM hn
  exact⟨c',by simp[h1],h2⟩
 |[],_,n,hn=>by simp[nu] at hn
 |some _::_,[],n,hn=>by simp[nu] at hn
 |none::_,[],n,hn=>by simp[nu] at hn
theorem ab0:∀{as:List (Bool×List aj)} {sig:aQ} {n:Nat},n∈kG sig as->∃x∈as,∃c∈x.2,c.ref n
 |a::as,s::sig,n,hn=>by
  simp only[kG] at hn
  rcases List.mem_append.1 hn with h|h
  ·obtain⟨c,h1,h2⟩:=RM h
   exact⟨a,by simp,c,h1,h2⟩
  ·obtain⟨x,h1,h2⟩:=ab0 h
   exact⟨x,by simp[h1],h2⟩
 |[],s::sig,n,hn=>by simp[kG] at hn
 |as,[],n,hn=>by cases as<;>simp[kG] at hn
theorem abP:∀{as:List ak} {dz:List (Bool×List aj)},qb as=some dz->∀x∈dz,∀c∈x.2,∀m,c.ref m->∃v∈as,v.ref m
 |[],dz,hx,x,hm=>by simp only[qb] at hx;injection hx with hx;subst hx;cases hm
 |v::vs,dz,hx,x,hm=>by
  simp only[qb] at hx
  split at hx
  ·rename_i y ys e1 e2
   injection hx with hx
   subst hx
   intro c hc m hr
   cases hm with
   |head=>exact⟨v,by simp,ak.yy e1 hc hr⟩
   |tail _ hm=>
    obtain⟨v',h1,h2⟩:=abP e2 x hm c hc m hr
    exact⟨v',by simp[h1],h2⟩
  ·cases hx
theorem agn (hh:∀n,u n->h' n=h n) {T:aT} {f:FuncId} {as:List ak} (hx:∀x∈as,∀m,x.ref m->u m):pE T f as h'=pE T f as h:=by
 unfold pE
 cases aT.rZ T.ws f with
 |none=>rfl
 |some M=>
  obtain⟨sig,M⟩:=M
  cases hc:qb as with
  |none=>rfl
  |some dz=>
   have hr:∀x∈dz,∀c∈x.2,∀m,c.ref m->u m:=fun x h1 c h2 m h3=>by
    obtain⟨v,a1,a2⟩:=abP hc x h1 c h2 m h3
    exact hx v a1 m a2
   simp only
   cases hn:kG sig dz with
   |nil=>rfl
   |cons n l=>
    cases l with
    |cons n2 l=>rfl
    |nil=>
     obtain⟨x,h1,c,h2,h3⟩:=ab0 (n:=n) (sig:=sig) (as:=dz) (by rw[hn];simp)
     simp only[ab8 hh [n] dz sig hr,hh n (hr x h1 c h2 n h3)]
theorem acN (T:aT) (d:Option Nat) (op:aH) (ev:MO->ak) (hh:∀n,u n->h' n=h n) (uU:op.FG=true->∀m cs c n,vv m->h m=some (.box cs)->c∈cs->c.ref n->u n)
  (hx:∀x∈op.args,∀m,(ev x).ref m->u m) (w9:∀x∈op.args,∀m,(ev x).ref m->vv m):rd T d op ev h'=rd T d op ev h:=by
 cases op with
 |load ag sz x=>
  have h1:=hx x (by simp[aH.args])
  simp only[rd]
  cases hv:ev x with
  |one p=>rw[hv] at h1;simp only[amI hh (p:=p) h1]
  |_=>rfl
 |gZ x=>
  have h1:=hx x (by simp[aH.args])
  simp only[rd]
  cases hv:ev x with
  |one p=>cases p with
   |ptr n k sz off=>rw[hv] at h1;simp only[hh n (h1 n rfl)]
   |_=>rfl
  |_=>rfl
 |aw off x=>
  have h1:=hx x (by simp[aH.args])
  simp only[rd]
  cases hv:ev x with
  |one p=>cases p with
   |ptr n k sz off=>rw[hv] at h1;simp only[hh n (h1 n rfl)]
   |_=>rfl
  |_=>rfl
 |len x=>
  have h1:=hx x (by simp[aH.args])
  simp only[rd]
  cases hv:ev x with
  |one p=>cases p with
   |sl n sz lo len=>rw[hv] at h1;simp only[hh n (h1 n rfl)]
   |bE n k aE off sz len=>rw[hv] at h1;simp only[AH hh (p:=.bE n k aE off sz len) (fun m hm=>h1 m (aj.xJ hm))]
   |c x=>cases x<;>rfl
   |_=>rfl
  |_=>rfl
 |pk f bQ x=>
  have h1:=hx x (by simp[aH.args])
  simp only[rd]
  cases hv:ev x with
  |one p=>cases p with
   |sl n sz lo len=>rw[hv] at h1;simp only[hh n (h1 n rfl)]
   |c x=>cases x<;>rfl
   |_=>rfl
  |_=>rfl
 |cf sz x i=>
  have h1:=hx x (by simp[aH.args])
  simp only[rd]
  generalize (ev i).dn=q
  cases hv:ev x with
  |one p=>cases p with
   |sl n s lo len=>
    rw[hv] at h1
    have h2:=hh n (h1 n rfl)
    cases q with
    |none=>rfl
    |some q=>simp only[h2]
   |bE n k aE off s len=>
    rw[hv] at h1
    cases q with
    |none=>rfl
    |some q=>simp only[AH hh (p:=.bE n k aE off s len) (fun m hm=>h1 m (aj.xJ hm))]
   |c x=>cases x<;>cases q<;>rfl
   |_=>cases q<;>rfl
  |_=>cases q<;>rfl
 |slice sz x lo hi=>
  have h1:=hx x (by simp[aH.args])
  simp only[rd]
  cases hv:ev x with
  |one p=>cases p with
   |sl n s l0 len=>
    rw[hv] at h1
    have h2:=hh n (h1 n rfl)
    cases lo with
    |none=>simp only[h2]
    |some lo=>
     simp only
     cases (ev lo).dn with
     |none=>rfl
     |some q=>simp only[h2]
   |c x=>cases lo with
    |none=>cases x<;>rfl
    |some lo=>
     simp only
     cases (ev lo).dn<;>cases x<;>rfl
   |_=>cases lo<;>rfl
  |_=>cases lo<;>rfl
 |call m f xs=>
  simp only[rd,BA]
  have go:∀u':Nat->Prop,(∀x∈(aH.call m f xs).args,∀m,(ev x).ref m->u' m)->∀x∈xs.map ev,∀m,x.xK m->u' m:=by
   intro u' hx x zv q hq
   obtain⟨y,hy,rfl⟩:=List.mem_map.1 zv
   exact hx y hy q (ak.Tw hq)
  rw[L4 hh (uU rfl) (go _ hx) (go _ w9)]
 |mV f xs=>
  simp only[rd,uB]
  have go:∀u':Nat->Prop,(∀x∈(aH.mV f xs).args,∀m,(ev x).ref m->u' m)->∀x∈xs.map ev,∀m,x.xK m->u' m:=by
   intro u' hx x zv q hq
   obtain⟨y,hy,rfl⟩:=List.mem_map.1 zv
   exact hx y hy q (ak.Tw hq)
  rw[L4 hh (uU rfl) (go _ hx) (go _ w9)]
 |mz f xs=>rfl
 |mX f xs=>
  have:pE T f (xs.map ev) h'=pE T f (xs.map ev) h:=agn hh fun x zv q hq=>by
   obtain⟨y,hy,rfl⟩:=List.mem_map.1 zv
   exact hx y hy q hq
  simp only[rd,this]
 |mW m x xs=>
  simp only[rd]
  cases hv:ev x with
  |one p=>cases p with
   |fn f cF=>
    simp only[BA]
    have go:∀u':Nat->Prop,(∀y∈(aH.mW m x xs).args,∀m,(ev y).ref m->u' m)->∀y∈xs.map ev++cF.map ak.one,∀m,y.xK m->u' m:=by
     intro u' hx y hym q hq
     rcases List.mem_append.1 hym with hy|hy
     ·obtain⟨z,hz,rfl⟩:=List.mem_map.1 hy
      exact hx z (by simp[aH.args,hz]) q (ak.Tw hq)
     ·obtain⟨z,hz,rfl⟩:=List.mem_map.1 hy
      refine hx x (by simp[aH.args]) q ?_
      rw[hv]
      exact⟨z,hz,hq⟩
    rw[L4 hh (uU rfl) (go _ hx) (go _ w9)]
   |_=>rfl
  |_=>rfl
 |_=>rfl
theorem acM (T:aT) (d:Option Nat) (op:aH) (ev:MO->ak) (hh:∀n,u n->h' n=h n) (hb:∀m cs c n,h m=some (.box cs)->c∈cs->c.ref n->u n)
  (hx:∀x∈op.args,∀m,(ev x).ref m->u m):rd T d op ev h'=rd T d op ev h:=
 acN (vv:=fun _=>True) T d op ev hh (fun _ m cs c n _=>hb m cs c n) hx (fun _ _ _ _=>trivial)
theorem acP (T:aT) (d:Option Nat) (op:aH) (ev:MO->ak) (h h':Nat->Option ar) (hc:op.dL=0):rd T d op ev h'=rd T d op ev h:=by
 cases op<;>simp[aH.dL] at hc<;>rfl
end
end Go.Am
