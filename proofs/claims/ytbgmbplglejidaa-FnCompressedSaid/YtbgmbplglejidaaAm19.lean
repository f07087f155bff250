/- Am19: operations that may change places, continued. No condition. -/
import Derived.Test.YtbgmbplglejidaaAm18
set_option linter.unusedVariables false
namespace Go.Am
def St.we (σ:St) (e:Nat->aj):St:={σ with env:=e}
def vt (e:Nat->aj) (d:Option Nat) (x:Nat->aj):Nat->aj:=
 match d with
 |some n=>av e n (x n)
 |none=>e
theorem ap0 (σ:St):σ.we σ.env=σ:=rfl
theorem tD (σ:St) (e:Nat->aj) (d:Option Nat) (v:aj):(σ.we e).put d v=(σ.put d v).we (vt e d (σ.put d v).env):=by
 cases d with
 |none=>rfl
 |some n=>simp[St.put,St.we,vt,bG]
theorem EQ (σ:St) (e:Nat->aj) (n:Nat) (b:ao):(σ.we e).ins n b=(σ.ins n b).map (·.we e):=by
 unfold St.ins
 by_cases h:σ.used n=true
 ·rw[if_pos h,if_pos (show(σ.we e).used n=true from h)];rfl
 ·rw[if_neg h,if_neg (show¬(σ.we e).used n=true from h)];rfl
theorem yZ:∀(l:List (Nat×ao)) (σ:St) (e:Nat->aj),(σ.we e).cD l=(σ.cD l).map (·.we e)
 |[],σ,e=>rfl
 |(n,b)::l,σ,e=>by
  simp only[St.cD,EQ]
  cases σ.ins n b with
  |none=>rfl
  |some σ1=>exact yZ l σ1 e
theorem apI (σ:St) (e:Nat->aj) (c:ah):(σ.we e).fQ c=(σ.fQ c).map fun x=>(x.1,x.2.1,x.2.2.we e):=by
 cases c with
 |c x=>rfl
 |nil sz=>simp only[St.fQ];split<;>rfl
 |sl n sz lo len=>
  have:(σ.we e).h n=σ.h n:=rfl
  simp only[St.fQ,this]
  cases σ.h n with
  |none=>rfl
  |some b=>cases b with
   |box cs=>rfl
   |row gr m rs xs=>simp only;split<;>rfl
 |_=>rfl
theorem F9:∀(cs:List ah) (σ:St) (e:Nat->aj),(σ.we e).fv cs=(σ.fv cs).map fun x=>(x.1,x.2.1,x.2.2.we e)
 |[],σ,e=>rfl
 |c::cs,σ,e=>by
  simp only[St.fv,apI]
  cases σ.fQ c with
  |none=>rfl
  |some x=>
   obtain⟨x,o,σ1⟩:=x
   simp only[Option.map_some,F9 cs σ1 e]
   cases σ1.fv cs<;>rfl
theorem ahp (σ:St) (e:Nat->aj) (p:ah):(σ.we e).qI p=(σ.qI p).map (·.we e):=by
 cases p with
 |ptr n k sz off=>
  have h3:(σ.we e).h=σ.h:=rfl
  simp only[St.qI,h3]
  cases σ.h n with
  |none=>rfl
  |some b=>
   cases b with
   |row gr m rs xs=>rfl
   |box cs=>
    simp only[F9]
    cases σ.fv cs with
    |none=>rfl
    |some x=>rfl
 |_=>rfl
theorem adC (sz:Nat):∀(vs:List aj) (σ:St) (e:Nat->aj),(σ.we e).lM sz vs=(σ.lM sz vs).map fun x=>(x.1,x.2.1,x.2.2.we e)
 |[],σ,e=>rfl
 |v::vs,σ,e=>by
  simp only[St.lM]
  cases v.cells? with
  |none=>rfl
  |some x=>
   obtain⟨ag,cs⟩:=x
   simp only
   split
   ·simp only[F9]
    cases σ.fv cs with
    |none=>rfl
    |some y=>
     obtain⟨y,o,σ1⟩:=y
     simp only[Option.map_some,adC sz vs σ1 e]
     cases σ1.lM sz vs<;>rfl
   ·rfl
theorem aej (σ:St) (e:Nat->aj) (sz:Nat) (v:aj):qu (σ.we e) sz v=(qu σ sz v).map fun x=>(x.1,x.2.1,x.2.2.we e):=by
 cases v with
 |one v=>cases v with
  |sl a s lo len=>cases lo with
   |zero=>
    have:(σ.we e).h a=σ.h a:=rfl
    simp only[qu,this]
    cases σ.h a with
    |none=>rfl
    |some b=>cases b with
     |box cs=>rfl
     |row gr m rs xs=>cases gr with
      |true=>simp only;split<;>rfl
      |false=>rfl
   |succ lo=>rfl
  |_=>rfl
 |_=>rfl
theorem ael (fl:Bool) (σ:St) (e:Nat->aj) (sz:Nat) (m:Mode) (v:aj):lV fl (σ.we e) sz m v=(lV fl σ sz m v).map fun x=>(x.1,x.2.1,x.2.2.we e):=by
 cases v with
 |one v=>cases v with
  |sl b s lo len=>
   have:(σ.we e).h b=σ.h b:=rfl
   simp only[lV,this]
   cases σ.h b with
   |none=>rfl
   |some b=>cases b with
    |box cs=>rfl
    |row gr m rs xs=>
     simp only
     repeat' split
     all_goals rfl
  |c x=>cases x with
   |list s ys=>
    simp only[lV]
    repeat' split
    all_goals rfl
   |_=>rfl
  |_=>rfl
 |_=>rfl
theorem apr (σ:St) (e:Nat->aj) (n:Nat) (gr:Bool) (m:Mode) (rs:Nat) (xs:List (List C)) (k off:Nat) (el:List C) (vs:List ah):
  nw (σ.we e) n gr m rs xs k off el vs=(nw σ n gr m rs xs k off el vs).map (·.we e):=by
 simp only[nw,F9]
 cases sub el off vs.length with
 |none=>rfl
 |some fu=>
  simp only
  cases σ.fv vs with
  |none=>rfl
  |some x=>
   obtain⟨cs,o,σ1⟩:=x
   have:(σ1.we e).h n=σ1.h n:=rfl
   simp only[Option.map_some,this]
   repeat' split
   all_goals rfl
theorem Cx (T:aO) (d:Option Nat) (op:aH) {ev ev':MO->aj} (h:Nat->Option ao) (br:∀x∈op.args,ev' x=ev x):rd T d op ev' h=rd T d op ev h:=by
 have hl:∀xs:List MO,(∀x∈xs,ev' x=ev x)->xs.map ev'=xs.map ev:=fun xs hx=>List.map_congr_left hx
 have hp:∀(ps:List (Nat×Nat×MO)) (zs:List ah),(∀x∈ps.map (·.2.2),ev' x=ev x)->qf ev' zs ps=qf ev zs ps:=by
  intro ps
  induction ps with
  |nil=>intro zs _;rfl
  |cons p ps ih=>
   intro zs hx
   obtain⟨off,sz,x⟩:=p
   simp only[qf]
   rw[hx x (by simp)]
   cases (ev x).cells? with
   |none=>rfl
   |some y=>
    simp only
    split
    ·exact ih _ fun z hz=>hx z (by simp at hz⊢;exact .inr hz)
    ·rfl
 cases op with
 |build zs ps=>simp only[rd];rw[hp ps zs br]
 |call m f xs=>simp only[rd];rw[hl xs br]
 |mP f xs=>simp only[rd];rw[hl xs br]
 |mR f xs=>simp only[rd];rw[hl xs br]
 |lZ f xs=>simp only[rd];rw[hl xs br]
 |pU f xs=>simp only[rd];rw[hl xs br]
 |mQ m x xs=>simp only[rd];rw[br x (by simp[aH.args]),hl xs fun y hy=>br y (by simp[aH.args,hy])]
 |slice sz x lo hi=>
  have h1:=br x (by simp[aH.args])
  cases lo with
  |none=>cases hi with
   |none=>simp only[rd,h1]
   |some hi=>have h3:=br hi (by simp[aH.args]);simp only[rd,h1,h3]
  |some lo=>
   have h2:=br lo (by simp[aH.args])
   cases hi with
   |none=>simp only[rd,h1,h2]
   |some hi=>have h3:=br hi (by simp[aH.args]);simp only[rd,h1,h2,h3]
 |mv x=>have h1:=br x (by simp[aH.args]);simp only[rd,h1]
 |pick x y z=>have h1:=br x (by simp[aH.args]);have h2:=br y (by simp[aH.args]);have h3:=br z (by simp[aH.args]);simp only[rd,h1,h2,h3]
 |alloc zs=>rfl
 |box sz x=>have h1:=br x (by simp[aH.args]);simp only[rd,h1]
 |fC sz ps=>rfl
 |gb m f xs=>rfl
 |dZ f xs=>rfl
 |load ag sz x=>have h1:=br x (by simp[aH.args]);simp only[rd,h1]
 |store sz x v=>rfl
 |gR x=>have h1:=br x (by simp[aH.args]);simp only[rd,h1]
 |bin op x y=>have h1:=br x (by simp[aH.args]);have h2:=br y (by simp[aH.args]);simp only[rd,h1,h2]
 |pj op x y=>have h1:=br x (by simp[aH.args]);have h2:=br y (by simp[aH.args]);simp only[rd,h1,h2]
 |un op x=>have h1:=br x (by simp[aH.args]);simp only[rd,h1]
 |conv k x=>have h1:=br x (by simp[aH.args]);simp only[rd,h1]
 |kc m sz by_ zs x y=>have h1:=br x (by simp[aH.args]);have h2:=br y (by simp[aH.args]);simp only[rd,h1,h2]
 |ar off x=>have h1:=br x (by simp[aH.args]);simp only[rd,h1]
 |cb sz x y=>have h1:=br x (by simp[aH.args]);have h2:=br y (by simp[aH.args]);simp only[rd,h1,h2]
 |ext i x=>have h1:=br x (by simp[aH.args]);simp only[rd,h1]
 |pz ag off sz x=>have h1:=br x (by simp[aH.args]);simp only[rd,h1]
 |oW f bK x=>have h1:=br x (by simp[aH.args]);simp only[rd,h1]
 |len x=>have h1:=br x (by simp[aH.args]);simp only[rd,h1]
 |append fl sz by_ x y=>rfl
 |tail sz x lo=>rfl
 |nh ag sz x=>rfl
 |copy sz x y=>rfl
 |kV z x=>rfl
 |mm b x y=>have h1:=br x (by simp[aH.args]);have h2:=br y (by simp[aH.args]);simp only[rd,h1,h2]
theorem Ly (σ:St) (e:Nat->aj):(σ.we e).h=σ.h:=rfl
theorem anJ (σ:St) (e:Nat->aj) (it:cR) (x:C):(σ.we e).nX it x=(σ.nX it x).map (·.we e):=by
 cases it with
 |nil sz=>rfl
 |row n=>
  cases x with
  |int k i=>rfl
  |bool b=>rfl
  |list sz xs=>
   simp only[St.nX,Ly]
   cases σ.h n with
   |none=>rfl
   |some b=>
    cases b with
    |box cs=>rfl
    |row gr m rs kR=>simp only;split<;>rfl
 |nest n k off=>
  simp only[St.nX,Ly]
  cases σ.h n with
  |none=>rfl
  |some b=>
   cases b with
   |box cs=>rfl
   |row gr m rs kR=>
    simp only
    cases kR[k]? with
    |none=>rfl
    |some el=>rfl
theorem abO:∀(its:List (cR×Mode)) (eZ:List C) (σ:St) (e:Nat->aj),(σ.we e).qa its eZ=(σ.qa its eZ).map (·.we e)
 |[],[],σ,e=>rfl
 |it::its,x::eZ,σ,e=>by
  simp only[St.qa,anJ]
  cases σ.nX it.1 x with
  |none=>rfl
  |some σ1=>exact abO its eZ σ1 e
 |[],_::_,σ,e=>rfl
 |_::_,[],σ,e=>rfl
theorem aiB (m:Mode) (σ:St) (e:Nat->aj) (nm:Nat) (ds:List Dv):(σ.we e).jK m nm ds=(σ.jK m nm ds).map fun x=>(x.1,x.2.we e):=by
 simp only[P2]
 cases wO m nm ds with
 |none=>rfl
 |some x=>
  simp only[Option.bind_some,yZ]
  cases σ.cD x.2 with
  |none=>rfl
  |some σ1=>rfl
theorem afp (T:aO) (m:Mode) (d:Option Nat) (f:FuncId) (as:List aj) (σ:St) (e:Nat->aj):
  ud T m d f as (σ.we e)=(ud T m d f as σ).map fun τ=>τ.we (vt e d τ.env):=by
 unfold ud
 cases aO.rT T.Ci f with
 |none=>rfl
 |some z=>
  obtain⟨sig,M⟩:=z
  cases pR as with
  |none=>rfl
  |some dz=>
   simp only
   by_cases gz:(kf sig dz).Nodup
   ·rw[if_pos gz,if_pos gz]
    show(match lE σ.h (dQ σ.h (kf sig dz)) sig dz with|some (ds,its)=>_|none=>none)=_
    cases lE σ.h (dQ σ.h (kf sig dz)) sig dz with
    |none=>rfl
    |some z=>
     obtain⟨ds,its⟩:=z
     simp only
     cases M ds with
     |none=>rfl
     |some z=>
      obtain⟨rs,eZ⟩:=z
      simp only[abO]
      cases σ.qa its eZ with
      |none=>rfl
      |some σ1=>
       simp only[Option.map_some,aiB]
       cases σ1.jK m (zp d) rs with
       |none=>rfl
       |some z=>
        obtain⟨ls,σ2⟩:=z
        simp only[Option.map_some,tD]
   ·rw[if_neg gz,if_neg gz];rfl
theorem MK:∀(as:List aj) (σ:St) (e:Nat->aj),(σ.we e).g0 as=(σ.g0 as).map fun x=>(x.1,x.2.1,x.2.2.we e)
 |[],σ,e=>rfl
 |v::as,σ,e=>by
  simp only[St.g0,Ly,F9]
  cases lY σ.h v with
  |some x=>
   obtain⟨n,xs⟩:=x
   simp only[MK as σ e]
   cases σ.g0 as<;>rfl
  |none=>
   simp only
   cases v.cells? with
   |none=>rfl
   |some x=>
    obtain⟨ag,cs⟩:=x
    simp only
    cases σ.fv cs with
    |none=>rfl
    |some y=>
     obtain⟨xs,o,σ1⟩:=y
     simp only[Option.map_some,MK as σ1 e]
     cases σ1.g0 as<;>rfl
theorem anH (σ:St) (e:Nat->aj) (ns:List Nat) (out:List C):(σ.we e).rf ns out=(σ.rf ns out).map (·.we e):=by
 match ns,out with
 |[],[]=>rfl
 |[],_::_=>rfl
 |[n],out=>
  simp only[St.rf,Ly]
  cases σ.h n with
  |none=>rfl
  |some b=>
   cases b with
   |box cs=>simp only;split<;>rfl
   |row gr m rs xs=>rfl
 |_::_::_,out=>rfl
theorem aeA (σ:St) (e:Nat->aj) (d:Option Nat) (rs:List Dv):qv (σ.we e) d rs=(qv σ d rs).map fun τ=>τ.we (vt e d τ.env):=by
 unfold qv
 split
 ·cases d with
  |none=>rfl
  |some q=>
   simp only[EQ]
   cases σ.ins q _ with
   |none=>rfl
   |some σ1=>simp only[Option.map_some,tD]
 ·cases gH rs with
  |none=>rfl
  |some ls=>simp only[Option.map_some,tD]
theorem afo (T:aO) (d:Option Nat) (f:FuncId) (as:List aj) (σ:St) (e:Nat->aj):
  qC T d f as (σ.we e)=(qC T d f as σ).map fun τ=>τ.we (vt e d τ.env):=by
 unfold qC
 rw[MK]
 cases σ.g0 as with
 |none=>rfl
 |some x=>
  obtain⟨ds,ns,σ1⟩:=x
  simp only[Option.map_some]
  cases aO.kw T.vs f with
  |none=>rfl
  |some M=>
   simp only
   cases M ds with
   |none=>rfl
   |some z=>
    obtain⟨rs,out⟩:=z
    simp only[anH]
    cases σ1.rf ns out with
    |none=>rfl
    |some σ2=>exact aeA σ2 e d rs
theorem Nu (T:aO) (d:Option Nat) (op:aH) (σ:St) (e:Nat->aj) (br:∀x∈op.args,(σ.we e).ev x=σ.ev x) (hd:∀sz x v,op=.store sz x v->d=none):
  exec T d op (σ.we e)=(exec T d op σ).map fun τ=>τ.we (vt e d τ.env):=by
 by_cases hc:op.dI<=1
 ·rw[pu T d op _ hc,pu T d op _ hc,Cx T d op _ br]
  show Option.bind (rd T d op σ.ev σ.h) _=_
  cases rd T d op σ.ev σ.h with
  |none=>rfl
  |some x=>
   simp only[Option.bind_some,fin,yZ]
   cases σ.cD x.2 with
   |none=>rfl
   |some σ1=>simp only[Option.map_some,tD]
 ·cases op<;>simp[aH.dI] at hc
  case fC sz ps=>
   have hl:ps.map (σ.we e).ev=ps.map σ.ev:=List.map_congr_left br
   simp only[exec,hl,adC]
   cases d with
   |none=>rfl
   |some n=>
    cases σ.lM sz (ps.map σ.ev) with
    |none=>rfl
    |some x=>
     obtain⟨es,o,σ1⟩:=x
     simp only[Option.map_some,EQ]
     cases σ1.ins n (.row true (if o=true then .ab else .aF) sz es) with
     |none=>rfl
     |some σ2=>simp only[Option.map_some,tD]
  case store sz x v=>
   have h1:=br x (by simp[aH.args])
   have h2:=br v (by simp[aH.args])
   have hd:=hd sz x v rfl
   subst hd
   simp only[exec,h1,h2]
   cases σ.ev x with
   |one p=>cases p with
    |ptr n k aA off=>
     cases (σ.ev v).cells? with
     |none=>rfl
     |some y=>
      obtain⟨ag,vs⟩:=y
      have:(σ.we e).h n=σ.h n:=rfl
      simp only[this]
      split
      ·cases σ.h n with
       |none=>rfl
       |some b=>cases b with
        |box cs=>simp only;split<;>rfl
        |row gr m rs xs=>
         simp only
         split
         ·cases xs[k]? with
          |none=>rfl
          |some el=>simp only[apr];rfl
         ·rfl
      ·rfl
    |cV n k aA off s i=>
     cases (σ.ev v).cells? with
     |none=>rfl
     |some y=>
      obtain⟨ag,vs⟩:=y
      have:(σ.we e).h n=σ.h n:=rfl
      simp only[this]
      split
      ·cases σ.h n with
       |none=>rfl
       |some b=>cases b with
        |box cs=>rfl
        |row gr m rs xs=>cases m with
         |live=>
          simp only
          split
          ·cases vk xs k off s i vs<;>rfl
          ·rfl
         |_=>rfl
      ·rfl
    |_=>cases (σ.ev v).cells?<;>rfl
   |agg cs=>cases (σ.ev v).cells?<;>rfl
   |bq cs=>cases (σ.ev v).cells?<;>rfl
  case append fl sz by_ x y=>
   have h1:=br x (by simp[aH.args])
   have h2:=br y (by simp[aH.args])
   simp only[exec,h1,h2,aej]
   cases d with
   |none=>rfl
   |some n=>
    simp only
    cases qu σ sz (σ.ev x) with
    |none=>rfl
    |some z=>
     obtain⟨xs,m,σ1⟩:=z
     simp only[Option.map_some,ael]
     cases lV fl σ1 sz m (σ.ev y) with
     |none=>rfl
     |some z=>
      obtain⟨ys,m2,σ2⟩:=z
      simp only[Option.map_some]
      split
      ·simp only[EQ]
       cases σ2.ins n (.row true m2 sz (xs++ys)) with
       |none=>rfl
       |some gW=>simp only[Option.map_some,tD]
      ·rfl
  case copy sz x y=>
   have h1:=br x (by simp[aH.args])
   have h2:=br y (by simp[aH.args])
   have h3:(σ.we e).h=σ.h:=rfl
   simp only[exec,h1,h2,h3]
   cases σ.ev x with
   |one p=>cases p with
    |sl n s lo len=>
     cases σ.ev y with
     |one c=>
      simp only
      cases σ.h n with
      |none=>rfl
      |some b=>cases b with
       |box cs=>rfl
       |row gr m rs xs=>
        cases cq σ.h c with
        |none=>rfl
        |some q=>cases q with
         |list s' ys=>
          simp only
          split
          ·exact congrArg some (tD (σ.dB n _) e d _)
          ·rfl
         |_=>rfl
     |_=>rfl
    |_=>rfl
   |_=>rfl
  case kV z x=>
   have h1:=br x (by simp[aH.args])
   have h3:(σ.we e).h=σ.h:=rfl
   simp only[exec,h1,h3]
   cases σ.ev x with
   |one p=>cases p with
    |sl n s lo len=>
     simp only
     cases σ.h n with
     |none=>rfl
     |some b=>cases b with
      |box cs=>rfl
      |row gr m rs xs=>
       simp only
       split
       ·exact congrArg some (tD (σ.dB n _) e d _)
       ·rfl
    |_=>rfl
   |_=>rfl
  case nh ag sz x=>
   have h1:=br x (by simp[aH.args])
   simp only[exec,h1]
   cases σ.ev x with
   |one p=>
    simp only[ahp]
    cases σ.qI p with
    |none=>rfl
    |some σ1=>
     simp only[Option.map_some]
     have h3:(σ1.we e).h=σ1.h:=rfl
     rw[h3]
     cases loadAt σ1.h p sz with
     |none=>rfl
     |some cs=>exact congrArg some (tD σ1 e d _)
   |_=>rfl
  case tail sz x y=>
   have h1:=br x (by simp[aH.args])
   have h2:=br y (by simp[aH.args])
   simp only[exec,h1,h2]
   cases d with
   |none=>rfl
   |some n=>
    generalize (σ.ev y).dj=q
    cases hv:σ.ev x with
    |one p=>cases p with
     |sl a s lo len=>cases lo with
      |zero=>
       cases q with
       |none=>rfl
       |some l=>
        simp only
        have:(σ.we e).h a=σ.h a:=rfl
        rw[this]
        cases σ.h a with
        |none=>rfl
        |some b=>cases b with
         |box cs=>rfl
         |row gr m rs xs=>cases gr with
          |false=>rfl
          |true=>
           simp only
           split
           ·rw[show(σ.we e).del a=(σ.del a).we e from rfl,EQ]
            cases (σ.del a).ins n (.row true m sz (xs.drop l.toNat)) with
            |none=>rfl
            |some gW=>simp only[Option.map_some,tD]
           ·rfl
      |succ lo=>cases q<;>rfl
     |_=>cases q<;>rfl
    |_=>cases q<;>rfl
  case gb m f xs=>
   have hl:xs.map (σ.we e).ev=xs.map σ.ev:=List.map_congr_left br
   simp only[exec,hl,afp]
  case dZ f xs=>
   have hl:xs.map (σ.we e).ev=xs.map σ.ev:=List.map_congr_left br
   simp only[exec,hl,afo]
section
variable {u vv:Nat->Prop} {h h':Nat->Option ao}
theorem aj0 (hh:∀n,u n->h' n=h n) {p:ah} (hp:∀m,p.ref m->u m) (sz:Nat):loadAt h' p sz=loadAt h p sz:=by
 cases p with
 |ptr n k aA off=>simp only[loadAt,hh n (hp n rfl)]
 |_=>rfl
theorem ah.xa {c:ah} {m:Nat} (h:c.iH m):c.ref m:=by
 cases c<;>first|exact h|exact h.elim
def aj.xb:aj->Nat->Prop
 |.one c,m=>c.iH m
 |.agg cs,m=>∃c∈cs,c.iH m
 |.bq _,_=>False
theorem aj.Sw {x:aj} {m:Nat} (h:x.xb m):x.ref m:=by
 cases x with
 |one c=>exact ah.xa h
 |agg cs=>obtain⟨c,hc,h⟩:=h;exact⟨c,hc,ah.xa h⟩
 |bq xs=>exact h.elim
theorem zW (hh:∀n,u n->h' n=h n) {p:ah} (hp:∀m,p.iH m->u m):cq h' p=cq h p:=by
 cases p with
 |sl n sz lo len=>simp only[cq,hh n (hp n rfl)]
 |bx n k aA off sz len=>simp only[cq,hh n (hp n rfl)]
 |_=>rfl
theorem Lu (hh:∀n,u n->h' n=h n):∀{l:List ah} (_:∀p∈l,∀m,p.iH m->u m),gU h' l=gU h l
 |[],_=>rfl
 |c::cs,hp=>by
  have h1:=zW hh (hp c (by simp))
  have h2:=Lu hh (l:=cs) fun p q=>hp p (List.mem_cons_of_mem _ q)
  simp only[gU,h1,h2]
theorem apX (hh:∀n,u n->h' n=h n) (hb:∀m cs c n,vv m->h m=some (.box cs)->c∈cs->c.ref n->u n) {x:aj} (hx:∀m,x.xb m->u m) (hv:∀m,x.xb m->vv m):iv h' x=iv h x:=by
 cases x with
 |one c=>cases c with
  |ptr n k sz off=>
   simp only[iv,hh n (hx n rfl)]
   cases hn:h n with
   |none=>rfl
   |some b=>cases b with
    |box cs=>simp only[Lu hh fun p hp m hm=>hb n cs p m (hv n rfl) hn hp (ah.xa hm)]
    |row gr m sz xs=>rfl
  |cB xs off=>rfl
  |c x=>rfl
  |nil sz=>rfl
  |sl n sz lo len=>simp only[iv];rw[zW hh (p:=.sl n sz lo len) hx]
  |bx n k aA off sz len=>simp only[iv];rw[zW hh (p:=.bx n k aA off sz len) hx]
  |cV n k aA off sz i=>rfl
  |fn f cA=>rfl
  |bn=>rfl
 |agg cs=>simp only[iv,Lu hh fun p hp m hm=>hx m ⟨p,hp,hm⟩]
 |bq xs=>rfl
theorem Lt (hh:∀n,u n->h' n=h n) (hb:∀m cs c n,vv m->h m=some (.box cs)->c∈cs->c.ref n->u n):∀{xs:List aj} (_:∀x∈xs,∀m,x.xb m->u m) (_:∀x∈xs,∀m,x.xb m->vv m),kO h' xs=kO h xs
 |[],_,_=>rfl
 |x::xs,hx,hv=>by
  have h1:=apX hh hb (hx x (by simp)) (hv x (by simp))
  have h2:=Lt hh hb (xs:=xs) (fun p q=>hx p (List.mem_cons_of_mem _ q)) (fun p q=>hv p (List.mem_cons_of_mem _ q))
  simp only[kO,h1,h2]
theorem aj5 (hh:∀n,u n->h' n=h n) {md:Mode} {c:ah} (hp:∀m,c.ref m->u m):sy h' md c=sy h md c:=by
 cases c with
 |sl n sz lo len=>simp only[sy,hh n (hp n rfl)]
 |bx n k aA off sz len=>simp only[sy,hh n (hp n rfl)]
 |_=>rfl
theorem Z6 (hh:∀n,u n->h' n=h n) (ns:List Nat):∀n,u n->dQ h' ns n=dQ h ns n:=fun n hn=>by simp only[dQ,hh n hn]
theorem QP (hh:∀n,u n->h' n=h n) (ns:List Nat):∀(fs:List (Option Mode)) (cs:List ah),(∀c∈cs,∀m,c.ref m->u m)->jN h' (dQ h' ns) fs cs=jN h (dQ h ns) fs cs
 |[],cs,hc=>by simp only[jN,Lu (Z6 hh ns) fun p hp m hm=>hc p hp m (ah.xa hm)]
 |none::fs,c::cs,hc=>by
  simp only[jN,zW (Z6 hh ns) fun m hm=>hc c (by simp) m (ah.xa hm),QP hh ns fs cs fun p hp=>hc p (by simp[hp])]
 |some md::fs,c::cs,hc=>by
  simp only[jN,aj5 hh (hc c (by simp)),QP hh ns fs cs fun p hp=>hc p (by simp[hp])]
 |none::_,[],_=>rfl
 |some _::_,[],_=>rfl
theorem abe (hh:∀n,u n->h' n=h n) (ns:List Nat):∀(as:List (Bool×List ah)) (sig:aP),(∀x∈as,∀c∈x.2,∀m,c.ref m->u m)->lE h' (dQ h' ns) sig as=lE h (dQ h ns) sig as
 |[],_,_=>rfl
 |(ag,cs)::as,sig,hc=>by
  simp only[lE,QP hh ns (aP.hd sig) cs (hc (ag,cs) (by simp)),abe hh ns as (aP.tl sig) fun x hx=>hc x (by simp[hx])]
theorem QQ:∀{fs:List (Option Mode)} {cs:List ah} {n:Nat},n∈nk fs cs->∃c∈cs,c.ref n
 |some _::fs,c::cs,n,hn=>by
  simp only[nk] at hn
  rcases List.mem_append.1 hn with h|h
  ·refine⟨c,by simp,?_⟩
   cases c<;>simp[ah.dF] at h<;>(subst h;rfl)
  ·obtain⟨c',h1,h2⟩:=QQ h
   exact⟨c',by simp[h1],h2⟩
 |none::fs,c::cs,n,hn=>by
  simp only[nk] at hn
  obtain⟨c',h1,h2⟩:=QQ hn
  exact⟨c',by simp[h1],h2⟩
 |[],_,n,hn=>by simp[nk] at hn
 |some _::_,[],n,hn=>by simp[nk] at hn
 |none::_,[],n,hn=>by simp[nk] at hn
theorem aa4:∀{as:List (Bool×List ah)} {sig:aP} {n:Nat},n∈kf sig as->∃x∈as,∃c∈x.2,c.ref n
 |a::as,s::sig,n,hn=>by
  simp only[kf] at hn
  rcases List.mem_append.1 hn with h|h
  ·obtain⟨c,h1,h2⟩:=QQ h
   exact⟨a,by simp,c,h1,h2⟩
  ·obtain⟨x,h1,h2⟩:=aa4 h
   exact⟨x,by simp[h1],h2⟩
 |[],s::sig,n,hn=>by simp[kf] at hn
 |as,[],n,hn=>by cases as<;>simp[kf] at hn
theorem aaU:∀{as:List aj} {dz:List (Bool×List ah)},pR as=some dz->∀x∈dz,∀c∈x.2,∀m,c.ref m->∃v∈as,v.ref m
 |[],dz,hx,x,hm=>by simp only[pR] at hx;injection hx with hx;subst hx;cases hm
 |v::vs,dz,hx,x,hm=>by
  simp only[pR] at hx
  split at hx
  ·rename_i y ys e1 e2
   injection hx with hx
   subst hx
   intro c hc m hr
   cases hm with
   |head=>exact⟨v,by simp,aj.xY e1 hc hr⟩
   |tail _ hm=>
    obtain⟨v',h1,h2⟩:=aaU e2 x hm c hc m hr
    exact⟨v',by simp[h1],h2⟩
  ·cases hx
theorem afr (hh:∀n,u n->h' n=h n) {T:aO} {f:FuncId} {as:List aj} (hx:∀x∈as,∀m,x.ref m->u m):pq T f as h'=pq T f as h:=by
 unfold pq
 cases aO.rU T.ws f with
 |none=>rfl
 |some M=>
  obtain⟨sig,M⟩:=M
  cases hc:pR as with
  |none=>rfl
  |some dz=>
   have hr:∀x∈dz,∀c∈x.2,∀m,c.ref m->u m:=fun x h1 c h2 m h3=>by
    obtain⟨v,a1,a2⟩:=aaU hc x h1 c h2 m h3
    exact hx v a1 m a2
   simp only
   cases hn:kf sig dz with
   |nil=>rfl
   |cons n l=>
    cases l with
    |cons n2 l=>rfl
    |nil=>
     obtain⟨x,h1,c,h2,h3⟩:=aa4 (n:=n) (sig:=sig) (as:=dz) (by rw[hn];simp)
     simp only[abe hh [n] dz sig hr,hh n (hr x h1 c h2 n h3)]
theorem abV (T:aO) (d:Option Nat) (op:aH) (ev:MO->aj) (hh:∀n,u n->h' n=h n) (uv:op.ER=true->∀m cs c n,vv m->h m=some (.box cs)->c∈cs->c.ref n->u n)
  (hx:∀x∈op.args,∀m,(ev x).ref m->u m) (wG:∀x∈op.args,∀m,(ev x).ref m->vv m):rd T d op ev h'=rd T d op ev h:=by
 cases op with
 |load ag sz x=>
  have h1:=hx x (by simp[aH.args])
  simp only[rd]
  cases hv:ev x with
  |one p=>rw[hv] at h1;simp only[aj0 hh (p:=p) h1]
  |_=>rfl
 |gR x=>
  have h1:=hx x (by simp[aH.args])
  simp only[rd]
  cases hv:ev x with
  |one p=>cases p with
   |ptr n k sz off=>rw[hv] at h1;simp only[hh n (h1 n rfl)]
   |_=>rfl
  |_=>rfl
 |ar off x=>
  have h1:=hx x (by simp[aH.args])
  simp only[rd]
  cases hv:ev x with
  |one p=>cases p with
   |ptr n k sz off=>rw[hv] at h1;simp only[hh n (h1 n rfl)]
   |_=>rfl
  |_=>rfl
 |len x=>
  have h1:=hx x (by simp[aH.args])
  simp only[rd]
  cases hv:ev x with
  |one p=>cases p with
   |sl n sz lo len=>rw[hv] at h1;simp only[hh n (h1 n rfl)]
   |bx n k aA off sz len=>rw[hv] at h1;simp only[zW hh (p:=.bx n k aA off sz len) (fun m hm=>h1 m (ah.xa hm))]
   |c x=>cases x<;>rfl
   |_=>rfl
  |_=>rfl
 |oW f bK x=>
  have h1:=hx x (by simp[aH.args])
  simp only[rd]
  cases hv:ev x with
  |one p=>cases p with
   |sl n sz lo len=>rw[hv] at h1;simp only[hh n (h1 n rfl)]
   |c x=>cases x<;>rfl
   |_=>rfl
  |_=>rfl
 |cb sz x i=>
  have h1:=hx x (by simp[aH.args])
  simp only[rd]
  generalize (ev i).dj=q
  cases hv:ev x with
  |one p=>cases p with
   |sl n s lo len=>
    rw[hv] at h1
    have h2:=hh n (h1 n rfl)
    cases q with
    |none=>rfl
    |some q=>simp only[h2]
   |bx n k aA off s len=>
    rw[hv] at h1
    cases q with
    |none=>rfl
    |some q=>simp only[zW hh (p:=.bx n k aA off s len) (fun m hm=>h1 m (ah.xa hm))]
   |c x=>cases x<;>cases q<;>rfl
   |_=>cases q<;>rfl
  |_=>cases q<;>rfl
 |slice sz x lo hi=>
  have h1:=hx x (by simp[aH.args])
  simp only[rd]
  cases hv:ev x with
  |one p=>cases p with
   |sl n s l0 len=>
    rw[hv] at h1
    have h2:=hh n (h1 n rfl)
    cases lo with
    |none=>simp only[h2]
    |some lo=>
     simp only
     cases (ev lo).dj with
     |none=>rfl
     |some q=>simp only[h2]
   |c x=>cases lo with
    |none=>cases x<;>rfl
    |some lo=>
     simp only
     cases (ev lo).dj<;>cases x<;>rfl
   |_=>cases lo<;>rfl
  |_=>cases lo<;>rfl
 |call m f xs=>
  simp only[rd,AP]
  have go:∀u':Nat->Prop,(∀x∈(aH.call m f xs).args,∀m,(ev x).ref m->u' m)->∀x∈xs.map ev,∀m,x.xb m->u' m:=by
   intro u' hx x yS q hq
   obtain⟨y,hy,rfl⟩:=List.mem_map.1 yS
   exact hx y hy q (aj.Sw hq)
  rw[Lt hh (uv rfl) (go _ hx) (go _ wG)]
 |mP f xs=>
  simp only[rd,tZ]
  have go:∀u':Nat->Prop,(∀x∈(aH.mP f xs).args,∀m,(ev x).ref m->u' m)->∀x∈xs.map ev,∀m,x.xb m->u' m:=by
   intro u' hx x yS q hq
   obtain⟨y,hy,rfl⟩:=List.mem_map.1 yS
   exact hx y hy q (aj.Sw hq)
  rw[Lt hh (uv rfl) (go _ hx) (go _ wG)]
 |lZ f xs=>rfl
 |mR f xs=>
  have:pq T f (xs.map ev) h'=pq T f (xs.map ev) h:=afr hh fun x yS q hq=>by
   obtain⟨y,hy,rfl⟩:=List.mem_map.1 yS
   exact hx y hy q hq
  simp only[rd,this]
 |mQ m x xs=>
  simp only[rd]
  cases hv:ev x with
  |one p=>cases p with
   |fn f cA=>
    simp only[AP]
    have go:∀u':Nat->Prop,(∀y∈(aH.mQ m x xs).args,∀m,(ev y).ref m->u' m)->∀y∈xs.map ev++cA.map aj.one,∀m,y.xb m->u' m:=by
     intro u' hx y hym q hq
     rcases List.mem_append.1 hym with hy|hy
     ·obtain⟨z,hz,rfl⟩:=List.mem_map.1 hy
      exact hx z (by simp[aH.args,hz]) q (aj.Sw hq)
     ·obtain⟨z,hz,rfl⟩:=List.mem_map.1 hy
      refine hx x (by simp[aH.args]) q ?_
      rw[hv]
      exact⟨z,hz,hq⟩
    rw[Lt hh (uv rfl) (go _ hx) (go _ wG)]
   |_=>rfl
  |_=>rfl
 |_=>rfl
theorem abU (T:aO) (d:Option Nat) (op:aH) (ev:MO->aj) (hh:∀n,u n->h' n=h n) (hb:∀m cs c n,h m=some (.box cs)->c∈cs->c.ref n->u n)
  (hx:∀x∈op.args,∀m,(ev x).ref m->u m):rd T d op ev h'=rd T d op ev h:=
 abV (vv:=fun _=>True) T d op ev hh (fun _ m cs c n _=>hb m cs c n) hx (fun _ _ _ _=>trivial)
theorem abX (T:aO) (d:Option Nat) (op:aH) (ev:MO->aj) (h h':Nat->Option ao) (hc:op.dI=0):rd T d op ev h'=rd T d op ev h:=by
 cases op<;>simp[aH.dI] at hc<;>rfl
end
end Go.Am
