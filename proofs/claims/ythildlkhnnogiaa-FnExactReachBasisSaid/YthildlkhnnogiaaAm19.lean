/- Am19: operations that may change places, continued. No condition. -/
import Derived.Test.YthildlkhnnogiaaAm18
set_option linter.unusedVariables false
namespace Go.Am
def St.we (σ:St) (e:Nat->ah):St:={σ with env:=e}
def sH (e:Nat->ah) (d:Option Nat) (x:Nat->ah):Nat->ah:=
 match d with
 |some n=>ao e n (x n)
 |none=>e
theorem amM (σ:St):σ.we σ.env=σ:=rfl
theorem sn (σ:St) (e:Nat->ah) (d:Option Nat) (v:ah):(σ.we e).put d v=(σ.put d v).we (sH e d (σ.put d v).env):=by
 cases d with
 |none=>rfl
 |some n=>simp[St.put,St.we,sH,bo]
theorem E6 (σ:St) (e:Nat->ah) (n:Nat) (b:aj):(σ.we e).ins n b=(σ.ins n b).map (·.we e):=by
 unfold St.ins
 by_cases h:σ.used n=true
 ·rw[if_pos h,if_pos (show(σ.we e).used n=true from h)];rfl
 ·rw[if_neg h,if_neg (show¬(σ.we e).used n=true from h)];rfl
theorem zO:∀(l:List (Nat×aj)) (σ:St) (e:Nat->ah),(σ.we e).cr l=(σ.cr l).map (·.we e)
 |[],σ,e=>rfl
 |(n,b)::l,σ,e=>by
  simp only[St.cr,E6]
  cases σ.ins n b with
  |none=>rfl
  |some σ1=>exact zO l σ1 e
theorem amA (σ:St) (e:Nat->ah) (c:ab):(σ.we e).eM c=(σ.eM c).map fun x=>(x.1,x.2.1,x.2.2.we e):=by
 cases c with
 |c x=>rfl
 |nil sz=>simp only[St.eM];split<;>rfl
 |sl n sz lo len=>
  have:(σ.we e).h n=σ.h n:=rfl
  simp only[St.eM,this]
  cases σ.h n with
  |none=>rfl
  |some b=>cases b with
   |box cs=>rfl
   |row gr m rs xs=>simp only;split<;>rfl
 |_=>rfl
theorem Gl:∀(cs:List ab) (σ:St) (e:Nat->ah),(σ.we e).fi cs=(σ.fi cs).map fun x=>(x.1,x.2.1,x.2.2.we e)
 |[],σ,e=>rfl
 |c::cs,σ,e=>by
  simp only[St.fi,amA]
  cases σ.eM c with
  |none=>rfl
  |some x=>
   obtain⟨x,o,σ1⟩:=x
   simp only[Option.map_some,Gl cs σ1 e]
   cases σ1.fi cs<;>rfl
theorem ae2 (σ:St) (e:Nat->ah) (p:ab):(σ.we e).qB p=(σ.qB p).map (·.we e):=by
 cases p with
 |ptr n k sz off=>
  have h3:(σ.we e).h=σ.h:=rfl
  simp only[St.qB,h3]
  cases σ.h n with
  |none=>rfl
  |some b=>
   cases b with
   |row gr m rs xs=>rfl
   |box cs=>
    simp only[Gl]
    cases σ.fi cs with
    |none=>rfl
    |some x=>rfl
 |_=>rfl
theorem abC (sz:Nat):∀(vs:List ah) (σ:St) (e:Nat->ah),(σ.we e).kL sz vs=(σ.kL sz vs).map fun x=>(x.1,x.2.1,x.2.2.we e)
 |[],σ,e=>rfl
 |v::vs,σ,e=>by
  simp only[St.kL]
  cases v.cells? with
  |none=>rfl
  |some x=>
   obtain⟨ag,cs⟩:=x
   simp only
   split
   ·simp only[Gl]
    cases σ.fi cs with
    |none=>rfl
    |some y=>
     obtain⟨y,o,σ1⟩:=y
     simp only[Option.map_some,abC sz vs σ1 e]
     cases σ1.kL sz vs<;>rfl
   ·rfl
theorem ab5 (σ:St) (e:Nat->ah) (sz:Nat) (v:ah):qi (σ.we e) sz v=(qi σ sz v).map fun x=>(x.1,x.2.1,x.2.2.we e):=by
 cases v with
 |one v=>cases v with
  |sl a s lo len=>cases lo with
   |zero=>
    have:(σ.we e).h a=σ.h a:=rfl
    simp only[qi,this]
    cases σ.h a with
    |none=>rfl
    |some b=>cases b with
     |box cs=>rfl
     |row gr m rs xs=>cases gr with
      |true=>simp only;split<;>rfl
      |false=>rfl
   |succ lo=>rfl
  |_=>rfl
 |_=>rfl
theorem ab7 (fl:Bool) (σ:St) (e:Nat->ah) (sz:Nat) (m:Mode) (v:ah):ko fl (σ.we e) sz m v=(ko fl σ sz m v).map fun x=>(x.1,x.2.1,x.2.2.we e):=by
 cases v with
 |one v=>cases v with
  |sl b s lo len=>
   have:(σ.we e).h b=σ.h b:=rfl
   simp only[ko,this]
   cases σ.h b with
   |none=>rfl
   |some b=>cases b with
    |box cs=>rfl
    |row gr m rs xs=>
     simp only
     repeat' split
     all_goals rfl
  |c x=>cases x with
   |list s ys=>
    simp only[ko]
    repeat' split
    all_goals rfl
   |_=>rfl
  |_=>rfl
 |_=>rfl
theorem amh (σ:St) (e:Nat->ah) (n:Nat) (gr:Bool) (m:Mode) (rs:Nat) (xs:List (List C)) (k off:Nat) (el:List C) (vs:List ab):
  mQ (σ.we e) n gr m rs xs k off el vs=(mQ σ n gr m rs xs k off el vs).map (·.we e):=by
 simp only[mQ,Gl]
 cases sub el off vs.length with
 |none=>rfl
 |some f8=>
  simp only
  cases σ.fi vs with
  |none=>rfl
  |some x=>
   obtain⟨cs,o,σ1⟩:=x
   have:(σ1.we e).h n=σ1.h n:=rfl
   simp only[Option.map_some,this]
   repeat' split
   all_goals rfl
theorem CI (T:aF) (d:Option Nat) (op:aI) {ev ev':MO->ah} (h:Nat->Option aj) (bu:∀x∈op.args,ev' x=ev x):rd T d op ev' h=rd T d op ev h:=by
 have hl:∀xs:List MO,(∀x∈xs,ev' x=ev x)->xs.map ev'=xs.map ev:=fun xs hx=>List.map_congr_left hx
 have hp:∀(ps:List (Nat×Nat×MO)) (zs:List ab),(∀x∈ps.map (·.2.2),ev' x=ev x)->pZ ev' zs ps=pZ ev zs ps:=by
  intro ps
  induction ps with
  |nil=>intro zs _;rfl
  |cons p ps ih=>
   intro zs hx
   obtain⟨off,sz,x⟩:=p
   simp only[pZ]
   rw[hx x (by simp)]
   cases (ev x).cells? with
   |none=>rfl
   |some y=>
    simp only
    split
    ·exact ih _ fun z hz=>hx z (by simp at hz⊢;exact .inr hz)
    ·rfl
 cases op with
 |build zs ps=>simp only[rd];rw[hp ps zs bu]
 |call m f xs=>simp only[rd];rw[hl xs bu]
 |lT f xs=>simp only[rd];rw[hl xs bu]
 |lW f xs=>simp only[rd];rw[hl xs bu]
 |lU f xs=>simp only[rd];rw[hl xs bu]
 |pR f xs=>simp only[rd];rw[hl xs bu]
 |lV m x xs=>simp only[rd];rw[bu x (by simp[aI.args]),hl xs fun y hy=>bu y (by simp[aI.args,hy])]
 |slice sz x lo hi=>
  have h1:=bu x (by simp[aI.args])
  cases lo with
  |none=>cases hi with
   |none=>simp only[rd,h1]
   |some hi=>have h3:=bu hi (by simp[aI.args]);simp only[rd,h1,h3]
  |some lo=>
   have h2:=bu lo (by simp[aI.args])
   cases hi with
   |none=>simp only[rd,h1,h2]
   |some hi=>have h3:=bu hi (by simp[aI.args]);simp only[rd,h1,h2,h3]
 |mv x=>have h1:=bu x (by simp[aI.args]);simp only[rd,h1]
 |pick x y z=>have h1:=bu x (by simp[aI.args]);have h2:=bu y (by simp[aI.args]);have h3:=bu z (by simp[aI.args]);simp only[rd,h1,h2,h3]
 |alloc zs=>rfl
 |box sz x=>have h1:=bu x (by simp[aI.args]);simp only[rd,h1]
 |fF sz ps=>rfl
 |fN m f xs=>rfl
 |nX m f x xs=>rfl
 |lY m f xs=>rfl
 |iA f xs=>rfl
 |load ag sz x=>have h1:=bu x (by simp[aI.args]);simp only[rd,h1]
 |store sz x v=>rfl
 |oG x=>have h1:=bu x (by simp[aI.args]);simp only[rd,h1]
 |bin op x y=>have h1:=bu x (by simp[aI.args]);have h2:=bu y (by simp[aI.args]);simp only[rd,h1,h2]
 |oZ op x y=>have h1:=bu x (by simp[aI.args]);have h2:=bu y (by simp[aI.args]);simp only[rd,h1,h2]
 |un op x=>have h1:=bu x (by simp[aI.args]);simp only[rd,h1]
 |conv k x=>have h1:=bu x (by simp[aI.args]);simp only[rd,h1]
 |lK m sz by_ zs x y=>have h1:=bu x (by simp[aI.args]);have h2:=bu y (by simp[aI.args]);simp only[rd,h1,h2]
 |aC off x=>have h1:=bu x (by simp[aI.args]);simp only[rd,h1]
 |cH sz x y=>have h1:=bu x (by simp[aI.args]);have h2:=bu y (by simp[aI.args]);simp only[rd,h1,h2]
 |ext i x=>have h1:=bu x (by simp[aI.args]);simp only[rd,h1]
 |n8 ag off sz x=>have h1:=bu x (by simp[aI.args]);simp only[rd,h1]
 |nJ f bU x=>have h1:=bu x (by simp[aI.args]);simp only[rd,h1]
 |len x=>have h1:=bu x (by simp[aI.args]);simp only[rd,h1]
 |append fl sz by_ x y=>rfl
 |tail sz x lo=>rfl
 |oE ag sz x=>rfl
 |copy sz x y=>rfl
 |kq z x=>rfl
 |mm b x y=>have h1:=bu x (by simp[aI.args]);have h2:=bu y (by simp[aI.args]);simp only[rd,h1,h2]
theorem K8 (σ:St) (e:Nat->ah):(σ.we e).h=σ.h:=rfl
theorem akX (σ:St) (e:Nat->ah) (it:cq) (x:C):(σ.we e).nG it x=(σ.nG it x).map (·.we e):=by
 cases it with
 |nil sz=>rfl
 |row n=>
  cases x with
  |int k i=>rfl
  |bool b=>rfl
  |list sz xs=>
   simp only[St.nG,K8]
   cases σ.h n with
   |none=>rfl
   |some b=>
    cases b with
    |box cs=>rfl
    |row gr m rs hZ=>simp only;split<;>rfl
 |nest n k off=>
  simp only[St.nG,K8]
  cases σ.h n with
  |none=>rfl
  |some b=>
   cases b with
   |box cs=>rfl
   |row gr m rs hZ=>
    simp only
    cases hZ[k]? with
    |none=>rfl
    |some el=>rfl
theorem Rk:∀(its:List (cq×Mode)) (cM:List C) (σ:St) (e:Nat->ah),(σ.we e).mL its cM=(σ.mL its cM).map (·.we e)
 |[],[],σ,e=>rfl
 |it::its,x::cM,σ,e=>by
  simp only[St.mL,akX]
  cases σ.nG it.1 x with
  |none=>rfl
  |some σ1=>exact Rk its cM σ1 e
 |[],_::_,σ,e=>rfl
 |_::_,[],σ,e=>rfl
theorem Yq (m:Mode) (σ:St) (e:Nat->ah) (nm:Nat) (ds:List Dv):(σ.we e).iq m nm ds=(σ.iq m nm ds).map fun x=>(x.1,x.2.we e):=by
 simp only[Pg]
 cases xu m nm ds with
 |none=>rfl
 |some x=>
  simp only[Option.bind_some,zO]
  cases σ.cr x.2 with
  |none=>rfl
  |some σ1=>rfl
theorem Wa (T:aF) (m:Mode) (d:Option Nat) (f:FuncId) (as:List ah) (σ:St) (e:Nat->ah):
  qu T m d f as (σ.we e)=(qu T m d f as σ).map fun τ=>τ.we (sH e d τ.env):=by
 unfold qu
 cases aF.me T.tZ f with
 |none=>rfl
 |some z=>
  obtain⟨sig,M⟩:=z
  cases pM as with
  |none=>rfl
  |some bY=>
   simp only
   by_cases d7:(nD sig bY).Nodup
   ·rw[if_pos d7,if_pos d7]
    show(match kH σ.h (cB σ.h (nD sig bY)) sig bY with|some (ds,its)=>_|none=>none)=_
    cases kH σ.h (cB σ.h (nD sig bY)) sig bY with
    |none=>rfl
    |some z=>
     obtain⟨ds,its⟩:=z
     simp only
     cases M ds with
     |none=>rfl
     |some z=>
      obtain⟨rs,cM⟩:=z
      simp only[Rk]
      cases σ.mL its cM with
      |none=>rfl
      |some σ1=>
       simp only[Option.map_some,Yq]
       cases σ1.iq m (iw d) rs with
       |none=>rfl
       |some z=>
        obtain⟨ls,σ2⟩:=z
        simp only[Option.map_some,sn]
   ·rw[if_neg d7,if_neg d7];rfl
theorem ac2 (T:aF) (m:Mode) (d:Option Nat) (f:FuncId) (as:List ah) (σ:St) (e:Nat->ah):
  uL T m d f as (σ.we e)=(uL T m d f as σ).map fun τ=>τ.we (sH e d τ.env):=by
 unfold uL
 cases aF.me T.tZ f with
 |none=>rfl
 |some z=>
  obtain⟨sig,M⟩:=z
  simp only
  have hh:(σ.we e).h=σ.h:=rfl
  rw[hh]
  cases xS σ.h sig as with
  |none=>rfl
  |some bY=>
   simp only
   by_cases d7:(xV sig bY).Nodup
   ·rw[if_pos d7,if_pos d7]
    cases rb σ.h (cB σ.h (xV sig bY)) sig bY with
    |none=>rfl
    |some z=>
     obtain⟨ds,its⟩:=z
     simp only
     cases M ds with
     |none=>rfl
     |some z=>
      obtain⟨rs,cM⟩:=z
      simp only[Rk]
      cases σ.mL its cM with
      |none=>rfl
      |some σ1=>
       simp only[Option.map_some,Yq]
       cases σ1.iq m (iw d) rs with
       |none=>rfl
       |some z=>
        obtain⟨ls,σ2⟩:=z
        simp only[Option.map_some,sn]
   ·rw[if_neg d7,if_neg d7];rfl
theorem ac5 (T:aF) (m:Mode) (d:Option Nat) (f:FuncId) (as:List ah) (σ:St) (e:Nat->ah):
  uM T m d f as (σ.we e)=(uM T m d f as σ).map fun τ=>τ.we (sH e d τ.env):=by
 unfold uM
 cases aF.rO T.xs f with
 |none=>rfl
 |some z=>
  obtain⟨i,M⟩:=z
  simp only
  cases as[i]? with
  |none=>rfl
  |some x=>
   have hh:(σ.we e).h=σ.h:=rfl
   simp only[hh]
   cases Dk σ.h x with
   |none=>rfl
   |some z=>
    obtain⟨n,lo,len,N⟩:=z
    exact Wa _ _ _ _ _ _ _
theorem L8:∀(as:List ah) (σ:St) (e:Nat->ah),(σ.we e).gH as=(σ.gH as).map fun x=>(x.1,x.2.1,x.2.2.we e)
 |[],σ,e=>rfl
 |v::as,σ,e=>by
  simp only[St.gH,K8,Gl]
  cases kU σ.h v with
  |some x=>
   obtain⟨n,xs⟩:=x
   simp only[L8 as σ e]
   cases σ.gH as<;>rfl
  |none=>
   simp only
   cases v.cells? with
   |none=>rfl
   |some x=>
    obtain⟨ag,cs⟩:=x
    simp only
    cases σ.fi cs with
    |none=>rfl
    |some y=>
     obtain⟨xs,o,σ1⟩:=y
     simp only[Option.map_some,L8 as σ1 e]
     cases σ1.gH as<;>rfl
theorem akV (σ:St) (e:Nat->ah) (ns:List Nat) (out:List C):(σ.we e).q9 ns out=(σ.q9 ns out).map (·.we e):=by
 match ns,out with
 |[],[]=>rfl
 |[],_::_=>rfl
 |[n],out=>
  simp only[St.q9,K8]
  cases σ.h n with
  |none=>rfl
  |some b=>
   cases b with
   |box cs=>simp only;split<;>rfl
   |row gr m rs xs=>rfl
 |_::_::_,out=>rfl
theorem aci (σ:St) (e:Nat->ah) (d:Option Nat) (rs:List Dv):ql (σ.we e) d rs=(ql σ d rs).map fun τ=>τ.we (sH e d τ.env):=by
 unfold ql
 split
 ·cases d with
  |none=>rfl
  |some q=>
   simp only[E6]
   cases σ.ins q _ with
   |none=>rfl
   |some σ1=>simp only[Option.map_some,sn]
 ·cases gu rs with
  |none=>rfl
  |some ls=>simp only[Option.map_some,sn]
theorem ac1 (T:aF) (d:Option Nat) (f:FuncId) (as:List ah) (σ:St) (e:Nat->ah):
  qt T d f as (σ.we e)=(qt T d f as σ).map fun τ=>τ.we (sH e d τ.env):=by
 unfold qt
 rw[L8]
 cases σ.gH as with
 |none=>rfl
 |some x=>
  obtain⟨ds,ns,σ1⟩:=x
  simp only[Option.map_some]
  cases aF.jY T.vs f with
  |none=>rfl
  |some M=>
   simp only
   cases M ds with
   |none=>rfl
   |some z=>
    obtain⟨rs,out⟩:=z
    simp only[akV]
    cases σ1.q9 ns out with
    |none=>rfl
    |some σ2=>exact aci σ2 e d rs
theorem MT (T:aF) (d:Option Nat) (op:aI) (σ:St) (e:Nat->ah) (bu:∀x∈op.args,(σ.we e).ev x=σ.ev x) (hd:∀sz x v,op=.store sz x v->d=none):
  exec T d op (σ.we e)=(exec T d op σ).map fun τ=>τ.we (sH e d τ.env):=by
 by_cases hc:op.dD<=1
 ·rw[pd T d op _ hc,pd T d op _ hc,CI T d op _ bu]
  show Option.bind (rd T d op σ.ev σ.h) _=_
  cases rd T d op σ.ev σ.h with
  |none=>rfl
  |some x=>
   simp only[Option.bind_some,gv,zO]
   cases σ.cr x.2 with
   |none=>rfl
   |some σ1=>simp only[Option.map_some,sn]
 ·cases op<;>simp[aI.dD] at hc
  case fF sz ps=>
   have hl:ps.map (σ.we e).ev=ps.map σ.ev:=List.map_congr_left bu
   simp only[exec,hl,abC]
   cases d with
   |none=>rfl
   |some n=>
    cases σ.kL sz (ps.map σ.ev) with
    |none=>rfl
    |some x=>
     obtain⟨es,o,σ1⟩:=x
     simp only[Option.map_some,E6]
     cases σ1.ins n (.row true (if o=true then .af else .aG) sz es) with
     |none=>rfl
     |some σ2=>simp only[Option.map_some,sn]
  case store sz x v=>
   have h1:=bu x (by simp[aI.args])
   have h2:=bu v (by simp[aI.args])
   have hd:=hd sz x v rfl
   subst hd
   simp only[exec,h1,h2]
   cases σ.ev x with
   |one p=>cases p with
    |ptr n k au off=>
     cases (σ.ev v).cells? with
     |none=>rfl
     |some y=>
      obtain⟨ag,vs⟩:=y
      have:(σ.we e).h n=σ.h n:=rfl
      simp only[this]
      split
      ·cases σ.h n with
       |none=>rfl
       |some b=>cases b with
        |box cs=>simp only;split<;>rfl
        |row gr m rs xs=>
         simp only
         split
         ·cases xs[k]? with
          |none=>rfl
          |some el=>simp only[amh];rfl
         ·rfl
      ·rfl
    |bX n k au off s i=>
     cases (σ.ev v).cells? with
     |none=>rfl
     |some y=>
      obtain⟨ag,vs⟩:=y
      have:(σ.we e).h n=σ.h n:=rfl
      simp only[this]
      split
      ·cases σ.h n with
       |none=>rfl
       |some b=>cases b with
        |box cs=>rfl
        |row gr m rs xs=>cases m with
         |live=>cases gr with
          |true=>rfl
          |false=>
           simp only
           split
           ·cases wc xs k off s i vs<;>rfl
           ·rfl
         |_=>cases gr<;>rfl
      ·rfl
    |_=>cases (σ.ev v).cells?<;>rfl
   |agg cs=>cases (σ.ev v).cells?<;>rfl
   |bk cs=>cases (σ.ev v).cells?<;>rfl
  case append fl sz by_ x y=>
   have h1:=bu x (by simp[aI.args])
   have h2:=bu y (by simp[aI.args])
   simp only[exec,h1,h2,ab5]
   cases d with
   |none=>rfl
   |some n=>
    simp only
    cases qi σ sz (σ.ev x) with
    |none=>rfl
    |some z=>
     obtain⟨xs,m,σ1⟩:=z
     simp only[Option.map_some,ab7]
     cases ko fl σ1 sz m (σ.ev y) with
     |none=>rfl
     |some z=>
      obtain⟨ys,m2,σ2⟩:=z
      simp only[Option.map_some]
      split
      ·simp only[E6]
       cases σ2.ins n (.row true m2 sz (xs++ys)) with
       |none=>rfl
       |some fE=>simp only[Option.map_some,sn]
      ·rfl
  case copy sz x y=>
   have h1:=bu x (by simp[aI.args])
   have h2:=bu y (by simp[aI.args])
   have h3:(σ.we e).h=σ.h:=rfl
   simp only[exec,h1,h2,h3]
   cases σ.ev x with
   |one p=>cases p with
    |sl n s lo len=>
     cases σ.ev y with
     |one c=>
      simp only
      cases σ.h n with
      |none=>rfl
      |some b=>cases b with
       |box cs=>rfl
       |row gr m rs xs=>
        cases bQ σ.h c with
        |none=>rfl
        |some q=>cases q with
         |list s' ys=>
          simp only
          split
          ·exact congrArg some (sn (σ.cW n _) e d _)
          ·rfl
         |_=>rfl
     |_=>rfl
    |_=>rfl
   |_=>rfl
  case kq z x=>
   have h1:=bu x (by simp[aI.args])
   have h3:(σ.we e).h=σ.h:=rfl
   simp only[exec,h1,h3]
   cases σ.ev x with
   |one p=>cases p with
    |sl n s lo len=>
     simp only
     cases σ.h n with
     |none=>rfl
     |some b=>cases b with
      |box cs=>rfl
      |row gr m rs xs=>
       simp only
       split
       ·exact congrArg some (sn (σ.cW n _) e d _)
       ·rfl
    |_=>rfl
   |_=>rfl
  case oE ag sz x=>
   have h1:=bu x (by simp[aI.args])
   simp only[exec,h1]
   cases σ.ev x with
   |one p=>
    simp only[ae2]
    cases σ.qB p with
    |none=>rfl
    |some σ1=>
     simp only[Option.map_some]
     have h3:(σ1.we e).h=σ1.h:=rfl
     rw[h3]
     cases loadAt σ1.h p sz with
     |none=>rfl
     |some cs=>exact congrArg some (sn σ1 e d _)
   |_=>rfl
  case tail sz x y=>
   have h1:=bu x (by simp[aI.args])
   have h2:=bu y (by simp[aI.args])
   simp only[exec,h1,h2]
   cases d with
   |none=>rfl
   |some n=>
    generalize (σ.ev y).cJ=q
    cases hv:σ.ev x with
    |one p=>cases p with
     |sl a s lo len=>cases lo with
      |zero=>
       cases q with
       |none=>rfl
       |some l=>
        simp only
        have:(σ.we e).h a=σ.h a:=rfl
        rw[this]
        cases σ.h a with
        |none=>rfl
        |some b=>cases b with
         |box cs=>rfl
         |row gr m rs xs=>cases gr with
          |false=>rfl
          |true=>
           simp only
           split
           ·rw[show(σ.we e).del a=(σ.del a).we e from rfl,E6]
            cases (σ.del a).ins n (.row true m sz (xs.drop l.toNat)) with
            |none=>rfl
            |some fE=>simp only[Option.map_some,sn]
           ·rfl
      |succ lo=>cases q<;>rfl
     |_=>cases q<;>rfl
    |_=>cases q<;>rfl
  case fN m f xs=>
   have hl:xs.map (σ.we e).ev=xs.map σ.ev:=List.map_congr_left bu
   simp only[exec,hl,Wa]
  case iA f xs=>
   have hl:xs.map (σ.we e).ev=xs.map σ.ev:=List.map_congr_left bu
   simp only[exec,hl,ac1]
  case nX m f x xs=>
   have h0:=bu x (by simp[aI.args])
   have hl:xs.map (σ.we e).ev=xs.map σ.ev:=List.map_congr_left fun y hy=>bu y (by simp[aI.args,hy])
   simp only[exec,hl,h0]
   cases σ.ev x with
   |one c=>cases c with
    |fn g bI=>
     simp only
     split
     ·exact ac2 _ _ _ _ _ _ _
     ·rfl
    |_=>rfl
   |agg cs=>rfl
   |bk xs=>rfl
  case lY m f xs=>
   have hl:xs.map (σ.we e).ev=xs.map σ.ev:=List.map_congr_left bu
   simp only[exec,hl,ac5]
section
variable {u vv:Nat->Prop} {h h':Nat->Option aj}
theorem ahS (hh:∀n,u n->h' n=h n) {p:ab} (hp:∀m,p.ref m->u m) (sz:Nat):loadAt h' p sz=loadAt h p sz:=by
 cases p with
 |ptr n k au off=>simp only[loadAt,hh n (hp n rfl)]
 |bX n k au off s i=>simp only[loadAt,hh n (hp n rfl)]
 |_=>rfl
theorem ab.xZ {c:ab} {m:Nat} (h:c.fL m):c.ref m:=by
 cases c<;>first|exact h|exact h.elim
def ah.x5:ah->Nat->Prop
 |.one c,m=>c.fL m
 |.agg cs,m=>∃c∈cs,c.fL m
 |.bk _,_=>False
theorem ah.Rs {x:ah} {m:Nat} (h:x.x5 m):x.ref m:=by
 cases x with
 |one c=>exact ab.xZ h
 |agg cs=>obtain⟨c,hc,h⟩:=h;exact⟨c,hc,ab.xZ h⟩
 |bk xs=>exact h.elim
theorem Aq (hh:∀n,u n->h' n=h n) {p:ab} (hp:∀m,p.fL m->u m):bQ h' p=bQ h p:=by
 cases p with
 |sl n sz lo len=>simp only[bQ,hh n (hp n rfl)]
 |bf n k au off sz len=>simp only[bQ,hh n (hp n rfl)]
 |_=>rfl
theorem K7 (hh:∀n,u n->h' n=h n):∀{l:List ab} (_:∀p∈l,∀m,p.fL m->u m),gE h' l=gE h l
 |[],_=>rfl
 |c::cs,hp=>by
  have h1:=Aq hh (hp c (by simp))
  have h2:=K7 hh (l:=cs) fun p q=>hp p (List.mem_cons_of_mem _ q)
  simp only[gE,h1,h2]
theorem amK (hh:∀n,u n->h' n=h n) (hb:∀m cs c n,vv m->h m=some (.box cs)->c∈cs->c.ref n->u n) {x:ah} (hx:∀m,x.x5 m->u m) (hv:∀m,x.x5 m->vv m):gR h' x=gR h x:=by
 cases x with
 |one c=>cases c with
  |ptr n k sz off=>
   simp only[gR,hh n (hx n rfl)]
   cases hn:h n with
   |none=>rfl
   |some b=>cases b with
    |box cs=>simp only[K7 hh fun p hp m hm=>hb n cs p m (hv n rfl) hn hp (ab.xZ hm)]
    |row gr m sz xs=>rfl
  |cd xs off=>rfl
  |c x=>rfl
  |nil sz=>rfl
  |sl n sz lo len=>simp only[gR];rw[Aq hh (p:=.sl n sz lo len) hx]
  |bf n k au off sz len=>simp only[gR];rw[Aq hh (p:=.bf n k au off sz len) hx]
  |bX n k au off sz i=>rfl
  |bK xs off j n sz len=>rfl
  |fn f bI=>rfl
  |aX=>rfl
 |agg cs=>simp only[gR,K7 hh fun p hp m hm=>hx m ⟨p,hp,hm⟩]
 |bk xs=>rfl
theorem K6 (hh:∀n,u n->h' n=h n) (hb:∀m cs c n,vv m->h m=some (.box cs)->c∈cs->c.ref n->u n):∀{xs:List ah} (_:∀x∈xs,∀m,x.x5 m->u m) (_:∀x∈xs,∀m,x.x5 m->vv m),ji h' xs=ji h xs
 |[],_,_=>rfl
 |x::xs,hx,hv=>by
  have h1:=amK hh hb (hx x (by simp)) (hv x (by simp))
  have h2:=K6 hh hb (xs:=xs) (fun p q=>hx p (List.mem_cons_of_mem _ q)) (fun p q=>hv p (List.mem_cons_of_mem _ q))
  simp only[ji,h1,h2]
theorem ahX (hh:∀n,u n->h' n=h n) {md:Mode} {c:ab} (hp:∀m,c.ref m->u m):sf h' md c=sf h md c:=by
 cases c with
 |sl n sz lo len=>simp only[sf,hh n (hp n rfl)]
 |bf n k au off sz len=>simp only[sf,hh n (hp n rfl)]
 |_=>rfl
theorem Yb (hh:∀n,u n->h' n=h n) (ns:List Nat):∀n,u n->cB h' ns n=cB h ns n:=fun n hn=>by simp only[cB,hh n hn]
theorem P0 (hh:∀n,u n->h' n=h n) (ns:List Nat):∀(fs:List (Option Mode)) (cs:List ab),(∀c∈cs,∀m,c.ref m->u m)->iM h' (cB h' ns) fs cs=iM h (cB h ns) fs cs
 |[],cs,hc=>by simp only[iM,K7 (Yb hh ns) fun p hp m hm=>hc p hp m (ab.xZ hm)]
 |none::fs,c::cs,hc=>by
  simp only[iM,Aq (Yb hh ns) fun m hm=>hc c (by simp) m (ab.xZ hm),P0 hh ns fs cs fun p hp=>hc p (by simp[hp])]
 |some md::fs,c::cs,hc=>by
  simp only[iM,ahX hh (hc c (by simp)),P0 hh ns fs cs fun p hp=>hc p (by simp[hp])]
 |none::_,[],_=>rfl
 |some _::_,[],_=>rfl
theorem Zp (hh:∀n,u n->h' n=h n) (ns:List Nat):∀(as:List (Bool×List ab)) (sig:aN),(∀x∈as,∀c∈x.2,∀m,c.ref m->u m)->kH h' (cB h' ns) sig as=kH h (cB h ns) sig as
 |[],_,_=>rfl
 |(ag,cs)::as,sig,hc=>by
  simp only[kH,P0 hh ns (aN.hd sig) cs (hc (ag,cs) (by simp)),Zp hh ns as (aN.tl sig) fun x hx=>hc x (by simp[hx])]
theorem P4:∀{fs:List (Option Mode)} {cs:List ab} {n:Nat},n∈lL fs cs->∃c∈cs,c.ref n
 |some _::fs,c::cs,n,hn=>by
  simp only[lL] at hn
  rcases List.mem_append.1 hn with h|h
  ·refine⟨c,by simp,?_⟩
   cases c<;>simp[ab.dq] at h<;>(subst h;rfl)
  ·obtain⟨c',h1,h2⟩:=P4 h
   exact⟨c',by simp[h1],h2⟩
 |none::fs,c::cs,n,hn=>by
  simp only[lL] at hn
  obtain⟨c',h1,h2⟩:=P4 hn
  exact⟨c',by simp[h1],h2⟩
 |[],_,n,hn=>by simp[lL] at hn
 |some _::_,[],n,hn=>by simp[lL] at hn
 |none::_,[],n,hn=>by simp[lL] at hn
theorem Zf:∀{as:List (Bool×List ab)} {sig:aN} {n:Nat},n∈nD sig as->∃x∈as,∃c∈x.2,c.ref n
 |a::as,s::sig,n,hn=>by
  simp only[nD] at hn
  rcases List.mem_append.1 hn with h|h
  ·obtain⟨c,h1,h2⟩:=P4 h
   exact⟨a,by simp,c,h1,h2⟩
  ·obtain⟨x,h1,h2⟩:=Zf h
   exact⟨x,by simp[h1],h2⟩
 |[],s::sig,n,hn=>by simp[nD] at hn
 |as,[],n,hn=>by cases as<;>simp[nD] at hn
theorem Y5:∀{as:List ah} {bY:List (Bool×List ab)},pM as=some bY->∀x∈bY,∀c∈x.2,∀m,c.ref m->∃v∈as,v.ref m
 |[],bY,hx,x,hm=>by simp only[pM] at hx;injection hx with hx;subst hx;cases hm
 |v::vs,bY,hx,x,hm=>by
  simp only[pM] at hx
  split at hx
  ·rename_i y ys e1 e2
   injection hx with hx
   subst hx
   intro c hc m hr
   cases hm with
   |head=>exact⟨v,by simp,ah.wO e1 hc hr⟩
   |tail _ hm=>
    obtain⟨v',h1,h2⟩:=Y5 e2 x hm c hc m hr
    exact⟨v',by simp[h1],h2⟩
  ·cases hx
theorem ac4 (hh:∀n,u n->h' n=h n) {T:aF} {f:FuncId} {as:List ah} (hx:∀x∈as,∀m,x.ref m->u m):pb T f as h'=pb T f as h:=by
 unfold pb
 cases aF.rN T.ws f with
 |none=>rfl
 |some M=>
  obtain⟨sig,M⟩:=M
  cases hc:pM as with
  |none=>rfl
  |some bY=>
   have hr:∀x∈bY,∀c∈x.2,∀m,c.ref m->u m:=fun x h1 c h2 m h3=>by
    obtain⟨v,a1,a2⟩:=Y5 hc x h1 c h2 m h3
    exact hx v a1 m a2
   simp only
   cases hn:nD sig bY with
   |nil=>rfl
   |cons n l=>
    cases l with
    |cons n2 l=>rfl
    |nil=>
     obtain⟨x,h1,c,h2,h3⟩:=Zf (n:=n) (sig:=sig) (as:=bY) (by rw[hn];simp)
     simp only[Zp hh [n] bY sig hr,hh n (hr x h1 c h2 n h3)]
theorem ZY (T:aF) (d:Option Nat) (op:aI) (ev:MO->ah) (hh:∀n,u n->h' n=h n) (po:op.E7=true->∀m cs c n,vv m->h m=some (.box cs)->c∈cs->c.ref n->u n)
  (hx:∀x∈op.args,∀m,(ev x).ref m->u m) (vr:∀x∈op.args,∀m,(ev x).ref m->vv m):rd T d op ev h'=rd T d op ev h:=by
 cases op with
 |load ag sz x=>
  have h1:=hx x (by simp[aI.args])
  simp only[rd]
  cases hv:ev x with
  |one p=>rw[hv] at h1;simp only[ahS hh (p:=p) h1]
  |_=>rfl
 |oG x=>
  have h1:=hx x (by simp[aI.args])
  simp only[rd]
  cases hv:ev x with
  |one p=>cases p with
   |ptr n k sz off=>rw[hv] at h1;simp only[hh n (h1 n rfl)]
   |_=>rfl
  |_=>rfl
 |aC off x=>
  have h1:=hx x (by simp[aI.args])
  simp only[rd]
  cases hv:ev x with
  |one p=>cases p with
   |ptr n k sz off=>rw[hv] at h1;simp only[hh n (h1 n rfl)]
   |_=>rfl
  |_=>rfl
 |len x=>
  have h1:=hx x (by simp[aI.args])
  simp only[rd]
  cases hv:ev x with
  |one p=>cases p with
   |sl n sz lo len=>rw[hv] at h1;simp only[hh n (h1 n rfl)]
   |bf n k au off sz len=>rw[hv] at h1;simp only[Aq hh (p:=.bf n k au off sz len) (fun m hm=>h1 m (ab.xZ hm))]
   |c x=>cases x<;>rfl
   |_=>rfl
  |_=>rfl
 |nJ f bU x=>
  have h1:=hx x (by simp[aI.args])
  simp only[rd]
  cases hv:ev x with
  |one p=>cases p with
   |sl n sz lo len=>rw[hv] at h1;simp only[hh n (h1 n rfl)]
   |c x=>cases x<;>rfl
   |_=>rfl
  |_=>rfl
 |cH sz x i=>
  have h1:=hx x (by simp[aI.args])
  simp only[rd]
  generalize (ev i).cJ=q
  cases hv:ev x with
  |one p=>cases p with
   |sl n s lo len=>
    rw[hv] at h1
    have h2:=hh n (h1 n rfl)
    cases q with
    |none=>rfl
    |some q=>simp only[h2]
   |bf n k au off s len=>
    rw[hv] at h1
    cases q with
    |none=>rfl
    |some q=>simp only[Aq hh (p:=.bf n k au off s len) (fun m hm=>h1 m (ab.xZ hm))]
   |c x=>cases x<;>cases q<;>rfl
   |_=>cases q<;>rfl
  |_=>cases q<;>rfl
 |slice sz x lo hi=>
  have h1:=hx x (by simp[aI.args])
  simp only[rd]
  cases hv:ev x with
  |one p=>cases p with
   |sl n s l0 len=>
    rw[hv] at h1
    have h2:=hh n (h1 n rfl)
    cases lo with
    |none=>simp only[h2]
    |some lo=>
     simp only
     cases (ev lo).cJ with
     |none=>rfl
     |some q=>simp only[h2]
   |c x=>cases lo with
    |none=>cases x<;>rfl
    |some lo=>
     simp only
     cases (ev lo).cJ<;>cases x<;>rfl
   |_=>cases lo<;>rfl
  |_=>cases lo<;>rfl
 |call m f xs=>
  simp only[rd,Be]
  have go:∀u':Nat->Prop,(∀x∈(aI.call m f xs).args,∀m,(ev x).ref m->u' m)->∀x∈xs.map ev,∀m,x.x5 m->u' m:=by
   intro u' hx x vu q hq
   obtain⟨y,hy,rfl⟩:=List.mem_map.1 vu
   exact hx y hy q (ah.Rs hq)
  rw[K6 hh (po rfl) (go _ hx) (go _ vr)]
 |lT f xs=>
  simp only[rd,uF]
  have go:∀u':Nat->Prop,(∀x∈(aI.lT f xs).args,∀m,(ev x).ref m->u' m)->∀x∈xs.map ev,∀m,x.x5 m->u' m:=by
   intro u' hx x vu q hq
   obtain⟨y,hy,rfl⟩:=List.mem_map.1 vu
   exact hx y hy q (ah.Rs hq)
  rw[K6 hh (po rfl) (go _ hx) (go _ vr)]
 |lU f xs=>rfl
 |lW f xs=>
  have:pb T f (xs.map ev) h'=pb T f (xs.map ev) h:=ac4 hh fun x vu q hq=>by
   obtain⟨y,hy,rfl⟩:=List.mem_map.1 vu
   exact hx y hy q hq
  simp only[rd,this]
 |lV m x xs=>
  simp only[rd]
  cases hv:ev x with
  |one p=>cases p with
   |fn f bI=>
    simp only[Be]
    have go:∀u':Nat->Prop,(∀y∈(aI.lV m x xs).args,∀m,(ev y).ref m->u' m)->∀y∈xs.map ev++bI.map ah.one,∀m,y.x5 m->u' m:=by
     intro u' hx y hym q hq
     rcases List.mem_append.1 hym with hy|hy
     ·obtain⟨z,hz,rfl⟩:=List.mem_map.1 hy
      exact hx z (by simp[aI.args,hz]) q (ah.Rs hq)
     ·obtain⟨z,hz,rfl⟩:=List.mem_map.1 hy
      refine hx x (by simp[aI.args]) q ?_
      rw[hv]
      exact⟨z,hz,hq⟩
    rw[K6 hh (po rfl) (go _ hx) (go _ vr)]
   |_=>rfl
  |_=>rfl
 |_=>rfl
theorem ZX (T:aF) (d:Option Nat) (op:aI) (ev:MO->ah) (hh:∀n,u n->h' n=h n) (hb:∀m cs c n,h m=some (.box cs)->c∈cs->c.ref n->u n)
  (hx:∀x∈op.args,∀m,(ev x).ref m->u m):rd T d op ev h'=rd T d op ev h:=
 ZY (vv:=fun _=>True) T d op ev hh (fun _ m cs c n _=>hb m cs c n) hx (fun _ _ _ _=>trivial)
theorem Z0 (T:aF) (d:Option Nat) (op:aI) (ev:MO->ah) (h h':Nat->Option aj) (hc:op.dD=0):rd T d op ev h'=rd T d op ev h:=by
 cases op<;>simp[aI.dD] at hc<;>rfl
end
end Go.Am
