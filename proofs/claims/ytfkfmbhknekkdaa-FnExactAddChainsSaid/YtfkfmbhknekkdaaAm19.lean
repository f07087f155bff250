/- Am19: operations that may change places, continued. No condition. -/
import Derived.Test.YtfkfmbhknekkdaaAm18
set_option linter.unusedVariables false
namespace Go.Am
def St.we (σ:St) (e:Nat->ai):St:={σ with env:=e}
def qi (e:Nat->ai) (d:Option Nat) (x:Nat->ai):Nat->ai:=
 match d with
 |some n=>aq e n (x n)
 |none=>e
theorem alr (σ:St):σ.we σ.env=σ:=rfl
theorem qa (σ:St) (e:Nat->ai) (d:Option Nat) (v:ai):(σ.we e).put d v=(σ.put d v).we (qi e d (σ.put d v).env):=by
 cases d with
 |none=>rfl
 |some n=>simp[St.put,St.we,qi,bu]
theorem Ce (σ:St) (e:Nat->ai) (n:Nat) (b:ak):(σ.we e).ins n b=(σ.ins n b).map (·.we e):=by
 unfold St.ins
 by_cases h:σ.used n=true
 ·rw[if_pos h,if_pos (show(σ.we e).used n=true from h)];rfl
 ·rw[if_neg h,if_neg (show¬(σ.we e).used n=true from h)];rfl
theorem wL:∀(l:List (Nat×ak)) (σ:St) (e:Nat->ai),(σ.we e).cu l=(σ.cu l).map (·.we e)
 |[],σ,e=>rfl
 |(n,b)::l,σ,e=>by
  simp only[St.cu,Ce]
  cases σ.ins n b with
  |none=>rfl
  |some σ1=>exact wL l σ1 e
theorem alb (σ:St) (e:Nat->ai) (c:ae):(σ.we e).fe c=(σ.fe c).map fun x=>(x.1,x.2.1,x.2.2.we e):=by
 cases c with
 |c x=>rfl
 |nil sz=>simp only[St.fe];split<;>rfl
 |sl n sz lo len=>
  have:(σ.we e).h n=σ.h n:=rfl
  simp only[St.fe,this]
  cases σ.h n with
  |none=>rfl
  |some b=>cases b with
   |box cs=>rfl
   |row gr m rs xs=>simp only;split<;>rfl
 |_=>rfl
theorem Da:∀(cs:List ae) (σ:St) (e:Nat->ai),(σ.we e).eS cs=(σ.eS cs).map fun x=>(x.1,x.2.1,x.2.2.we e)
 |[],σ,e=>rfl
 |c::cs,σ,e=>by
  simp only[St.eS,alb]
  cases σ.fe c with
  |none=>rfl
  |some x=>
   obtain⟨x,o,σ1⟩:=x
   simp only[Option.map_some,Da cs σ1 e]
   cases σ1.eS cs<;>rfl
theorem acF (σ:St) (e:Nat->ai) (p:ae):(σ.we e).nZ p=(σ.nZ p).map (·.we e):=by
 cases p with
 |ptr n k sz off=>
  have h3:(σ.we e).h=σ.h:=rfl
  simp only[St.nZ,h3]
  cases σ.h n with
  |none=>rfl
  |some b=>
   cases b with
   |row gr m rs xs=>rfl
   |box cs=>
    simp only[Da]
    cases σ.eS cs with
    |none=>rfl
    |some x=>rfl
 |_=>rfl
theorem Ze (sz:Nat):∀(vs:List ai) (σ:St) (e:Nat->ai),(σ.we e).jK sz vs=(σ.jK sz vs).map fun x=>(x.1,x.2.1,x.2.2.we e)
 |[],σ,e=>rfl
 |v::vs,σ,e=>by
  simp only[St.jK]
  cases v.cells? with
  |none=>rfl
  |some x=>
   obtain⟨ag,cs⟩:=x
   simp only
   split
   ·simp only[Da]
    cases σ.eS cs with
    |none=>rfl
    |some y=>
     obtain⟨y,o,σ1⟩:=y
     simp only[Option.map_some,Ze sz vs σ1 e]
     cases σ1.jK sz vs<;>rfl
   ·rfl
theorem Z5 (σ:St) (e:Nat->ai) (sz:Nat) (v:ai):nM (σ.we e) sz v=(nM σ sz v).map fun x=>(x.1,x.2.1,x.2.2.we e):=by
 cases v with
 |one v=>cases v with
  |sl a s lo len=>cases lo with
   |zero=>
    have:(σ.we e).h a=σ.h a:=rfl
    simp only[nM,this]
    cases σ.h a with
    |none=>rfl
    |some b=>cases b with
     |box cs=>rfl
     |row gr m rs xs=>cases gr with
      |true=>simp only;split<;>rfl
      |false=>rfl
   |succ lo=>rfl
  |_=>rfl
 |_=>rfl
theorem Z7 (fl:Bool) (σ:St) (e:Nat->ai) (sz:Nat) (m:Mode) (v:ai):jR fl (σ.we e) sz m v=(jR fl σ sz m v).map fun x=>(x.1,x.2.1,x.2.2.we e):=by
 cases v with
 |one v=>cases v with
  |sl b s lo len=>
   have:(σ.we e).h b=σ.h b:=rfl
   simp only[jR,this]
   cases σ.h b with
   |none=>rfl
   |some b=>cases b with
    |box cs=>rfl
    |row gr m rs xs=>
     simp only
     repeat' split
     all_goals rfl
  |c x=>cases x with
   |list s ys=>
    simp only[jR]
    repeat' split
    all_goals rfl
   |_=>rfl
  |_=>rfl
 |_=>rfl
theorem akV (σ:St) (e:Nat->ai) (n:Nat) (gr:Bool) (m:Mode) (rs:Nat) (xs:List (List C)) (k off:Nat) (el:List C) (vs:List ae):
  k7 (σ.we e) n gr m rs xs k off el vs=(k7 σ n gr m rs xs k off el vs).map (·.we e):=by
 simp only[k7,Da]
 cases sub el off vs.length with
 |none=>rfl
 |some eQ=>
  simp only
  cases σ.eS vs with
  |none=>rfl
  |some x=>
   obtain⟨cs,o,σ1⟩:=x
   have:(σ1.we e).h n=σ1.h n:=rfl
   simp only[Option.map_some,this]
   repeat' split
   all_goals rfl
theorem zM (T:aA) (d:Option Nat) (op:aw) {ev ev':MO->ai} (h:Nat->Option ak) (aW:∀x∈op.args,ev' x=ev x):rd T d op ev' h=rd T d op ev h:=by
 have hl:∀xs:List MO,(∀x∈xs,ev' x=ev x)->xs.map ev'=xs.map ev:=fun xs hx=>List.map_congr_left hx
 have hp:∀(ps:List (Nat×Nat×MO)) (zs:List ae),(∀x∈ps.map (·.2.2),ev' x=ev x)->nF ev' zs ps=nF ev zs ps:=by
  intro ps
  induction ps with
  |nil=>intro zs _;rfl
  |cons p ps ih=>
   intro zs hx
   obtain⟨off,sz,x⟩:=p
   simp only[nF]
   rw[hx x (by simp)]
   cases (ev x).cells? with
   |none=>rfl
   |some y=>
    simp only
    split
    ·exact ih _ fun z hz=>hx z (by simp at hz⊢;exact .inr hz)
    ·rfl
 cases op with
 |build zs ps=>simp only[rd];rw[hp ps zs aW]
 |call m f xs=>simp only[rd];rw[hl xs aW]
 |kw f xs=>simp only[rd];rw[hl xs aW]
 |kA f xs=>simp only[rd];rw[hl xs aW]
 |kx f xs=>simp only[rd];rw[hl xs aW]
 |mF f xs=>simp only[rd];rw[hl xs aW]
 |ky m x xs=>simp only[rd];rw[aW x (by simp[aw.args]),hl xs fun y hy=>aW y (by simp[aw.args,hy])]
 |slice sz x lo hi=>
  have h1:=aW x (by simp[aw.args])
  cases lo with
  |none=>cases hi with
   |none=>simp only[rd,h1]
   |some hi=>have h3:=aW hi (by simp[aw.args]);simp only[rd,h1,h3]
  |some lo=>
   have h2:=aW lo (by simp[aw.args])
   cases hi with
   |none=>simp only[rd,h1,h2]
   |some hi=>have h3:=aW hi (by simp[aw.args]);simp only[rd,h1,h2,h3]
 |mv x=>have h1:=aW x (by simp[aw.args]);simp only[rd,h1]
 |pick x y z=>have h1:=aW x (by simp[aw.args]);have h2:=aW y (by simp[aw.args]);have h3:=aW z (by simp[aw.args]);simp only[rd,h1,h2,h3]
 |alloc zs=>rfl
 |box sz x=>have h1:=aW x (by simp[aw.args]);simp only[rd,h1]
 |gA sz ps=>rfl
 |iZ m f xs=>rfl
 |kz m f x xs=>rfl
 |kB m f xs=>rfl
 |iu f xs=>rfl
 |load ag sz x=>have h1:=aW x (by simp[aw.args]);simp only[rd,h1]
 |store sz x v=>rfl
 |mG x=>have h1:=aW x (by simp[aw.args]);simp only[rd,h1]
 |bin op x y=>have h1:=aW x (by simp[aw.args]);have h2:=aW y (by simp[aw.args]);simp only[rd,h1,h2]
 |kv op x y=>have h1:=aW x (by simp[aw.args]);have h2:=aW y (by simp[aw.args]);simp only[rd,h1,h2]
 |un op x=>have h1:=aW x (by simp[aw.args]);simp only[rd,h1]
 |conv k x=>have h1:=aW x (by simp[aw.args]);simp only[rd,h1]
 |kg m sz by_ zs x y=>have h1:=aW x (by simp[aw.args]);have h2:=aW y (by simp[aw.args]);simp only[rd,h1,h2]
 |aB off x=>have h1:=aW x (by simp[aw.args]);simp only[rd,h1]
 |cR sz x y=>have h1:=aW x (by simp[aw.args]);have h2:=aW y (by simp[aw.args]);simp only[rd,h1,h2]
 |ext i x=>have h1:=aW x (by simp[aw.args]);simp only[rd,h1]
 |m7 ag off sz x=>have h1:=aW x (by simp[aw.args]);simp only[rd,h1]
 |mK f bw x=>have h1:=aW x (by simp[aw.args]);simp only[rd,h1]
 |len x=>have h1:=aW x (by simp[aw.args]);simp only[rd,h1]
 |append fl sz by_ x y=>rfl
 |tail sz x lo=>rfl
 |mC ag sz x=>rfl
 |copy sz x y=>rfl
 |jz z x=>rfl
 |mm b x y=>have h1:=aW x (by simp[aw.args]);have h2:=aW y (by simp[aw.args]);simp only[rd,h1,h2]
theorem HK (σ:St) (e:Nat->ai):(σ.we e).h=σ.h:=rfl
theorem ajl (σ:St) (e:Nat->ai) (it:ct) (x:C):(σ.we e).lL it x=(σ.lL it x).map (·.we e):=by
 cases it with
 |nil sz=>rfl
 |row n=>
  cases x with
  |int k i=>rfl
  |bool b=>rfl
  |list sz xs=>
   simp only[St.lL,HK]
   cases σ.h n with
   |none=>rfl
   |some b=>
    cases b with
    |box cs=>rfl
    |row gr m rs ju=>simp only;split<;>rfl
 |nest n k off=>
  simp only[St.lL,HK]
  cases σ.h n with
  |none=>rfl
  |some b=>
   cases b with
   |box cs=>rfl
   |row gr m rs ju=>
    simp only
    cases ju[k]? with
    |none=>rfl
    |some el=>rfl
theorem NJ:∀(its:List (ct×Mode)) (cP:List C) (σ:St) (e:Nat->ai),(σ.we e).kT its cP=(σ.kT its cP).map (·.we e)
 |[],[],σ,e=>rfl
 |it::its,x::cP,σ,e=>by
  simp only[St.kT,ajl]
  cases σ.lL it.1 x with
  |none=>rfl
  |some σ1=>exact NJ its cP σ1 e
 |[],_::_,σ,e=>rfl
 |_::_,[],σ,e=>rfl
theorem VX (m:Mode) (σ:St) (e:Nat->ai) (nm:Nat) (ds:List Dv):(σ.we e).gH m nm ds=(σ.gH m nm ds).map fun x=>(x.1,x.2.we e):=by
 simp only[LF]
 cases ul m nm ds with
 |none=>rfl
 |some x=>
  simp only[Option.bind_some,wL]
  cases σ.cu x.2 with
  |none=>rfl
  |some σ1=>rfl
theorem Sl (T:aA) (m:Mode) (d:Option Nat) (f:FuncId) (as:List ai) (σ:St) (e:Nat->ai):
  nU T m d f as (σ.we e)=(nU T m d f as σ).map fun τ=>τ.we (qi e d τ.env):=by
 unfold nU
 cases aA.kF T.rn f with
 |none=>rfl
 |some z=>
  obtain⟨sig,M⟩:=z
  cases nz as with
  |none=>rfl
  |some bT=>
   simp only
   by_cases dN:(lK sig bT).Nodup
   ·rw[if_pos dN,if_pos dN]
    show(match jH σ.h (dk σ.h (lK sig bT)) sig bT with|some (ds,its)=>_|none=>none)=_
    cases jH σ.h (dk σ.h (lK sig bT)) sig bT with
    |none=>rfl
    |some z=>
     obtain⟨ds,its⟩:=z
     simp only
     cases M ds with
     |none=>rfl
     |some z=>
      obtain⟨rs,cP⟩:=z
      simp only[NJ]
      cases σ.kT its cP with
      |none=>rfl
      |some σ1=>
       simp only[Option.map_some,VX]
       cases σ1.gH m (oz d) rs with
       |none=>rfl
       |some z=>
        obtain⟨ls,σ2⟩:=z
        simp only[Option.map_some,qa]
   ·rw[if_neg dN,if_neg dN];rfl
theorem aa0 (T:aA) (m:Mode) (d:Option Nat) (f:FuncId) (as:List ai) (σ:St) (e:Nat->ai):
  r7 T m d f as (σ.we e)=(r7 T m d f as σ).map fun τ=>τ.we (qi e d τ.env):=by
 unfold r7
 cases aA.kF T.rn f with
 |none=>rfl
 |some z=>
  obtain⟨sig,M⟩:=z
  simp only
  have hh:(σ.we e).h=σ.h:=rfl
  rw[hh]
  cases uJ σ.h sig as with
  |none=>rfl
  |some bT=>
   simp only
   by_cases dN:(uM sig bT).Nodup
   ·rw[if_pos dN,if_pos dN]
    cases oF σ.h (dk σ.h (uM sig bT)) sig bT with
    |none=>rfl
    |some z=>
     obtain⟨ds,its⟩:=z
     simp only
     cases M ds with
     |none=>rfl
     |some z=>
      obtain⟨rs,cP⟩:=z
      simp only[NJ]
      cases σ.kT its cP with
      |none=>rfl
      |some σ1=>
       simp only[Option.map_some,VX]
       cases σ1.gH m (oz d) rs with
       |none=>rfl
       |some z=>
        obtain⟨ls,σ2⟩:=z
        simp only[Option.map_some,qa]
   ·rw[if_neg dN,if_neg dN];rfl
theorem aa3 (T:aA) (m:Mode) (d:Option Nat) (f:FuncId) (as:List ai) (σ:St) (e:Nat->ai):
  r8 T m d f as (σ.we e)=(r8 T m d f as σ).map fun τ=>τ.we (qi e d τ.env):=by
 unfold r8
 cases aA.pu T.xs f with
 |none=>rfl
 |some z=>
  obtain⟨i,M⟩:=z
  simp only
  cases as[i]? with
  |none=>rfl
  |some x=>
   have hh:(σ.we e).h=σ.h:=rfl
   simp only[hh]
   cases Au σ.h x with
   |none=>rfl
   |some z=>
    obtain⟨n,lo,len,N⟩:=z
    exact Sl _ _ _ _ _ _ _
theorem IK:∀(as:List ai) (σ:St) (e:Nat->ai),(σ.we e).fY as=(σ.fY as).map fun x=>(x.1,x.2.1,x.2.2.we e)
 |[],σ,e=>rfl
 |v::as,σ,e=>by
  simp only[St.fY,HK,Da]
  cases ku σ.h v with
  |some x=>
   obtain⟨n,xs⟩:=x
   simp only[IK as σ e]
   cases σ.fY as<;>rfl
  |none=>
   simp only
   cases v.cells? with
   |none=>rfl
   |some x=>
    obtain⟨ag,cs⟩:=x
    simp only
    cases σ.eS cs with
    |none=>rfl
    |some y=>
     obtain⟨xs,o,σ1⟩:=y
     simp only[Option.map_some,IK as σ1 e]
     cases σ1.fY as<;>rfl
theorem ajj (σ:St) (e:Nat->ai) (ns:List Nat) (out:List C):(σ.we e).oD ns out=(σ.oD ns out).map (·.we e):=by
 match ns,out with
 |[],[]=>rfl
 |[],_::_=>rfl
 |[n],out=>
  simp only[St.oD,HK]
  cases σ.h n with
  |none=>rfl
  |some b=>
   cases b with
   |box cs=>simp only;split<;>rfl
   |row gr m rs xs=>rfl
 |_::_::_,out=>rfl
theorem aak (σ:St) (e:Nat->ai) (d:Option Nat) (rs:List Dv):nN (σ.we e) d rs=(nN σ d rs).map fun τ=>τ.we (qi e d τ.env):=by
 unfold nN
 split
 ·cases d with
  |none=>rfl
  |some q=>
   simp only[Ce]
   cases σ.ins q _ with
   |none=>rfl
   |some σ1=>simp only[Option.map_some,qa]
 ·cases fO rs with
  |none=>rfl
  |some ls=>simp only[Option.map_some,qa]
theorem aaZ (T:aA) (d:Option Nat) (f:FuncId) (as:List ai) (σ:St) (e:Nat->ai):
  nT T d f as (σ.we e)=(nT T d f as σ).map fun τ=>τ.we (qi e d τ.env):=by
 unfold nT
 rw[IK]
 cases σ.fY as with
 |none=>rfl
 |some x=>
  obtain⟨ds,ns,σ1⟩:=x
  simp only[Option.map_some]
  cases aA.jb T.vs f with
  |none=>rfl
  |some M=>
   simp only
   cases M ds with
   |none=>rfl
   |some z=>
    obtain⟨rs,out⟩:=z
    simp only[ajj]
    cases σ1.oD ns out with
    |none=>rfl
    |some σ2=>exact aak σ2 e d rs
theorem Js (T:aA) (d:Option Nat) (op:aw) (σ:St) (e:Nat->ai) (aW:∀x∈op.args,(σ.we e).ev x=σ.ev x) (hd:∀sz x v,op=.store sz x v->d=none):
  exec T d op (σ.we e)=(exec T d op σ).map fun τ=>τ.we (qi e d τ.env):=by
 by_cases hc:op.dq<=1
 ·rw[mZ T d op _ hc,mZ T d op _ hc,zM T d op _ aW]
  show Option.bind (rd T d op σ.ev σ.h) _=_
  cases rd T d op σ.ev σ.h with
  |none=>rfl
  |some x=>
   simp only[Option.bind_some,fin,wL]
   cases σ.cu x.2 with
   |none=>rfl
   |some σ1=>simp only[Option.map_some,qa]
 ·cases op<;>simp[aw.dq] at hc
  case gA sz ps=>
   have hl:ps.map (σ.we e).ev=ps.map σ.ev:=List.map_congr_left aW
   simp only[exec,hl,Ze]
   cases d with
   |none=>rfl
   |some n=>
    cases σ.jK sz (ps.map σ.ev) with
    |none=>rfl
    |some x=>
     obtain⟨es,o,σ1⟩:=x
     simp only[Option.map_some,Ce]
     cases σ1.ins n (.row true (if o=true then .aj else .aF) sz es) with
     |none=>rfl
     |some σ2=>simp only[Option.map_some,qa]
  case store sz x v=>
   have h1:=aW x (by simp[aw.args])
   have h2:=aW v (by simp[aw.args])
   have hd:=hd sz x v rfl
   subst hd
   simp only[exec,h1,h2]
   cases σ.ev x with
   |one p=>cases p with
    |ptr n k au off=>
     cases (σ.ev v).cells? with
     |none=>rfl
     |some y=>
      obtain⟨ag,vs⟩:=y
      have:(σ.we e).h n=σ.h n:=rfl
      simp only[this]
      split
      ·cases σ.h n with
       |none=>rfl
       |some b=>cases b with
        |box cs=>simp only;split<;>rfl
        |row gr m rs xs=>
         simp only
         split
         ·cases xs[k]? with
          |none=>rfl
          |some el=>simp only[akV];rfl
         ·rfl
      ·rfl
    |cH n k au off s i=>
     cases (σ.ev v).cells? with
     |none=>rfl
     |some y=>
      obtain⟨ag,vs⟩:=y
      have:(σ.we e).h n=σ.h n:=rfl
      simp only[this]
      split
      ·cases σ.h n with
       |none=>rfl
       |some b=>cases b with
        |box cs=>rfl
        |row gr m rs xs=>cases m with
         |live=>
          simp only
          split
          ·cases s9 xs k off s i vs<;>rfl
          ·rfl
         |_=>rfl
      ·rfl
    |_=>cases (σ.ev v).cells?<;>rfl
   |agg cs=>cases (σ.ev v).cells?<;>rfl
   |aY cs=>cases (σ.ev v).cells?<;>rfl
  case append fl sz by_ x y=>
   have h1:=aW x (by simp[aw.args])
   have h2:=aW y (by simp[aw.args])
   simp only[exec,h1,h2,Z5]
   cases d with
   |none=>rfl
   |some n=>
    simp only
    cases nM σ sz (σ.ev x) with
    |none=>rfl
    |some z=>
     obtain⟨xs,m,σ1⟩:=z
     simp only[Option.map_some,Z7]
     cases jR fl σ1 sz m (σ.ev y) with
     |none=>rfl
     |some z=>
      obtain⟨ys,m2,σ2⟩:=z
      simp only[Option.map_some]
      split
      ·simp only[Ce]
       cases σ2.ins n (.row true m2 sz (xs++ys)) with
       |none=>rfl
       |some fm=>simp only[Option.map_some,qa]
      ·rfl
  case copy sz x y=>
   have h1:=aW x (by simp[aw.args])
   have h2:=aW y (by simp[aw.args])
   have h3:(σ.we e).h=σ.h:=rfl
   simp only[exec,h1,h2,h3]
   cases σ.ev x with
   |one p=>cases p with
    |sl n s lo len=>
     cases σ.ev y with
     |one c=>
      simp only
      cases σ.h n with
      |none=>rfl
      |some b=>cases b with
       |box cs=>rfl
       |row gr m rs xs=>
        cases bS σ.h c with
        |none=>rfl
        |some q=>cases q with
         |list s' ys=>
          simp only
          split
          ·exact congrArg some (qa (σ.df n _) e d _)
          ·rfl
         |_=>rfl
     |_=>rfl
    |_=>rfl
   |_=>rfl
  case jz z x=>
   have h1:=aW x (by simp[aw.args])
   have h3:(σ.we e).h=σ.h:=rfl
   simp only[exec,h1,h3]
   cases σ.ev x with
   |one p=>cases p with
    |sl n s lo len=>
     simp only
     cases σ.h n with
     |none=>rfl
     |some b=>cases b with
      |box cs=>rfl
      |row gr m rs xs=>
       simp only
       split
       ·exact congrArg some (qa (σ.df n _) e d _)
       ·rfl
    |_=>rfl
   |_=>rfl
  case mC ag sz x=>
   have h1:=aW x (by simp[aw.args])
   simp only[exec,h1]
   cases σ.ev x with
   |one p=>
    simp only[acF]
    cases σ.nZ p with
    |none=>rfl
    |some σ1=>
     simp only[Option.map_some]
     have h3:(σ1.we e).h=σ1.h:=rfl
     rw[h3]
     cases loadAt σ1.h p sz with
     |none=>rfl
     |some cs=>exact congrArg some (qa σ1 e d _)
   |_=>rfl
  case tail sz x y=>
   have h1:=aW x (by simp[aw.args])
   have h2:=aW y (by simp[aw.args])
   simp only[exec,h1,h2]
   cases d with
   |none=>rfl
   |some n=>
    generalize (σ.ev y).cZ=q
    cases hv:σ.ev x with
    |one p=>cases p with
     |sl a s lo len=>cases lo with
      |zero=>
       cases q with
       |none=>rfl
       |some l=>
        simp only
        have:(σ.we e).h a=σ.h a:=rfl
        rw[this]
        cases σ.h a with
        |none=>rfl
        |some b=>cases b with
         |box cs=>rfl
         |row gr m rs xs=>cases gr with
          |false=>rfl
          |true=>
           simp only
           split
           ·rw[show(σ.we e).del a=(σ.del a).we e from rfl,Ce]
            cases (σ.del a).ins n (.row true m sz (xs.drop l.toNat)) with
            |none=>rfl
            |some fm=>simp only[Option.map_some,qa]
           ·rfl
      |succ lo=>cases q<;>rfl
     |_=>cases q<;>rfl
    |_=>cases q<;>rfl
  case iZ m f xs=>
   have hl:xs.map (σ.we e).ev=xs.map σ.ev:=List.map_congr_left aW
   simp only[exec,hl,Sl]
  case iu f xs=>
   have hl:xs.map (σ.we e).ev=xs.map σ.ev:=List.map_congr_left aW
   simp only[exec,hl,aaZ]
  case kz m f x xs=>
   have h0:=aW x (by simp[aw.args])
   have hl:xs.map (σ.we e).ev=xs.map σ.ev:=List.map_congr_left fun y hy=>aW y (by simp[aw.args,hy])
   simp only[exec,hl,h0]
   cases σ.ev x with
   |one c=>cases c with
    |fn g bM=>
     simp only
     split
     ·exact aa0 _ _ _ _ _ _ _
     ·rfl
    |_=>rfl
   |agg cs=>rfl
   |aY xs=>rfl
  case kB m f xs=>
   have hl:xs.map (σ.we e).ev=xs.map σ.ev:=List.map_congr_left aW
   simp only[exec,hl,aa3]
section
variable {u vv:Nat->Prop} {h h':Nat->Option ak}
theorem agH (hh:∀n,u n->h' n=h n) {p:ae} (hp:∀m,p.ref m->u m) (sz:Nat):loadAt h' p sz=loadAt h p sz:=by
 cases p with
 |ptr n k au off=>simp only[loadAt,hh n (hp n rfl)]
 |_=>rfl
theorem ae.uQ {c:ae} {m:Nat} (h:c.gu m):c.ref m:=by
 cases c<;>first|exact h|exact h.elim
def ai.uR:ai->Nat->Prop
 |.one c,m=>c.gu m
 |.agg cs,m=>∃c∈cs,c.gu m
 |.aY _,_=>False
theorem ai.NQ {x:ai} {m:Nat} (h:x.uR m):x.ref m:=by
 cases x with
 |one c=>exact ae.uQ h
 |agg cs=>obtain⟨c,hc,h⟩:=h;exact⟨c,hc,ae.uQ h⟩
 |aY xs=>exact h.elim
theorem xv (hh:∀n,u n->h' n=h n) {p:ae} (hp:∀m,p.gu m->u m):bS h' p=bS h p:=by
 cases p with
 |sl n sz lo len=>simp only[bS,hh n (hp n rfl)]
 |bj n k au off sz len=>simp only[bS,hh n (hp n rfl)]
 |_=>rfl
theorem HG (hh:∀n,u n->h' n=h n):∀{l:List ae} (_:∀p∈l,∀m,p.gu m->u m),gZ h' l=gZ h l
 |[],_=>rfl
 |c::cs,hp=>by
  have h1:=xv hh (hp c (by simp))
  have h2:=HG hh (l:=cs) fun p q=>hp p (List.mem_cons_of_mem _ q)
  simp only[gZ,h1,h2]
theorem alo (hh:∀n,u n->h' n=h n) (hb:∀m cs c n,vv m->h m=some (.box cs)->c∈cs->c.ref n->u n) {x:ai} (hx:∀m,x.uR m->u m) (hv:∀m,x.uR m->vv m):f7 h' x=f7 h x:=by
 cases x with
 |one c=>cases c with
  |ptr n k sz off=>
   simp only[f7,hh n (hx n rfl)]
   cases hn:h n with
   |none=>rfl
   |some b=>cases b with
    |box cs=>simp only[HG hh fun p hp m hm=>hb n cs p m (hv n rfl) hn hp (ae.uQ hm)]
    |row gr m sz xs=>rfl
  |bV xs off=>rfl
  |c x=>rfl
  |nil sz=>rfl
  |sl n sz lo len=>simp only[f7];rw[xv hh (p:=.sl n sz lo len) hx]
  |bj n k au off sz len=>simp only[f7];rw[xv hh (p:=.bj n k au off sz len) hx]
  |cH n k au off sz i=>rfl
  |bD xs off j n sz len=>rfl
  |fn f bM=>rfl
  |bg=>rfl
 |agg cs=>simp only[f7,HG hh fun p hp m hm=>hx m ⟨p,hp,hm⟩]
 |aY xs=>rfl
theorem HE (hh:∀n,u n->h' n=h n) (hb:∀m cs c n,vv m->h m=some (.box cs)->c∈cs->c.ref n->u n):∀{xs:List ai} (_:∀x∈xs,∀m,x.uR m->u m) (_:∀x∈xs,∀m,x.uR m->vv m),jr h' xs=jr h xs
 |[],_,_=>rfl
 |x::xs,hx,hv=>by
  have h1:=alo hh hb (hx x (by simp)) (hv x (by simp))
  have h2:=HE hh hb (xs:=xs) (fun p q=>hx p (List.mem_cons_of_mem _ q)) (fun p q=>hv p (List.mem_cons_of_mem _ q))
  simp only[jr,h1,h2]
theorem agN (hh:∀n,u n->h' n=h n) {md:Mode} {c:ae} (hp:∀m,c.ref m->u m):pT h' md c=pT h md c:=by
 cases c with
 |sl n sz lo len=>simp only[pT,hh n (hp n rfl)]
 |bj n k au off sz len=>simp only[pT,hh n (hp n rfl)]
 |_=>rfl
theorem Uz (hh:∀n,u n->h' n=h n) (ns:List Nat):∀n,u n->dk h' ns n=dk h ns n:=fun n hn=>by simp only[dk,hh n hn]
theorem MG (hh:∀n,u n->h' n=h n) (ns:List Nat):∀(fs:List (Option Mode)) (cs:List ae),(∀c∈cs,∀m,c.ref m->u m)->gS h' (dk h' ns) fs cs=gS h (dk h ns) fs cs
 |[],cs,hc=>by simp only[gS,HG (Uz hh ns) fun p hp m hm=>hc p hp m (ae.uQ hm)]
 |none::fs,c::cs,hc=>by
  simp only[gS,xv (Uz hh ns) fun m hm=>hc c (by simp) m (ae.uQ hm),MG hh ns fs cs fun p hp=>hc p (by simp[hp])]
 |some md::fs,c::cs,hc=>by
  simp only[gS,agN hh (hc c (by simp)),MG hh ns fs cs fun p hp=>hc p (by simp[hp])]
 |none::_,[],_=>rfl
 |some _::_,[],_=>rfl
theorem Xc (hh:∀n,u n->h' n=h n) (ns:List Nat):∀(as:List (Bool×List ae)) (sig:aJ),(∀x∈as,∀c∈x.2,∀m,c.ref m->u m)->jH h' (dk h' ns) sig as=jH h (dk h ns) sig as
 |[],_,_=>rfl
 |(ag,cs)::as,sig,hc=>by
  simp only[jH,MG hh ns (aJ.hd sig) cs (hc (ag,cs) (by simp)),Xc hh ns as (aJ.tl sig) fun x hx=>hc x (by simp[hx])]
theorem MI:∀{fs:List (Option Mode)} {cs:List ae} {n:Nat},n∈ki fs cs->∃c∈cs,c.ref n
 |some _::fs,c::cs,n,hn=>by
  simp only[ki] at hn
  rcases List.mem_append.1 hn with h|h
  ·refine⟨c,by simp,?_⟩
   cases c<;>simp[ae.de] at h<;>(subst h;rfl)
  ·obtain⟨c',h1,h2⟩:=MI h
   exact⟨c',by simp[h1],h2⟩
 |none::fs,c::cs,n,hn=>by
  simp only[ki] at hn
  obtain⟨c',h1,h2⟩:=MI hn
  exact⟨c',by simp[h1],h2⟩
 |[],_,n,hn=>by simp[ki] at hn
 |some _::_,[],n,hn=>by simp[ki] at hn
 |none::_,[],n,hn=>by simp[ki] at hn
theorem W9:∀{as:List (Bool×List ae)} {sig:aJ} {n:Nat},n∈lK sig as->∃x∈as,∃c∈x.2,c.ref n
 |a::as,s::sig,n,hn=>by
  simp only[lK] at hn
  rcases List.mem_append.1 hn with h|h
  ·obtain⟨c,h1,h2⟩:=MI h
   exact⟨a,by simp,c,h1,h2⟩
  ·obtain⟨x,h1,h2⟩:=W9 h
   exact⟨x,by simp[h1],h2⟩
 |[],s::sig,n,hn=>by simp[lK] at hn
 |as,[],n,hn=>by cases as<;>simp[lK] at hn
theorem WX:∀{as:List ai} {bT:List (Bool×List ae)},nz as=some bT->∀x∈bT,∀c∈x.2,∀m,c.ref m->∃v∈as,v.ref m
 |[],bT,hx,x,hm=>by simp only[nz] at hx;injection hx with hx;subst hx;cases hm
 |v::vs,bT,hx,x,hm=>by
  simp only[nz] at hx
  split at hx
  ·rename_i y ys e1 e2
   injection hx with hx
   subst hx
   intro c hc m hr
   cases hm with
   |head=>exact⟨v,by simp,ai.vG e1 hc hr⟩
   |tail _ hm=>
    obtain⟨v',h1,h2⟩:=WX e2 x hm c hc m hr
    exact⟨v',by simp[h1],h2⟩
  ·cases hx
theorem aa2 (hh:∀n,u n->h' n=h n) {T:aA} {f:FuncId} {as:List ai} (hx:∀x∈as,∀m,x.ref m->u m):mX T f as h'=mX T f as h:=by
 unfold mX
 cases aA.pt T.ws f with
 |none=>rfl
 |some M=>
  obtain⟨sig,M⟩:=M
  cases hc:nz as with
  |none=>rfl
  |some bT=>
   have hr:∀x∈bT,∀c∈x.2,∀m,c.ref m->u m:=fun x h1 c h2 m h3=>by
    obtain⟨v,a1,a2⟩:=WX hc x h1 c h2 m h3
    exact hx v a1 m a2
   simp only
   cases hn:lK sig bT with
   |nil=>rfl
   |cons n l=>
    cases l with
    |cons n2 l=>rfl
    |nil=>
     obtain⟨x,h1,c,h2,h3⟩:=W9 (n:=n) (sig:=sig) (as:=bT) (by rw[hn];simp)
     simp only[Xc hh [n] bT sig hr,hh n (hr x h1 c h2 n h3)]
theorem XK (T:aA) (d:Option Nat) (op:aw) (ev:MO->ai) (hh:∀n,u n->h' n=h n) (sr:op.Cf=true->∀m cs c n,vv m->h m=some (.box cs)->c∈cs->c.ref n->u n)
  (hx:∀x∈op.args,∀m,(ev x).ref m->u m) (pO:∀x∈op.args,∀m,(ev x).ref m->vv m):rd T d op ev h'=rd T d op ev h:=by
 cases op with
 |load ag sz x=>
  have h1:=hx x (by simp[aw.args])
  simp only[rd]
  cases hv:ev x with
  |one p=>rw[hv] at h1;simp only[agH hh (p:=p) h1]
  |_=>rfl
 |mG x=>
  have h1:=hx x (by simp[aw.args])
  simp only[rd]
  cases hv:ev x with
  |one p=>cases p with
   |ptr n k sz off=>rw[hv] at h1;simp only[hh n (h1 n rfl)]
   |_=>rfl
  |_=>rfl
 |aB off x=>
  have h1:=hx x (by simp[aw.args])
  simp only[rd]
  cases hv:ev x with
  |one p=>cases p with
   |ptr n k sz off=>rw[hv] at h1;simp only[hh n (h1 n rfl)]
   |_=>rfl
  |_=>rfl
 |len x=>
  have h1:=hx x (by simp[aw.args])
  simp only[rd]
  cases hv:ev x with
  |one p=>cases p with
   |sl n sz lo len=>rw[hv] at h1;simp only[hh n (h1 n rfl)]
   |bj n k au off sz len=>rw[hv] at h1;simp only[xv hh (p:=.bj n k au off sz len) (fun m hm=>h1 m (ae.uQ hm))]
   |c x=>cases x<;>rfl
   |_=>rfl
  |_=>rfl
 |mK f bw x=>
  have h1:=hx x (by simp[aw.args])
  simp only[rd]
  cases hv:ev x with
  |one p=>cases p with
   |sl n sz lo len=>rw[hv] at h1;simp only[hh n (h1 n rfl)]
   |c x=>cases x<;>rfl
   |_=>rfl
  |_=>rfl
 |cR sz x i=>
  have h1:=hx x (by simp[aw.args])
  simp only[rd]
  generalize (ev i).cZ=q
  cases hv:ev x with
  |one p=>cases p with
   |sl n s lo len=>
    rw[hv] at h1
    have h2:=hh n (h1 n rfl)
    cases q with
    |none=>rfl
    |some q=>simp only[h2]
   |bj n k au off s len=>
    rw[hv] at h1
    cases q with
    |none=>rfl
    |some q=>simp only[xv hh (p:=.bj n k au off s len) (fun m hm=>h1 m (ae.uQ hm))]
   |c x=>cases x<;>cases q<;>rfl
   |_=>cases q<;>rfl
  |_=>cases q<;>rfl
 |slice sz x lo hi=>
  have h1:=hx x (by simp[aw.args])
  simp only[rd]
  cases hv:ev x with
  |one p=>cases p with
   |sl n s l0 len=>
    rw[hv] at h1
    have h2:=hh n (h1 n rfl)
    cases lo with
    |none=>simp only[h2]
    |some lo=>
     simp only
     cases (ev lo).cZ with
     |none=>rfl
     |some q=>simp only[h2]
   |c x=>cases lo with
    |none=>cases x<;>rfl
    |some lo=>
     simp only
     cases (ev lo).cZ<;>cases x<;>rfl
   |_=>cases lo<;>rfl
  |_=>cases lo<;>rfl
 |call m f xs=>
  simp only[rd,x8]
  have go:∀u':Nat->Prop,(∀x∈(aw.call m f xs).args,∀m,(ev x).ref m->u' m)->∀x∈xs.map ev,∀m,x.uR m->u' m:=by
   intro u' hx x sK q hq
   obtain⟨y,hy,rfl⟩:=List.mem_map.1 sK
   exact hx y hy q (ai.NQ hq)
  rw[HE hh (sr rfl) (go _ hx) (go _ pO)]
 |kw f xs=>
  simp only[rd,rY]
  have go:∀u':Nat->Prop,(∀x∈(aw.kw f xs).args,∀m,(ev x).ref m->u' m)->∀x∈xs.map ev,∀m,x.uR m->u' m:=by
   intro u' hx x sK q hq
   obtain⟨y,hy,rfl⟩:=List.mem_map.1 sK
   exact hx y hy q (ai.NQ hq)
  rw[HE hh (sr rfl) (go _ hx) (go _ pO)]
 |kx f xs=>rfl
 |kA f xs=>
  have:mX T f (xs.map ev) h'=mX T f (xs.map ev) h:=aa2 hh fun x sK q hq=>by
   obtain⟨y,hy,rfl⟩:=List.mem_map.1 sK
   exact hx y hy q hq
  simp only[rd,this]
 |ky m x xs=>
  simp only[rd]
  cases hv:ev x with
  |one p=>cases p with
   |fn f bM=>
    simp only[x8]
    have go:∀u':Nat->Prop,(∀y∈(aw.ky m x xs).args,∀m,(ev y).ref m->u' m)->∀y∈xs.map ev++bM.map ai.one,∀m,y.uR m->u' m:=by
     intro u' hx y hym q hq
     rcases List.mem_append.1 hym with hy|hy
     ·obtain⟨z,hz,rfl⟩:=List.mem_map.1 hy
      exact hx z (by simp[aw.args,hz]) q (ai.NQ hq)
     ·obtain⟨z,hz,rfl⟩:=List.mem_map.1 hy
      refine hx x (by simp[aw.args]) q ?_
      rw[hv]
      exact⟨z,hz,hq⟩
    rw[HE hh (sr rfl) (go _ hx) (go _ pO)]
   |_=>rfl
  |_=>rfl
 |_=>rfl
theorem XJ (T:aA) (d:Option Nat) (op:aw) (ev:MO->ai) (hh:∀n,u n->h' n=h n) (hb:∀m cs c n,h m=some (.box cs)->c∈cs->c.ref n->u n)
  (hx:∀x∈op.args,∀m,(ev x).ref m->u m):rd T d op ev h'=rd T d op ev h:=
 XK (vv:=fun _=>True) T d op ev hh (fun _ m cs c n _=>hb m cs c n) hx (fun _ _ _ _=>trivial)
theorem XM (T:aA) (d:Option Nat) (op:aw) (ev:MO->ai) (h h':Nat->Option ak) (hc:op.dq=0):rd T d op ev h'=rd T d op ev h:=by
 cases op<;>simp[aw.dq] at hc<;>rfl
end
end Go.Am
