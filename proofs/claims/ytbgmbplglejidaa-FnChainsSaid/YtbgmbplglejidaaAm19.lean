/- Am19: operations that may change places, continued. No condition. -/
import Derived.Test.YtbgmbplglejidaaAm18
set_option linter.unusedVariables false
namespace Go.Am
def St.we (σ:St) (e:Nat->aj):St:={σ with env:=e}
def vd (e:Nat->aj) (d:Option Nat) (x:Nat->aj):Nat->aj:=
 match d with
 |some n=>au e n (x n)
 |none=>e
theorem apB (σ:St):σ.we σ.env=σ:=rfl
theorem ta (σ:St) (e:Nat->aj) (d:Option Nat) (v:aj):(σ.we e).put d v=(σ.put d v).we (vd e d (σ.put d v).env):=by
 cases d with
 |none=>rfl
 |some n=>simp[St.put,St.we,vd,bF]
theorem Ef (σ:St) (e:Nat->aj) (n:Nat) (b:ao):(σ.we e).ins n b=(σ.ins n b).map (·.we e):=by
 unfold St.ins
 by_cases h:σ.used n=true
 ·rw[if_pos h,if_pos (show(σ.we e).used n=true from h)];rfl
 ·rw[if_neg h,if_neg (show¬(σ.we e).used n=true from h)];rfl
theorem yG:∀(l:List (Nat×ao)) (σ:St) (e:Nat->aj),(σ.we e).cA l=(σ.cA l).map (·.we e)
 |[],σ,e=>rfl
 |(n,b)::l,σ,e=>by
  simp only[St.cA,Ef]
  cases σ.ins n b with
  |none=>rfl
  |some σ1=>exact yG l σ1 e
theorem api (σ:St) (e:Nat->aj) (c:ah):(σ.we e).fS c=(σ.fS c).map fun x=>(x.1,x.2.1,x.2.2.we e):=by
 cases c with
 |c x=>rfl
 |nil sz=>simp only[St.fS];split<;>rfl
 |sl n sz lo len=>
  have:(σ.we e).h n=σ.h n:=rfl
  simp only[St.fS,this]
  cases σ.h n with
  |none=>rfl
  |some b=>cases b with
   |box cs=>rfl
   |row gr m rs xs=>simp only;split<;>rfl
 |_=>rfl
theorem Fo:∀(cs:List ah) (σ:St) (e:Nat->aj),(σ.we e).ft cs=(σ.ft cs).map fun x=>(x.1,x.2.1,x.2.2.we e)
 |[],σ,e=>rfl
 |c::cs,σ,e=>by
  simp only[St.ft,api]
  cases σ.fS c with
  |none=>rfl
  |some x=>
   obtain⟨x,o,σ1⟩:=x
   simp only[Option.map_some,Fo cs σ1 e]
   cases σ1.ft cs<;>rfl
theorem agJ (σ:St) (e:Nat->aj) (p:ah):(σ.we e).qa p=(σ.qa p).map (·.we e):=by
 cases p with
 |ptr n k sz off=>
  have h3:(σ.we e).h=σ.h:=rfl
  simp only[St.qa,h3]
  cases σ.h n with
  |none=>rfl
  |some b=>
   cases b with
   |row gr m rs xs=>rfl
   |box cs=>
    simp only[Fo]
    cases σ.ft cs with
    |none=>rfl
    |some x=>rfl
 |_=>rfl
theorem acP (sz:Nat):∀(vs:List aj) (σ:St) (e:Nat->aj),(σ.we e).kU sz vs=(σ.kU sz vs).map fun x=>(x.1,x.2.1,x.2.2.we e)
 |[],σ,e=>rfl
 |v::vs,σ,e=>by
  simp only[St.kU]
  cases v.cells? with
  |none=>rfl
  |some x=>
   obtain⟨ag,cs⟩:=x
   simp only
   split
   ·simp only[Fo]
    cases σ.ft cs with
    |none=>rfl
    |some y=>
     obtain⟨y,o,σ1⟩:=y
     simp only[Option.map_some,acP sz vs σ1 e]
     cases σ1.kU sz vs<;>rfl
   ·rfl
theorem adu (σ:St) (e:Nat->aj) (sz:Nat) (v:aj):pP (σ.we e) sz v=(pP σ sz v).map fun x=>(x.1,x.2.1,x.2.2.we e):=by
 cases v with
 |one v=>cases v with
  |sl a s lo len=>cases lo with
   |zero=>
    have:(σ.we e).h a=σ.h a:=rfl
    simp only[pP,this]
    cases σ.h a with
    |none=>rfl
    |some b=>cases b with
     |box cs=>rfl
     |row gr m rs xs=>cases gr with
      |true=>simp only;split<;>rfl
      |false=>rfl
   |succ lo=>rfl
  |_=>rfl
 |_=>rfl
theorem adw (fl:Bool) (σ:St) (e:Nat->aj) (sz:Nat) (m:Mode) (v:aj):lm fl (σ.we e) sz m v=(lm fl σ sz m v).map fun x=>(x.1,x.2.1,x.2.2.we e):=by
 cases v with
 |one v=>cases v with
  |sl b s lo len=>
   have:(σ.we e).h b=σ.h b:=rfl
   simp only[lm,this]
   cases σ.h b with
   |none=>rfl
   |some b=>cases b with
    |box cs=>rfl
    |row gr m rs xs=>
     simp only
     repeat' split
     all_goals rfl
  |c x=>cases x with
   |list s ys=>
    simp only[lm]
    repeat' split
    all_goals rfl
   |_=>rfl
  |_=>rfl
 |_=>rfl
theorem ao0 (σ:St) (e:Nat->aj) (n:Nat) (gr:Bool) (m:Mode) (rs:Nat) (xs:List (List C)) (k off:Nat) (el:List C) (vs:List ah):
  mX (σ.we e) n gr m rs xs k off el vs=(mX σ n gr m rs xs k off el vs).map (·.we e):=by
 simp only[mX,Fo]
 cases sub el off vs.length with
 |none=>rfl
 |some fq=>
  simp only
  cases σ.ft vs with
  |none=>rfl
  |some x=>
   obtain⟨cs,o,σ1⟩:=x
   have:(σ1.we e).h n=σ1.h n:=rfl
   simp only[Option.map_some,this]
   repeat' split
   all_goals rfl
theorem B0 (T:aO) (d:Option Nat) (op:aE) {ev ev':MO->aj} (h:Nat->Option ao) (bo:∀x∈op.args,ev' x=ev x):rd T d op ev' h=rd T d op ev h:=by
 have hl:∀xs:List MO,(∀x∈xs,ev' x=ev x)->xs.map ev'=xs.map ev:=fun xs hx=>List.map_congr_left hx
 have hp:∀(ps:List (Nat×Nat×MO)) (zs:List ah),(∀x∈ps.map (·.2.2),ev' x=ev x)->pH ev' zs ps=pH ev zs ps:=by
  intro ps
  induction ps with
  |nil=>intro zs _;rfl
  |cons p ps ih=>
   intro zs hx
   obtain⟨off,sz,x⟩:=p
   simp only[pH]
   rw[hx x (by simp)]
   cases (ev x).cells? with
   |none=>rfl
   |some y=>
    simp only
    split
    ·exact ih _ fun z hz=>hx z (by simp at hz⊢;exact .inr hz)
    ·rfl
 cases op with
 |build zs ps=>simp only[rd];rw[hp ps zs bo]
 |call m f xs=>simp only[rd];rw[hl xs bo]
 |mh f xs=>simp only[rd];rw[hl xs bo]
 |mq f xs=>simp only[rd];rw[hl xs bo]
 |lv f xs=>simp only[rd];rw[hl xs bo]
 |pq f xs=>simp only[rd];rw[hl xs bo]
 |mn m x xs=>simp only[rd];rw[bo x (by simp[aE.args]),hl xs fun y hy=>bo y (by simp[aE.args,hy])]
 |slice sz x lo hi=>
  have h1:=bo x (by simp[aE.args])
  cases lo with
  |none=>cases hi with
   |none=>simp only[rd,h1]
   |some hi=>have h3:=bo hi (by simp[aE.args]);simp only[rd,h1,h3]
  |some lo=>
   have h2:=bo lo (by simp[aE.args])
   cases hi with
   |none=>simp only[rd,h1,h2]
   |some hi=>have h3:=bo hi (by simp[aE.args]);simp only[rd,h1,h2,h3]
 |mv x=>have h1:=bo x (by simp[aE.args]);simp only[rd,h1]
 |pick x y z=>have h1:=bo x (by simp[aE.args]);have h2:=bo y (by simp[aE.args]);have h3:=bo z (by simp[aE.args]);simp only[rd,h1,h2,h3]
 |alloc zs=>rfl
 |box sz x=>have h1:=bo x (by simp[aE.args]);simp only[rd,h1]
 |fI sz ps=>rfl
 |gd m f xs=>rfl
 |du f xs=>rfl
 |load ag sz x=>have h1:=bo x (by simp[aE.args]);simp only[rd,h1]
 |store sz x v=>rfl
 |gE x=>have h1:=bo x (by simp[aE.args]);simp only[rd,h1]
 |bin op x y=>have h1:=bo x (by simp[aE.args]);have h2:=bo y (by simp[aE.args]);simp only[rd,h1,h2]
 |oF op x y=>have h1:=bo x (by simp[aE.args]);have h2:=bo y (by simp[aE.args]);simp only[rd,h1,h2]
 |un op x=>have h1:=bo x (by simp[aE.args]);simp only[rd,h1]
 |conv k x=>have h1:=bo x (by simp[aE.args]);simp only[rd,h1]
 |jF m sz by_ zs x y=>have h1:=bo x (by simp[aE.args]);have h2:=bo y (by simp[aE.args]);simp only[rd,h1,h2]
 |aF off x=>have h1:=bo x (by simp[aE.args]);simp only[rd,h1]
 |bX sz x y=>have h1:=bo x (by simp[aE.args]);have h2:=bo y (by simp[aE.args]);simp only[rd,h1,h2]
 |ext i x=>have h1:=bo x (by simp[aE.args]);simp only[rd,h1]
 |oM ag off sz x=>have h1:=bo x (by simp[aE.args]);simp only[rd,h1]
 |ou f bH x=>have h1:=bo x (by simp[aE.args]);simp only[rd,h1]
 |len x=>have h1:=bo x (by simp[aE.args]);simp only[rd,h1]
 |append fl sz by_ x y=>rfl
 |tail sz x lo=>rfl
 |mQ ag sz x=>rfl
 |copy sz x y=>rfl
 |kB z x=>rfl
 |mm b x y=>have h1:=bo x (by simp[aE.args]);have h2:=bo y (by simp[aE.args]);simp only[rd,h1,h2]
theorem KK (σ:St) (e:Nat->aj):(σ.we e).h=σ.h:=rfl
theorem anf (σ:St) (e:Nat->aj) (it:cM) (x:C):(σ.we e).nr it x=(σ.nr it x).map (·.we e):=by
 cases it with
 |nil sz=>rfl
 |row n=>
  cases x with
  |int k i=>rfl
  |bool b=>rfl
  |list sz xs=>
   simp only[St.nr,KK]
   cases σ.h n with
   |none=>rfl
   |some b=>
    cases b with
    |box cs=>rfl
    |row gr m rs kA=>simp only;split<;>rfl
 |nest n k off=>
  simp only[St.nr,KK]
  cases σ.h n with
  |none=>rfl
  |some b=>
   cases b with
   |box cs=>rfl
   |row gr m rs kA=>
    simp only
    cases kA[k]? with
    |none=>rfl
    |some el=>rfl
theorem aa6:∀(its:List (cM×Mode)) (eV:List C) (σ:St) (e:Nat->aj),(σ.we e).pC its eV=(σ.pC its eV).map (·.we e)
 |[],[],σ,e=>rfl
 |it::its,x::eV,σ,e=>by
  simp only[St.pC,anf]
  cases σ.nr it.1 x with
  |none=>rfl
  |some σ1=>exact aa6 its eV σ1 e
 |[],_::_,σ,e=>rfl
 |_::_,[],σ,e=>rfl
theorem ahX (m:Mode) (σ:St) (e:Nat->aj) (nm:Nat) (ds:List Dv):(σ.we e).jC m nm ds=(σ.jC m nm ds).map fun x=>(x.1,x.2.we e):=by
 simp only[O4]
 cases wv m nm ds with
 |none=>rfl
 |some x=>
  simp only[Option.bind_some,yG]
  cases σ.cA x.2 with
  |none=>rfl
  |some σ1=>rfl
theorem aeB (T:aO) (m:Mode) (d:Option Nat) (f:FuncId) (as:List aj) (σ:St) (e:Nat->aj):
  tJ T m d f as (σ.we e)=(tJ T m d f as σ).map fun τ=>τ.we (vd e d τ.env):=by
 unfold tJ
 cases aO.rl T.BN f with
 |none=>rfl
 |some z=>
  obtain⟨sig,M⟩:=z
  cases pj as with
  |none=>rfl
  |some dm=>
   simp only
   by_cases gi:(jV sig dm).Nodup
   ·rw[if_pos gi,if_pos gi]
    show(match kO σ.h (dN σ.h (jV sig dm)) sig dm with|some (ds,its)=>_|none=>none)=_
    cases kO σ.h (dN σ.h (jV sig dm)) sig dm with
    |none=>rfl
    |some z=>
     obtain⟨ds,its⟩:=z
     simp only
     cases M ds with
     |none=>rfl
     |some z=>
      obtain⟨rs,eV⟩:=z
      simp only[aa6]
      cases σ.pC its eV with
      |none=>rfl
      |some σ1=>
       simp only[Option.map_some,ahX]
       cases σ1.jC m (yW d) rs with
       |none=>rfl
       |some z=>
        obtain⟨ls,σ2⟩:=z
        simp only[Option.map_some,ta]
   ·rw[if_neg gi,if_neg gi];rfl
theorem LU:∀(as:List aj) (σ:St) (e:Nat->aj),(σ.we e).gK as=(σ.gK as).map fun x=>(x.1,x.2.1,x.2.2.we e)
 |[],σ,e=>rfl
 |v::as,σ,e=>by
  simp only[St.gK,KK,Fo]
  cases lr σ.h v with
  |some x=>
   obtain⟨n,xs⟩:=x
   simp only[LU as σ e]
   cases σ.gK as<;>rfl
  |none=>
   simp only
   cases v.cells? with
   |none=>rfl
   |some x=>
    obtain⟨ag,cs⟩:=x
    simp only
    cases σ.ft cs with
    |none=>rfl
    |some y=>
     obtain⟨xs,o,σ1⟩:=y
     simp only[Option.map_some,LU as σ1 e]
     cases σ1.gK as<;>rfl
theorem anc (σ:St) (e:Nat->aj) (ns:List Nat) (out:List C):(σ.we e).qB ns out=(σ.qB ns out).map (·.we e):=by
 match ns,out with
 |[],[]=>rfl
 |[],_::_=>rfl
 |[n],out=>
  simp only[St.qB,KK]
  cases σ.h n with
  |none=>rfl
  |some b=>
   cases b with
   |box cs=>simp only;split<;>rfl
   |row gr m rs xs=>rfl
 |_::_::_,out=>rfl
theorem adL (σ:St) (e:Nat->aj) (d:Option Nat) (rs:List Dv):pQ (σ.we e) d rs=(pQ σ d rs).map fun τ=>τ.we (vd e d τ.env):=by
 unfold pQ
 split
 ·cases d with
  |none=>rfl
  |some q=>
   simp only[Ef]
   cases σ.ins q _ with
   |none=>rfl
   |some σ1=>simp only[Option.map_some,ta]
 ·cases gx rs with
  |none=>rfl
  |some ls=>simp only[Option.map_some,ta]
theorem aeA (T:aO) (d:Option Nat) (f:FuncId) (as:List aj) (σ:St) (e:Nat->aj):
  pU T d f as (σ.we e)=(pU T d f as σ).map fun τ=>τ.we (vd e d τ.env):=by
 unfold pU
 rw[LU]
 cases σ.gK as with
 |none=>rfl
 |some x=>
  obtain⟨ds,ns,σ1⟩:=x
  simp only[Option.map_some]
  cases aO.j8 T.vs f with
  |none=>rfl
  |some M=>
   simp only
   cases M ds with
   |none=>rfl
   |some z=>
    obtain⟨rs,out⟩:=z
    simp only[anc]
    cases σ1.qB ns out with
    |none=>rfl
    |some σ2=>exact adL σ2 e d rs
theorem Mz (T:aO) (d:Option Nat) (op:aE) (σ:St) (e:Nat->aj) (bo:∀x∈op.args,(σ.we e).ev x=σ.ev x) (hd:∀sz x v,op=.store sz x v->d=none):
  exec T d op (σ.we e)=(exec T d op σ).map fun τ=>τ.we (vd e d τ.env):=by
 by_cases hc:op.dE<=1
 ·rw[oJ T d op _ hc,oJ T d op _ hc,B0 T d op _ bo]
  show Option.bind (rd T d op σ.ev σ.h) _=_
  cases rd T d op σ.ev σ.h with
  |none=>rfl
  |some x=>
   simp only[Option.bind_some,fin,yG]
   cases σ.cA x.2 with
   |none=>rfl
   |some σ1=>simp only[Option.map_some,ta]
 ·cases op<;>simp[aE.dE] at hc
  case fI sz ps=>
   have hl:ps.map (σ.we e).ev=ps.map σ.ev:=List.map_congr_left bo
   simp only[exec,hl,acP]
   cases d with
   |none=>rfl
   |some n=>
    cases σ.kU sz (ps.map σ.ev) with
    |none=>rfl
    |some x=>
     obtain⟨es,o,σ1⟩:=x
     simp only[Option.map_some,Ef]
     cases σ1.ins n (.row true (if o=true then .ae else .aD) sz es) with
     |none=>rfl
     |some σ2=>simp only[Option.map_some,ta]
  case store sz x v=>
   have h1:=bo x (by simp[aE.args])
   have h2:=bo v (by simp[aE.args])
   have hd:=hd sz x v rfl
   subst hd
   simp only[exec,h1,h2]
   cases σ.ev x with
   |one p=>cases p with
    |ptr n k az off=>
     cases (σ.ev v).cells? with
     |none=>rfl
     |some y=>
      obtain⟨ag,vs⟩:=y
      have:(σ.we e).h n=σ.h n:=rfl
      simp only[this]
      split
      ·cases σ.h n with
       |none=>rfl
       |some b=>cases b with
        |box cs=>simp only;split<;>rfl
        |row gr m rs xs=>
         simp only
         split
         ·cases xs[k]? with
          |none=>rfl
          |some el=>simp only[ao0];rfl
         ·rfl
      ·rfl
    |cQ n k az off s i=>
     cases (σ.ev v).cells? with
     |none=>rfl
     |some y=>
      obtain⟨ag,vs⟩:=y
      have:(σ.we e).h n=σ.h n:=rfl
      simp only[this]
      split
      ·cases σ.h n with
       |none=>rfl
       |some b=>cases b with
        |box cs=>rfl
        |row gr m rs xs=>cases m with
         |live=>
          simp only
          split
          ·cases u4 xs k off s i vs<;>rfl
          ·rfl
         |_=>rfl
      ·rfl
    |_=>cases (σ.ev v).cells?<;>rfl
   |agg cs=>cases (σ.ev v).cells?<;>rfl
   |bn cs=>cases (σ.ev v).cells?<;>rfl
  case append fl sz by_ x y=>
   have h1:=bo x (by simp[aE.args])
   have h2:=bo y (by simp[aE.args])
   simp only[exec,h1,h2,adu]
   cases d with
   |none=>rfl
   |some n=>
    simp only
    cases pP σ sz (σ.ev x) with
    |none=>rfl
    |some z=>
     obtain⟨xs,m,σ1⟩:=z
     simp only[Option.map_some,adw]
     cases lm fl σ1 sz m (σ.ev y) with
     |none=>rfl
     |some z=>
      obtain⟨ys,m2,σ2⟩:=z
      simp only[Option.map_some]
      split
      ·simp only[Ef]
       cases σ2.ins n (.row true m2 sz (xs++ys)) with
       |none=>rfl
       |some gI=>simp only[Option.map_some,ta]
      ·rfl
  case copy sz x y=>
   have h1:=bo x (by simp[aE.args])
   have h2:=bo y (by simp[aE.args])
   have h3:(σ.we e).h=σ.h:=rfl
   simp only[exec,h1,h2,h3]
   cases σ.ev x with
   |one p=>cases p with
    |sl n s lo len=>
     cases σ.ev y with
     |one c=>
      simp only
      cases σ.h n with
      |none=>rfl
      |some b=>cases b with
       |box cs=>rfl
       |row gr m rs xs=>
        cases cg σ.h c with
        |none=>rfl
        |some q=>cases q with
         |list s' ys=>
          simp only
          split
          ·exact congrArg some (ta (σ.dn n _) e d _)
          ·rfl
         |_=>rfl
     |_=>rfl
    |_=>rfl
   |_=>rfl
  case kB z x=>
   have h1:=bo x (by simp[aE.args])
   have h3:(σ.we e).h=σ.h:=rfl
   simp only[exec,h1,h3]
   cases σ.ev x with
   |one p=>cases p with
    |sl n s lo len=>
     simp only
     cases σ.h n with
     |none=>rfl
     |some b=>cases b with
      |box cs=>rfl
      |row gr m rs xs=>
       simp only
       split
       ·exact congrArg some (ta (σ.dn n _) e d _)
       ·rfl
    |_=>rfl
   |_=>rfl
  case mQ ag sz x=>
   have h1:=bo x (by simp[aE.args])
   simp only[exec,h1]
   cases σ.ev x with
   |one p=>
    simp only[agJ]
    cases σ.qa p with
    |none=>rfl
    |some σ1=>
     simp only[Option.map_some]
     have h3:(σ1.we e).h=σ1.h:=rfl
     rw[h3]
     cases loadAt σ1.h p sz with
     |none=>rfl
     |some cs=>exact congrArg some (ta σ1 e d _)
   |_=>rfl
  case tail sz x y=>
   have h1:=bo x (by simp[aE.args])
   have h2:=bo y (by simp[aE.args])
   simp only[exec,h1,h2]
   cases d with
   |none=>rfl
   |some n=>
    generalize (σ.ev y).df=q
    cases hv:σ.ev x with
    |one p=>cases p with
     |sl a s lo len=>cases lo with
      |zero=>
       cases q with
       |none=>rfl
       |some l=>
        simp only
        have:(σ.we e).h a=σ.h a:=rfl
        rw[this]
        cases σ.h a with
        |none=>rfl
        |some b=>cases b with
         |box cs=>rfl
         |row gr m rs xs=>cases gr with
          |false=>rfl
          |true=>
           simp only
           split
           ·rw[show(σ.we e).del a=(σ.del a).we e from rfl,Ef]
            cases (σ.del a).ins n (.row true m sz (xs.drop l.toNat)) with
            |none=>rfl
            |some gI=>simp only[Option.map_some,ta]
           ·rfl
      |succ lo=>cases q<;>rfl
     |_=>cases q<;>rfl
    |_=>cases q<;>rfl
  case gd m f xs=>
   have hl:xs.map (σ.we e).ev=xs.map σ.ev:=List.map_congr_left bo
   simp only[exec,hl,aeB]
  case du f xs=>
   have hl:xs.map (σ.we e).ev=xs.map σ.ev:=List.map_congr_left bo
   simp only[exec,hl,aeA]
section
variable {u vv:Nat->Prop} {h h':Nat->Option ao}
theorem ajp (hh:∀n,u n->h' n=h n) {p:ah} (hp:∀m,p.ref m->u m) (sz:Nat):loadAt h' p sz=loadAt h p sz:=by
 cases p with
 |ptr n k az off=>simp only[loadAt,hh n (hp n rfl)]
 |_=>rfl
theorem ah.wS {c:ah} {m:Nat} (h:c.iD m):c.ref m:=by
 cases c<;>first|exact h|exact h.elim
def aj.wT:aj->Nat->Prop
 |.one c,m=>c.iD m
 |.agg cs,m=>∃c∈cs,c.iD m
 |.bn _,_=>False
theorem aj.Rv {x:aj} {m:Nat} (h:x.wT m):x.ref m:=by
 cases x with
 |one c=>exact ah.wS h
 |agg cs=>obtain⟨c,hc,h⟩:=h;exact⟨c,hc,ah.wS h⟩
 |bn xs=>exact h.elim
theorem zw (hh:∀n,u n->h' n=h n) {p:ah} (hp:∀m,p.iD m->u m):cg h' p=cg h p:=by
 cases p with
 |sl n sz lo len=>simp only[cg,hh n (hp n rfl)]
 |bz n k az off sz len=>simp only[cg,hh n (hp n rfl)]
 |_=>rfl
theorem KG (hh:∀n,u n->h' n=h n):∀{l:List ah} (_:∀p∈l,∀m,p.iD m->u m),gG h' l=gG h l
 |[],_=>rfl
 |c::cs,hp=>by
  have h1:=zw hh (hp c (by simp))
  have h2:=KG hh (l:=cs) fun p q=>hp p (List.mem_cons_of_mem _ q)
  simp only[gG,h1,h2]
theorem apy (hh:∀n,u n->h' n=h n) (hb:∀m cs c n,vv m->h m=some (.box cs)->c∈cs->c.ref n->u n) {x:aj} (hx:∀m,x.wT m->u m) (hv:∀m,x.wT m->vv m):ig h' x=ig h x:=by
 cases x with
 |one c=>cases c with
  |ptr n k sz off=>
   simp only[ig,hh n (hx n rfl)]
   cases hn:h n with
   |none=>rfl
   |some b=>cases b with
    |box cs=>simp only[KG hh fun p hp m hm=>hb n cs p m (hv n rfl) hn hp (ah.wS hm)]
    |row gr m sz xs=>rfl
  |cu xs off=>rfl
  |c x=>rfl
  |nil sz=>rfl
  |sl n sz lo len=>simp only[ig];rw[zw hh (p:=.sl n sz lo len) hx]
  |bz n k az off sz len=>simp only[ig];rw[zw hh (p:=.bz n k az off sz len) hx]
  |cQ n k az off sz i=>rfl
  |fn f cr=>rfl
  |bm=>rfl
 |agg cs=>simp only[ig,KG hh fun p hp m hm=>hx m ⟨p,hp,hm⟩]
 |bn xs=>rfl
theorem KF (hh:∀n,u n->h' n=h n) (hb:∀m cs c n,vv m->h m=some (.box cs)->c∈cs->c.ref n->u n):∀{xs:List aj} (_:∀x∈xs,∀m,x.wT m->u m) (_:∀x∈xs,∀m,x.wT m->vv m),kx h' xs=kx h xs
 |[],_,_=>rfl
 |x::xs,hx,hv=>by
  have h1:=apy hh hb (hx x (by simp)) (hv x (by simp))
  have h2:=KF hh hb (xs:=xs) (fun p q=>hx p (List.mem_cons_of_mem _ q)) (fun p q=>hv p (List.mem_cons_of_mem _ q))
  simp only[kx,h1,h2]
theorem aju (hh:∀n,u n->h' n=h n) {md:Mode} {c:ah} (hp:∀m,c.ref m->u m):rR h' md c=rR h md c:=by
 cases c with
 |sl n sz lo len=>simp only[rR,hh n (hp n rfl)]
 |bz n k az off sz len=>simp only[rR,hh n (hp n rfl)]
 |_=>rfl
theorem Zl (hh:∀n,u n->h' n=h n) (ns:List Nat):∀n,u n->dN h' ns n=dN h ns n:=fun n hn=>by simp only[dN,hh n hn]
theorem PW (hh:∀n,u n->h' n=h n) (ns:List Nat):∀(fs:List (Option Mode)) (cs:List ah),(∀c∈cs,∀m,c.ref m->u m)->jE h' (dN h' ns) fs cs=jE h (dN h ns) fs cs
 |[],cs,hc=>by simp only[jE,KG (Zl hh ns) fun p hp m hm=>hc p hp m (ah.wS hm)]
 |none::fs,c::cs,hc=>by
  simp only[jE,zw (Zl hh ns) fun m hm=>hc c (by simp) m (ah.wS hm),PW hh ns fs cs fun p hp=>hc p (by simp[hp])]
 |some md::fs,c::cs,hc=>by
  simp only[jE,aju hh (hc c (by simp)),PW hh ns fs cs fun p hp=>hc p (by simp[hp])]
 |none::_,[],_=>rfl
 |some _::_,[],_=>rfl
theorem aav (hh:∀n,u n->h' n=h n) (ns:List Nat):∀(as:List (Bool×List ah)) (sig:aN),(∀x∈as,∀c∈x.2,∀m,c.ref m->u m)->kO h' (dN h' ns) sig as=kO h (dN h ns) sig as
 |[],_,_=>rfl
 |(ag,cs)::as,sig,hc=>by
  simp only[kO,PW hh ns (aN.hd sig) cs (hc (ag,cs) (by simp)),aav hh ns as (aN.tl sig) fun x hx=>hc x (by simp[hx])]
theorem PX:∀{fs:List (Option Mode)} {cs:List ah} {n:Nat},n∈mR fs cs->∃c∈cs,c.ref n
 |some _::fs,c::cs,n,hn=>by
  simp only[mR] at hn
  rcases List.mem_append.1 hn with h|h
  ·refine⟨c,by simp,?_⟩
   cases c<;>simp[ah.dA] at h<;>(subst h;rfl)
  ·obtain⟨c',h1,h2⟩:=PX h
   exact⟨c',by simp[h1],h2⟩
 |none::fs,c::cs,n,hn=>by
  simp only[mR] at hn
  obtain⟨c',h1,h2⟩:=PX hn
  exact⟨c',by simp[h1],h2⟩
 |[],_,n,hn=>by simp[mR] at hn
 |some _::_,[],n,hn=>by simp[mR] at hn
 |none::_,[],n,hn=>by simp[mR] at hn
theorem aaq:∀{as:List (Bool×List ah)} {sig:aN} {n:Nat},n∈jV sig as->∃x∈as,∃c∈x.2,c.ref n
 |a::as,s::sig,n,hn=>by
  simp only[jV] at hn
  rcases List.mem_append.1 hn with h|h
  ·obtain⟨c,h1,h2⟩:=PX h
   exact⟨a,by simp,c,h1,h2⟩
  ·obtain⟨x,h1,h2⟩:=aaq h
   exact⟨x,by simp[h1],h2⟩
 |[],s::sig,n,hn=>by simp[jV] at hn
 |as,[],n,hn=>by cases as<;>simp[jV] at hn
theorem aae:∀{as:List aj} {dm:List (Bool×List ah)},pj as=some dm->∀x∈dm,∀c∈x.2,∀m,c.ref m->∃v∈as,v.ref m
 |[],dm,hx,x,hm=>by simp only[pj] at hx;injection hx with hx;subst hx;cases hm
 |v::vs,dm,hx,x,hm=>by
  simp only[pj] at hx
  split at hx
  ·rename_i y ys e1 e2
   injection hx with hx
   subst hx
   intro c hc m hr
   cases hm with
   |head=>exact⟨v,by simp,aj.xJ e1 hc hr⟩
   |tail _ hm=>
    obtain⟨v',h1,h2⟩:=aae e2 x hm c hc m hr
    exact⟨v',by simp[h1],h2⟩
  ·cases hx
theorem aeD (hh:∀n,u n->h' n=h n) {T:aO} {f:FuncId} {as:List aj} (hx:∀x∈as,∀m,x.ref m->u m):oH T f as h'=oH T f as h:=by
 unfold oH
 cases aO.rm T.ws f with
 |none=>rfl
 |some M=>
  obtain⟨sig,M⟩:=M
  cases hc:pj as with
  |none=>rfl
  |some dm=>
   have hr:∀x∈dm,∀c∈x.2,∀m,c.ref m->u m:=fun x h1 c h2 m h3=>by
    obtain⟨v,a1,a2⟩:=aae hc x h1 c h2 m h3
    exact hx v a1 m a2
   simp only
   cases hn:jV sig dm with
   |nil=>rfl
   |cons n l=>
    cases l with
    |cons n2 l=>rfl
    |nil=>
     obtain⟨x,h1,c,h2,h3⟩:=aaq (n:=n) (sig:=sig) (as:=dm) (by rw[hn];simp)
     simp only[aav hh [n] dm sig hr,hh n (hr x h1 c h2 n h3)]
theorem abb (T:aO) (d:Option Nat) (op:aE) (ev:MO->aj) (hh:∀n,u n->h' n=h n) (tZ:op.Eg=true->∀m cs c n,vv m->h m=some (.box cs)->c∈cs->c.ref n->u n)
  (hx:∀x∈op.args,∀m,(ev x).ref m->u m) (wj:∀x∈op.args,∀m,(ev x).ref m->vv m):rd T d op ev h'=rd T d op ev h:=by
 cases op with
 |load ag sz x=>
  have h1:=hx x (by simp[aE.args])
  simp only[rd]
  cases hv:ev x with
  |one p=>rw[hv] at h1;simp only[ajp hh (p:=p) h1]
  |_=>rfl
 |gE x=>
  have h1:=hx x (by simp[aE.args])
  simp only[rd]
  cases hv:ev x with
  |one p=>cases p with
   |ptr n k sz off=>rw[hv] at h1;simp only[hh n (h1 n rfl)]
   |_=>rfl
  |_=>rfl
 |aF off x=>
  have h1:=hx x (by simp[aE.args])
  simp only[rd]
  cases hv:ev x with
  |one p=>cases p with
   |ptr n k sz off=>rw[hv] at h1;simp only[hh n (h1 n rfl)]
   |_=>rfl
  |_=>rfl
 |len x=>
  have h1:=hx x (by simp[aE.args])
  simp only[rd]
  cases hv:ev x with
  |one p=>cases p with
   |sl n sz lo len=>rw[hv] at h1;simp only[hh n (h1 n rfl)]
   |bz n k az off sz len=>rw[hv] at h1;simp only[zw hh (p:=.bz n k az off sz len) (fun m hm=>h1 m (ah.wS hm))]
   |c x=>cases x<;>rfl
   |_=>rfl
  |_=>rfl
 |ou f bH x=>
  have h1:=hx x (by simp[aE.args])
  simp only[rd]
  cases hv:ev x with
  |one p=>cases p with
   |sl n sz lo len=>rw[hv] at h1;simp only[hh n (h1 n rfl)]
   |c x=>cases x<;>rfl
   |_=>rfl
  |_=>rfl
 |bX sz x i=>
  have h1:=hx x (by simp[aE.args])
  simp only[rd]
  generalize (ev i).df=q
  cases hv:ev x with
  |one p=>cases p with
   |sl n s lo len=>
    rw[hv] at h1
    have h2:=hh n (h1 n rfl)
    cases q with
    |none=>rfl
    |some q=>simp only[h2]
   |bz n k az off s len=>
    rw[hv] at h1
    cases q with
    |none=>rfl
    |some q=>simp only[zw hh (p:=.bz n k az off s len) (fun m hm=>h1 m (ah.wS hm))]
   |c x=>cases x<;>cases q<;>rfl
   |_=>cases q<;>rfl
  |_=>cases q<;>rfl
 |slice sz x lo hi=>
  have h1:=hx x (by simp[aE.args])
  simp only[rd]
  cases hv:ev x with
  |one p=>cases p with
   |sl n s l0 len=>
    rw[hv] at h1
    have h2:=hh n (h1 n rfl)
    cases lo with
    |none=>simp only[h2]
    |some lo=>
     simp only
     cases (ev lo).df with
     |none=>rfl
     |some q=>simp only[h2]
   |c x=>cases lo with
    |none=>cases x<;>rfl
    |some lo=>
     simp only
     cases (ev lo).df<;>cases x<;>rfl
   |_=>cases lo<;>rfl
  |_=>cases lo<;>rfl
 |call m f xs=>
  simp only[rd,Al]
  have go:∀u':Nat->Prop,(∀x∈(aE.call m f xs).args,∀m,(ev x).ref m->u' m)->∀x∈xs.map ev,∀m,x.wT m->u' m:=by
   intro u' hx x yA q hq
   obtain⟨y,hy,rfl⟩:=List.mem_map.1 yA
   exact hx y hy q (aj.Rv hq)
  rw[KF hh (tZ rfl) (go _ hx) (go _ wj)]
 |mh f xs=>
  simp only[rd,tF]
  have go:∀u':Nat->Prop,(∀x∈(aE.mh f xs).args,∀m,(ev x).ref m->u' m)->∀x∈xs.map ev,∀m,x.wT m->u' m:=by
   intro u' hx x yA q hq
   obtain⟨y,hy,rfl⟩:=List.mem_map.1 yA
   exact hx y hy q (aj.Rv hq)
  rw[KF hh (tZ rfl) (go _ hx) (go _ wj)]
 |lv f xs=>rfl
 |mq f xs=>
  have:oH T f (xs.map ev) h'=oH T f (xs.map ev) h:=aeD hh fun x yA q hq=>by
   obtain⟨y,hy,rfl⟩:=List.mem_map.1 yA
   exact hx y hy q hq
  simp only[rd,this]
 |mn m x xs=>
  simp only[rd]
  cases hv:ev x with
  |one p=>cases p with
   |fn f cr=>
    simp only[Al]
    have go:∀u':Nat->Prop,(∀y∈(aE.mn m x xs).args,∀m,(ev y).ref m->u' m)->∀y∈xs.map ev++cr.map aj.one,∀m,y.wT m->u' m:=by
     intro u' hx y hym q hq
     rcases List.mem_append.1 hym with hy|hy
     ·obtain⟨z,hz,rfl⟩:=List.mem_map.1 hy
      exact hx z (by simp[aE.args,hz]) q (aj.Rv hq)
     ·obtain⟨z,hz,rfl⟩:=List.mem_map.1 hy
      refine hx x (by simp[aE.args]) q ?_
      rw[hv]
      exact⟨z,hz,hq⟩
    rw[KF hh (tZ rfl) (go _ hx) (go _ wj)]
   |_=>rfl
  |_=>rfl
 |_=>rfl
theorem aba (T:aO) (d:Option Nat) (op:aE) (ev:MO->aj) (hh:∀n,u n->h' n=h n) (hb:∀m cs c n,h m=some (.box cs)->c∈cs->c.ref n->u n)
  (hx:∀x∈op.args,∀m,(ev x).ref m->u m):rd T d op ev h'=rd T d op ev h:=
 abb (vv:=fun _=>True) T d op ev hh (fun _ m cs c n _=>hb m cs c n) hx (fun _ _ _ _=>trivial)
theorem abd (T:aO) (d:Option Nat) (op:aE) (ev:MO->aj) (h h':Nat->Option ao) (hc:op.dE=0):rd T d op ev h'=rd T d op ev h:=by
 cases op<;>simp[aE.dE] at hc<;>rfl
end
end Go.Am
