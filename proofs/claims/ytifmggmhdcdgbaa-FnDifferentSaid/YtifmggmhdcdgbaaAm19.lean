/- Am19: operations that may change places, continued. No condition. -/
import Derived.Test.YtifmggmhdcdgbaaAm18
set_option linter.unusedVariables false
namespace Go.Am
def St.we (σ:St) (e:Nat->aj):St:={σ with env:=e}
def vp (e:Nat->aj) (d:Option Nat) (x:Nat->aj):Nat->aj:=
 match d with
 |some n=>aw e n (x n)
 |none=>e
theorem aoK (σ:St):σ.we σ.env=σ:=rfl
theorem tC (σ:St) (e:Nat->aj) (d:Option Nat) (v:aj):(σ.we e).put d v=(σ.put d v).we (vp e d (σ.put d v).env):=by
 cases d with
 |none=>rfl
 |some n=>simp[St.put,St.we,vp,bA]
theorem Es (σ:St) (e:Nat->aj) (n:Nat) (b:ar):(σ.we e).ins n b=(σ.ins n b).map (·.we e):=by
 unfold St.ins
 by_cases h:σ.used n=true
 ·rw[if_pos h,if_pos (show(σ.we e).used n=true from h)];rfl
 ·rw[if_neg h,if_neg (show¬(σ.we e).used n=true from h)];rfl
theorem yU:∀(l:List (Nat×ar)) (σ:St) (e:Nat->aj),(σ.we e).cH l=(σ.cH l).map (·.we e)
 |[],σ,e=>rfl
 |(n,b)::l,σ,e=>by
  simp only[St.cH,Es]
  cases σ.ins n b with
  |none=>rfl
  |some σ1=>exact yU l σ1 e
theorem aoy (σ:St) (e:Nat->aj) (c:ai):(σ.we e).fO c=(σ.fO c).map fun x=>(x.1,x.2.1,x.2.2.we e):=by
 cases c with
 |c x=>rfl
 |nil sz=>simp only[St.fO];split<;>rfl
 |sl n sz lo len=>
  have:(σ.we e).h n=σ.h n:=rfl
  simp only[St.fO,this]
  cases σ.h n with
  |none=>rfl
  |some b=>cases b with
   |box cs=>rfl
   |row gr m rs xs=>simp only;split<;>rfl
 |_=>rfl
theorem FF:∀(cs:List ai) (σ:St) (e:Nat->aj),(σ.we e).ft cs=(σ.ft cs).map fun x=>(x.1,x.2.1,x.2.2.we e)
 |[],σ,e=>rfl
 |c::cs,σ,e=>by
  simp only[St.ft,aoy]
  cases σ.fO c with
  |none=>rfl
  |some x=>
   obtain⟨x,o,σ1⟩:=x
   simp only[Option.map_some,FF cs σ1 e]
   cases σ1.ft cs<;>rfl
theorem afo (σ:St) (e:Nat->aj) (p:ai):(σ.we e).pH p=(σ.pH p).map (·.we e):=by
 cases p with
 |ptr n k sz off=>
  have h3:(σ.we e).h=σ.h:=rfl
  simp only[St.pH,h3]
  cases σ.h n with
  |none=>rfl
  |some b=>
   cases b with
   |row gr m rs xs=>rfl
   |box cs=>
    simp only[FF]
    cases σ.ft cs with
    |none=>rfl
    |some x=>rfl
 |_=>rfl
theorem acz (sz:Nat):∀(vs:List aj) (σ:St) (e:Nat->aj),(σ.we e).kP sz vs=(σ.kP sz vs).map fun x=>(x.1,x.2.1,x.2.2.we e)
 |[],σ,e=>rfl
 |v::vs,σ,e=>by
  simp only[St.kP]
  cases v.cells? with
  |none=>rfl
  |some x=>
   obtain⟨ag,cs⟩:=x
   simp only
   split
   ·simp only[FF]
    cases σ.ft cs with
    |none=>rfl
    |some y=>
     obtain⟨y,o,σ1⟩:=y
     simp only[Option.map_some,acz sz vs σ1 e]
     cases σ1.kP sz vs<;>rfl
   ·rfl
theorem ac6 (σ:St) (e:Nat->aj) (sz:Nat) (v:aj):pt (σ.we e) sz v=(pt σ sz v).map fun x=>(x.1,x.2.1,x.2.2.we e):=by
 cases v with
 |one v=>cases v with
  |sl a s lo len=>cases lo with
   |zero=>
    have:(σ.we e).h a=σ.h a:=rfl
    simp only[pt,this]
    cases σ.h a with
    |none=>rfl
    |some b=>cases b with
     |box cs=>rfl
     |row gr m rs xs=>cases gr with
      |true=>simp only;split<;>rfl
      |false=>rfl
   |succ lo=>rfl
  |_=>rfl
 |_=>rfl
theorem ac8 (fl:Bool) (σ:St) (e:Nat->aj) (sz:Nat) (m:Mode) (v:aj):la fl (σ.we e) sz m v=(la fl σ sz m v).map fun x=>(x.1,x.2.1,x.2.2.we e):=by
 cases v with
 |one v=>cases v with
  |sl b s lo len=>
   have:(σ.we e).h b=σ.h b:=rfl
   simp only[la,this]
   cases σ.h b with
   |none=>rfl
   |some b=>cases b with
    |box cs=>rfl
    |row gr m rs xs=>
     simp only
     repeat' split
     all_goals rfl
  |c x=>cases x with
   |list s ys=>
    simp only[la]
    repeat' split
    all_goals rfl
   |_=>rfl
  |_=>rfl
 |_=>rfl
theorem aoj (σ:St) (e:Nat->aj) (n:Nat) (gr:Bool) (m:Mode) (rs:Nat) (xs:List (List C)) (k off:Nat) (el:List C) (vs:List ai):
  mD (σ.we e) n gr m rs xs k off el vs=(mD σ n gr m rs xs k off el vs).map (·.we e):=by
 simp only[mD,FF]
 cases sub el off vs.length with
 |none=>rfl
 |some eZ=>
  simp only
  cases σ.ft vs with
  |none=>rfl
  |some x=>
   obtain⟨cs,o,σ1⟩:=x
   have:(σ1.we e).h n=σ1.h n:=rfl
   simp only[Option.map_some,this]
   repeat' split
   all_goals rfl
theorem Ca (T:bj) (d:Option Nat) (op:aC) {ev ev':MO->aj} (h:Nat->Option ar) (br:∀x∈op.args,ev' x=ev x):rd T d op ev' h=rd T d op ev h:=by
 have hl:∀xs:List MO,(∀x∈xs,ev' x=ev x)->xs.map ev'=xs.map ev:=fun xs hx=>List.map_congr_left hx
 have hp:∀(ps:List (Nat×Nat×MO)) (zs:List ai),(∀x∈ps.map (·.2.2),ev' x=ev x)->pg ev' zs ps=pg ev zs ps:=by
  intro ps
  induction ps with
  |nil=>intro zs _;rfl
  |cons p ps ih=>
   intro zs hx
   obtain⟨off,sz,x⟩:=p
   simp only[pg]
   rw[hx x (by simp)]
   cases (ev x).cells? with
   |none=>rfl
   |some y=>
    simp only
    split
    ·exact ih _ fun z hz=>hx z (by simp at hz⊢;exact .inr hz)
    ·rfl
 cases op with
 |build zs ps=>simp only[rd];rw[hp ps zs br]
 |call m f xs=>simp only[rd];rw[hl xs br]
 |lS f xs=>simp only[rd];rw[hl xs br]
 |oV f xs=>simp only[rd];rw[hl xs br]
 |lT m x xs=>simp only[rd];rw[br x (by simp[aC.args]),hl xs fun y hy=>br y (by simp[aC.args,hy])]
 |slice sz x lo hi=>
  have h1:=br x (by simp[aC.args])
  cases lo with
  |none=>cases hi with
   |none=>simp only[rd,h1]
   |some hi=>have h3:=br hi (by simp[aC.args]);simp only[rd,h1,h3]
  |some lo=>
   have h2:=br lo (by simp[aC.args])
   cases hi with
   |none=>simp only[rd,h1,h2]
   |some hi=>have h3:=br hi (by simp[aC.args]);simp only[rd,h1,h2,h3]
 |mv x=>have h1:=br x (by simp[aC.args]);simp only[rd,h1]
 |pick x y z=>have h1:=br x (by simp[aC.args]);have h2:=br y (by simp[aC.args]);have h3:=br z (by simp[aC.args]);simp only[rd,h1,h2,h3]
 |alloc zs=>rfl
 |box sz x=>have h1:=br x (by simp[aC.args]);simp only[rd,h1]
 |dM sz ps=>rfl
 |gI m f xs=>rfl
 |dC f xs=>rfl
 |load ag sz x=>have h1:=br x (by simp[aC.args]);simp only[rd,h1]
 |store sz x v=>rfl
 |gv x=>have h1:=br x (by simp[aC.args]);simp only[rd,h1]
 |bin op x y=>have h1:=br x (by simp[aC.args]);have h2:=br y (by simp[aC.args]);simp only[rd,h1,h2]
 |nB op x y=>have h1:=br x (by simp[aC.args]);have h2:=br y (by simp[aC.args]);simp only[rd,h1,h2]
 |un op x=>have h1:=br x (by simp[aC.args]);simp only[rd,h1]
 |conv k x=>have h1:=br x (by simp[aC.args]);simp only[rd,h1]
 |nb m sz by_ zs x y=>have h1:=br x (by simp[aC.args]);have h2:=br y (by simp[aC.args]);simp only[rd,h1,h2]
 |aq off x=>have h1:=br x (by simp[aC.args]);simp only[rd,h1]
 |bY sz x y=>have h1:=br x (by simp[aC.args]);have h2:=br y (by simp[aC.args]);simp only[rd,h1,h2]
 |ext i x=>have h1:=br x (by simp[aC.args]);simp only[rd,h1]
 |lp ag off sz x=>have h1:=br x (by simp[aC.args]);simp only[rd,h1]
 |lO f bE x=>have h1:=br x (by simp[aC.args]);simp only[rd,h1]
 |len x=>have h1:=br x (by simp[aC.args]);simp only[rd,h1]
 |append fl sz by_ x y=>rfl
 |tail sz x lo=>rfl
 |mw ag sz x=>rfl
 |copy sz x y=>rfl
 |kt z x=>rfl
 |mm b x y=>have h1:=br x (by simp[aC.args]);have h2:=br y (by simp[aC.args]);simp only[rd,h1,h2]
theorem Lr (σ:St) (e:Nat->aj):(σ.we e).h=σ.h:=rfl
theorem am2 (σ:St) (e:Nat->aj) (it:cZ) (x:C):(σ.we e).nd it x=(σ.nd it x).map (·.we e):=by
 cases it with
 |nil sz=>rfl
 |row n=>
  cases x with
  |int k i=>rfl
  |bool b=>rfl
  |list sz xs=>
   simp only[St.nd,Lr]
   cases σ.h n with
   |none=>rfl
   |some b=>
    cases b with
    |box cs=>rfl
    |row gr m rs km=>simp only;split<;>rfl
 |nest n k off=>
  simp only[St.nd,Lr]
  cases σ.h n with
  |none=>rfl
  |some b=>
   cases b with
   |box cs=>rfl
   |row gr m rs km=>
    simp only
    cases km[k]? with
    |none=>rfl
    |some el=>rfl
theorem aaR:∀(its:List (cZ×Mode)) (ew:List C) (σ:St) (e:Nat->aj),(σ.we e).o9 its ew=(σ.o9 its ew).map (·.we e)
 |[],[],σ,e=>rfl
 |it::its,x::ew,σ,e=>by
  simp only[St.o9,am2]
  cases σ.nd it.1 x with
  |none=>rfl
  |some σ1=>exact aaR its ew σ1 e
 |[],_::_,σ,e=>rfl
 |_::_,[],σ,e=>rfl
theorem ahU (m:Mode) (σ:St) (e:Nat->aj) (nm:Nat) (ds:List Dv):(σ.we e).jt m nm ds=(σ.jt m nm ds).map fun x=>(x.1,x.2.we e):=by
 simp only[Pl]
 cases wK m nm ds with
 |none=>rfl
 |some x=>
  simp only[Option.bind_some,yU]
  cases σ.cH x.2 with
  |none=>rfl
  |some σ1=>rfl
theorem adS (T:bj) (m:Mode) (d:Option Nat) (f:FuncId) (as:List aj) (σ:St) (e:Nat->aj):
  ue T m d f as (σ.we e)=(ue T m d f as σ).map fun τ=>τ.we (vp e d τ.env):=by
 unfold ue
 cases bj.qV T.BW f with
 |none=>rfl
 |some z=>
  obtain⟨sig,M⟩:=z
  cases wX as with
  |none=>rfl
  |some fu=>
   simp only
   by_cases fW:(n6 sig fu).Nodup
   ·rw[if_pos fW,if_pos fW]
    show(match oW σ.h (eF σ.h (n6 sig fu)) sig fu with|some (ds,its)=>_|none=>none)=_
    cases oW σ.h (eF σ.h (n6 sig fu)) sig fu with
    |none=>rfl
    |some z=>
     obtain⟨ds,its⟩:=z
     simp only
     cases M ds with
     |none=>rfl
     |some z=>
      obtain⟨rs,ew⟩:=z
      simp only[aaR]
      cases σ.o9 its ew with
      |none=>rfl
      |some σ1=>
       simp only[Option.map_some,ahU]
       cases σ1.jt m (y9 d) rs with
       |none=>rfl
       |some z=>
        obtain⟨ls,σ2⟩:=z
        simp only[Option.map_some,tC]
   ·rw[if_neg fW,if_neg fW];rfl
theorem Mf:∀(as:List aj) (σ:St) (e:Nat->aj),(σ.we e).hH as=(σ.hH as).map fun x=>(x.1,x.2.1,x.2.2.we e)
 |[],σ,e=>rfl
 |v::as,σ,e=>by
  simp only[St.hH,Lr,FF]
  cases mG σ.h v with
  |some x=>
   obtain⟨n,xs⟩:=x
   simp only[Mf as σ e]
   cases σ.hH as<;>rfl
  |none=>
   simp only
   cases v.cells? with
   |none=>rfl
   |some x=>
    obtain⟨ag,cs⟩:=x
    simp only
    cases σ.ft cs with
    |none=>rfl
    |some y=>
     obtain⟨xs,o,σ1⟩:=y
     simp only[Option.map_some,Mf as σ1 e]
     cases σ1.hH as<;>rfl
theorem am0 (σ:St) (e:Nat->aj) (ns:List Nat) (out:List C):(σ.we e).rJ ns out=(σ.rJ ns out).map (·.we e):=by
 match ns,out with
 |[],[]=>rfl
 |[],_::_=>rfl
 |[n],out=>
  simp only[St.rJ,Lr]
  cases σ.h n with
  |none=>rfl
  |some b=>
   cases b with
   |box cs=>simp only;split<;>rfl
   |row gr m rs xs=>rfl
 |_::_::_,out=>rfl
theorem adl (σ:St) (e:Nat->aj) (d:Option Nat) (rs:List Dv):qN (σ.we e) d rs=(qN σ d rs).map fun τ=>τ.we (vp e d τ.env):=by
 unfold qN
 split
 ·cases d with
  |none=>rfl
  |some q=>
   simp only[Es]
   cases σ.ins q _ with
   |none=>rfl
   |some σ1=>simp only[Option.map_some,tC]
 ·cases gL rs with
  |none=>rfl
  |some ls=>simp only[Option.map_some,tC]
theorem adR (T:bj) (d:Option Nat) (f:FuncId) (as:List aj) (σ:St) (e:Nat->aj):
  sj T d f as (σ.we e)=(sj T d f as σ).map fun τ=>τ.we (vp e d τ.env):=by
 unfold sj
 rw[Mf]
 cases σ.hH as with
 |none=>rfl
 |some x=>
  obtain⟨ds,ns,σ1⟩:=x
  simp only[Option.map_some]
  cases bj.nI T.vs f with
  |none=>rfl
  |some M=>
   simp only
   cases M ds with
   |none=>rfl
   |some z=>
    obtain⟨rs,out⟩:=z
    simp only[am0]
    cases σ1.rJ ns out with
    |none=>rfl
    |some σ2=>exact adl σ2 e d rs
theorem MW (T:bj) (d:Option Nat) (op:aC) (σ:St) (e:Nat->aj) (br:∀x∈op.args,(σ.we e).ev x=σ.ev x) (hd:∀sz x v,op=.store sz x v->d=none):
  aG T d op (σ.we e)=(aG T d op σ).map fun τ=>τ.we (vp e d τ.env):=by
 by_cases hc:op.dH<=1
 ·rw[pE T d op _ hc,pE T d op _ hc,Ca T d op _ br]
  show Option.bind (rd T d op σ.ev σ.h) _=_
  cases rd T d op σ.ev σ.h with
  |none=>rfl
  |some x=>
   simp only[Option.bind_some,gB,yU]
   cases σ.cH x.2 with
   |none=>rfl
   |some σ1=>simp only[Option.map_some,tC]
 ·cases op<;>simp[aC.dH] at hc
  case dM sz ps=>
   have hl:ps.map (σ.we e).ev=ps.map σ.ev:=List.map_congr_left br
   simp only[aG,hl,acz]
   cases d with
   |none=>rfl
   |some n=>
    cases σ.kP sz (ps.map σ.ev) with
    |none=>rfl
    |some x=>
     obtain⟨es,o,σ1⟩:=x
     simp only[Option.map_some,Es]
     cases σ1.ins n (.row true (if o=true then .ab else .aA) sz es) with
     |none=>rfl
     |some σ2=>simp only[Option.map_some,tC]
  case store sz x v=>
   have h1:=br x (by simp[aC.args])
   have h2:=br v (by simp[aC.args])
   have hd:=hd sz x v rfl
   subst hd
   simp only[aG,h1,h2]
   cases σ.ev x with
   |one p=>cases p with
    |ptr n k az off=>
     cases (σ.ev v).cells? with
     |none=>rfl
     |some y=>
      obtain⟨ag,vs⟩:=y
      have:(σ.we e).h n=σ.h n:=rfl
      simp only[this]
      split
      ·cases σ.h n with
       |none=>rfl
       |some b=>cases b with
        |box cs=>simp only;split<;>rfl
        |row gr m rs xs=>
         simp only
         split
         ·cases xs[k]? with
          |none=>rfl
          |some el=>simp only[aoj];rfl
         ·rfl
      ·rfl
    |cD n k az off s i=>
     cases (σ.ev v).cells? with
     |none=>rfl
     |some y=>
      obtain⟨ag,vs⟩:=y
      have:(σ.we e).h n=σ.h n:=rfl
      simp only[this]
      split
      ·cases σ.h n with
       |none=>rfl
       |some b=>cases b with
        |box cs=>rfl
        |row gr m rs xs=>cases m with
         |live=>
          simp only
          split
          ·cases vg xs k off s i vs<;>rfl
          ·rfl
         |_=>rfl
      ·rfl
    |_=>cases (σ.ev v).cells?<;>rfl
   |agg cs=>cases (σ.ev v).cells?<;>rfl
   |bn cs=>cases (σ.ev v).cells?<;>rfl
  case append fl sz by_ x y=>
   have h1:=br x (by simp[aC.args])
   have h2:=br y (by simp[aC.args])
   simp only[aG,h1,h2,ac6]
   cases d with
   |none=>rfl
   |some n=>
    simp only
    cases pt σ sz (σ.ev x) with
    |none=>rfl
    |some z=>
     obtain⟨xs,m,σ1⟩:=z
     simp only[Option.map_some,ac8]
     cases la fl σ1 sz m (σ.ev y) with
     |none=>rfl
     |some z=>
      obtain⟨ys,m2,σ2⟩:=z
      simp only[Option.map_some]
      split
      ·simp only[Es]
       cases σ2.ins n (.row true m2 sz (xs++ys)) with
       |none=>rfl
       |some gz=>simp only[Option.map_some,tC]
      ·rfl
  case copy sz x y=>
   have h1:=br x (by simp[aC.args])
   have h2:=br y (by simp[aC.args])
   have h3:(σ.we e).h=σ.h:=rfl
   simp only[aG,h1,h2,h3]
   cases σ.ev x with
   |one p=>cases p with
    |sl n s lo len=>
     cases σ.ev y with
     |one c=>
      simp only
      cases σ.h n with
      |none=>rfl
      |some b=>cases b with
       |box cs=>rfl
       |row gr m rs xs=>
        cases bR σ.h c with
        |none=>rfl
        |some q=>cases q with
         |list s' ys=>
          simp only
          split
          ·exact congrArg some (tC (σ.dc n _) e d _)
          ·rfl
         |_=>rfl
     |_=>rfl
    |_=>rfl
   |_=>rfl
  case kt z x=>
   have h1:=br x (by simp[aC.args])
   have h3:(σ.we e).h=σ.h:=rfl
   simp only[aG,h1,h3]
   cases σ.ev x with
   |one p=>cases p with
    |sl n s lo len=>
     simp only
     cases σ.h n with
     |none=>rfl
     |some b=>cases b with
      |box cs=>rfl
      |row gr m rs xs=>
       simp only
       split
       ·exact congrArg some (tC (σ.dc n _) e d _)
       ·rfl
    |_=>rfl
   |_=>rfl
  case mw ag sz x=>
   have h1:=br x (by simp[aC.args])
   simp only[aG,h1]
   cases σ.ev x with
   |one p=>
    simp only[afo]
    cases σ.pH p with
    |none=>rfl
    |some σ1=>
     simp only[Option.map_some]
     have h3:(σ1.we e).h=σ1.h:=rfl
     rw[h3]
     cases loadAt σ1.h p sz with
     |none=>rfl
     |some cs=>exact congrArg some (tC σ1 e d _)
   |_=>rfl
  case tail sz x y=>
   have h1:=br x (by simp[aC.args])
   have h2:=br y (by simp[aC.args])
   simp only[aG,h1,h2]
   cases d with
   |none=>rfl
   |some n=>
    generalize (σ.ev y).cY=q
    cases hv:σ.ev x with
    |one p=>cases p with
     |sl a s lo len=>cases lo with
      |zero=>
       cases q with
       |none=>rfl
       |some l=>
        simp only
        have:(σ.we e).h a=σ.h a:=rfl
        rw[this]
        cases σ.h a with
        |none=>rfl
        |some b=>cases b with
         |box cs=>rfl
         |row gr m rs xs=>cases gr with
          |false=>rfl
          |true=>
           simp only
           split
           ·rw[show(σ.we e).del a=(σ.del a).we e from rfl,Es]
            cases (σ.del a).ins n (.row true m sz (xs.drop l.toNat)) with
            |none=>rfl
            |some gz=>simp only[Option.map_some,tC]
           ·rfl
      |succ lo=>cases q<;>rfl
     |_=>cases q<;>rfl
    |_=>cases q<;>rfl
  case gI m f xs=>
   have hl:xs.map (σ.we e).ev=xs.map σ.ev:=List.map_congr_left br
   simp only[aG,hl,adS]
  case dC f xs=>
   have hl:xs.map (σ.we e).ev=xs.map σ.ev:=List.map_congr_left br
   simp only[aG,hl,adR]
section
variable {u vv:Nat->Prop} {h h':Nat->Option ar}
theorem ajW (hh:∀n,u n->h' n=h n) {p:ai} (hp:∀m,p.ref m->u m) (sz:Nat):loadAt h' p sz=loadAt h p sz:=by
 cases p with
 |ptr n k az off=>simp only[loadAt,hh n (hp n rfl)]
 |_=>rfl
theorem ai.Cc {c:ai} {m:Nat} (h:c.ik m):c.ref m:=by
 cases c<;>first|exact h|exact h.elim
def aj.xf:aj->Nat->Prop
 |.one c,m=>c.ik m
 |.agg cs,m=>∃c∈cs,c.ik m
 |.bn _,_=>False
theorem aj.R0 {x:aj} {m:Nat} (h:x.xf m):x.ref m:=by
 cases x with
 |one c=>exact ai.Cc h
 |agg cs=>obtain⟨c,hc,h⟩:=h;exact⟨c,hc,ai.Cc h⟩
 |bn xs=>exact h.elim
theorem CH (hh:∀n,u n->h' n=h n) {p:ai} (hp:∀m,p.ik m->u m):bR h' p=bR h p:=by
 cases p with
 |sl n sz lo len=>simp only[bR,hh n (hp n rfl)]
 |bx n k az off sz len=>simp only[bR,hh n (hp n rfl)]
 |_=>rfl
theorem U9 (hh:∀n,u n->h' n=h n):∀{l:List ai} (_:∀p∈l,∀m,p.ik m->u m),gx h' l=gx h l
 |[],_=>rfl
 |c::cs,hp=>by
  have h1:=CH hh (hp c (by simp))
  have h2:=U9 hh (l:=cs) fun p q=>hp p (List.mem_cons_of_mem _ q)
  simp only[gx,h1,h2]
theorem aoI (hh:∀n,u n->h' n=h n) (hb:∀m cs c n,vv m->h m=some (.box cs)->c∈cs->c.ref n->u n) {x:aj} (hx:∀m,x.xf m->u m) (hv:∀m,x.xf m->vv m):gZ h' x=gZ h x:=by
 cases x with
 |one c=>cases c with
  |ptr n k sz off=>
   simp only[gZ,hh n (hx n rfl)]
   cases hn:h n with
   |none=>rfl
   |some b=>cases b with
    |box cs=>simp only[U9 hh fun p hp m hm=>hb n cs p m (hv n rfl) hn hp (ai.Cc hm)]
    |row gr m sz xs=>rfl
  |ca xs off=>rfl
  |c x=>rfl
  |nil sz=>rfl
  |sl n sz lo len=>simp only[gZ];rw[CH hh (p:=.sl n sz lo len) hx]
  |bx n k az off sz len=>simp only[gZ];rw[CH hh (p:=.bx n k az off sz len) hx]
  |cD n k az off sz i=>rfl
  |fn f bW=>rfl
  |bh=>rfl
 |agg cs=>simp only[gZ,U9 hh fun p hp m hm=>hx m ⟨p,hp,hm⟩]
 |bn xs=>rfl
theorem Lm (hh:∀n,u n->h' n=h n) (hb:∀m cs c n,vv m->h m=some (.box cs)->c∈cs->c.ref n->u n):∀{xs:List aj} (_:∀x∈xs,∀m,x.xf m->u m) (_:∀x∈xs,∀m,x.xf m->vv m),kj h' xs=kj h xs
 |[],_,_=>rfl
 |x::xs,hx,hv=>by
  have h1:=aoI hh hb (hx x (by simp)) (hv x (by simp))
  have h2:=Lm hh hb (xs:=xs) (fun p q=>hx p (List.mem_cons_of_mem _ q)) (fun p q=>hv p (List.mem_cons_of_mem _ q))
  simp only[kj,h1,h2]
theorem aaU (T:bj) (d:Option Nat) (op:aC) (ev:MO->aj) (hh:∀n,u n->h' n=h n) (uo:op.Et=true->∀m cs c n,vv m->h m=some (.box cs)->c∈cs->c.ref n->u n)
  (hx:∀x∈op.args,∀m,(ev x).ref m->u m) (AW:∀x∈op.args,∀m,(ev x).ref m->vv m):rd T d op ev h'=rd T d op ev h:=by
 cases op with
 |load ag sz x=>
  have h1:=hx x (by simp[aC.args])
  simp only[rd]
  cases hv:ev x with
  |one p=>rw[hv] at h1;simp only[ajW hh (p:=p) h1]
  |_=>rfl
 |gv x=>
  have h1:=hx x (by simp[aC.args])
  simp only[rd]
  cases hv:ev x with
  |one p=>cases p with
   |ptr n k sz off=>rw[hv] at h1;simp only[hh n (h1 n rfl)]
   |_=>rfl
  |_=>rfl
 |aq off x=>
  have h1:=hx x (by simp[aC.args])
  simp only[rd]
  cases hv:ev x with
  |one p=>cases p with
   |ptr n k sz off=>rw[hv] at h1;simp only[hh n (h1 n rfl)]
   |_=>rfl
  |_=>rfl
 |len x=>
  have h1:=hx x (by simp[aC.args])
  simp only[rd]
  cases hv:ev x with
  |one p=>cases p with
   |sl n sz lo len=>rw[hv] at h1;simp only[hh n (h1 n rfl)]
   |bx n k az off sz len=>rw[hv] at h1;simp only[CH hh (p:=.bx n k az off sz len) (fun m hm=>h1 m (ai.Cc hm))]
   |c x=>cases x<;>rfl
   |_=>rfl
  |_=>rfl
 |lO f bE x=>
  have h1:=hx x (by simp[aC.args])
  simp only[rd]
  cases hv:ev x with
  |one p=>cases p with
   |sl n sz lo len=>rw[hv] at h1;simp only[hh n (h1 n rfl)]
   |c x=>cases x<;>rfl
   |_=>rfl
  |_=>rfl
 |bY sz x i=>
  have h1:=hx x (by simp[aC.args])
  simp only[rd]
  generalize (ev i).cY=q
  cases hv:ev x with
  |one p=>cases p with
   |sl n s lo len=>
    rw[hv] at h1
    have h2:=hh n (h1 n rfl)
    cases q with
    |none=>rfl
    |some q=>simp only[h2]
   |bx n k az off s len=>
    rw[hv] at h1
    cases q with
    |none=>rfl
    |some q=>simp only[CH hh (p:=.bx n k az off s len) (fun m hm=>h1 m (ai.Cc hm))]
   |c x=>cases x<;>cases q<;>rfl
   |_=>cases q<;>rfl
  |_=>cases q<;>rfl
 |slice sz x lo hi=>
  have h1:=hx x (by simp[aC.args])
  simp only[rd]
  cases hv:ev x with
  |one p=>cases p with
   |sl n s l0 len=>
    rw[hv] at h1
    have h2:=hh n (h1 n rfl)
    cases lo with
    |none=>simp only[h2]
    |some lo=>
     simp only
     cases (ev lo).cY with
     |none=>rfl
     |some q=>simp only[h2]
   |c x=>cases lo with
    |none=>cases x<;>rfl
    |some lo=>
     simp only
     cases (ev lo).cY<;>cases x<;>rfl
   |_=>cases lo<;>rfl
  |_=>cases lo<;>rfl
 |call m f xs=>
  simp only[rd,z9]
  have go:∀u':Nat->Prop,(∀x∈(aC.call m f xs).args,∀m,(ev x).ref m->u' m)->∀x∈xs.map ev,∀m,x.xf m->u' m:=by
   intro u' hx x Eb q hq
   obtain⟨y,hy,rfl⟩:=List.mem_map.1 Eb
   exact hx y hy q (aj.R0 hq)
  rw[Lm hh (uo rfl) (go _ hx) (go _ AW)]
 |lS f xs=>
  simp only[rd,t9]
  have go:∀u':Nat->Prop,(∀x∈(aC.lS f xs).args,∀m,(ev x).ref m->u' m)->∀x∈xs.map ev,∀m,x.xf m->u' m:=by
   intro u' hx x Eb q hq
   obtain⟨y,hy,rfl⟩:=List.mem_map.1 Eb
   exact hx y hy q (aj.R0 hq)
  rw[Lm hh (uo rfl) (go _ hx) (go _ AW)]
 |lT m x xs=>
  simp only[rd]
  cases hv:ev x with
  |one p=>cases p with
   |fn f bW=>
    simp only[z9]
    have go:∀u':Nat->Prop,(∀y∈(aC.lT m x xs).args,∀m,(ev y).ref m->u' m)->∀y∈xs.map ev++bW.map aj.one,∀m,y.xf m->u' m:=by
     intro u' hx y hym q hq
     rcases List.mem_append.1 hym with hy|hy
     ·obtain⟨z,hz,rfl⟩:=List.mem_map.1 hy
      exact hx z (by simp[aC.args,hz]) q (aj.R0 hq)
     ·obtain⟨z,hz,rfl⟩:=List.mem_map.1 hy
      refine hx x (by simp[aC.args]) q ?_
      rw[hv]
      exact⟨z,hz,hq⟩
    rw[Lm hh (uo rfl) (go _ hx) (go _ AW)]
   |_=>rfl
  |_=>rfl
 |_=>rfl
theorem aaT (T:bj) (d:Option Nat) (op:aC) (ev:MO->aj) (hh:∀n,u n->h' n=h n) (hb:∀m cs c n,h m=some (.box cs)->c∈cs->c.ref n->u n)
  (hx:∀x∈op.args,∀m,(ev x).ref m->u m):rd T d op ev h'=rd T d op ev h:=
 aaU (vv:=fun _=>True) T d op ev hh (fun _ m cs c n _=>hb m cs c n) hx (fun _ _ _ _=>trivial)
theorem aaW (T:bj) (d:Option Nat) (op:aC) (ev:MO->aj) (h h':Nat->Option ar) (hc:op.dH=0):rd T d op ev h'=rd T d op ev h:=by
 cases op<;>simp[aC.dH] at hc<;>rfl
end
end Go.Am
