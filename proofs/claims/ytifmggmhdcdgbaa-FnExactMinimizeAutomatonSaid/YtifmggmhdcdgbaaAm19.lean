/- Am19: operations that may change places, continued. No condition. -/
import Derived.Test.YtifmggmhdcdgbaaAm18
set_option linter.unusedVariables false
namespace Go.Am
def St.we (σ:St) (e:Nat->aj):St:={σ with env:=e}
def uQ (e:Nat->aj) (d:Option Nat) (x:Nat->aj):Nat->aj:=
 match d with
 |some n=>av e n (x n)
 |none=>e
theorem ale (σ:St):σ.we σ.env=σ:=rfl
theorem uC (σ:St) (e:Nat->aj) (d:Option Nat) (v:aj):(σ.we e).put d v=(σ.put d v).we (uQ e d (σ.put d v).env):=by
 cases d with
 |none=>rfl
 |some n=>simp[St.put,St.we,uQ,bD]
theorem Df (σ:St) (e:Nat->aj) (n:Nat) (b:aq):(σ.we e).ins n b=(σ.ins n b).map (·.we e):=by
 unfold St.ins
 by_cases h:σ.used n=true
 ·rw[if_pos h,if_pos (show(σ.we e).used n=true from h)];rfl
 ·rw[if_neg h,if_neg (show¬(σ.we e).used n=true from h)];rfl
theorem x8:∀(l:List (Nat×aq)) (σ:St) (e:Nat->aj),(σ.we e).cF l=(σ.cF l).map (·.we e)
 |[],σ,e=>rfl
 |(n,b)::l,σ,e=>by
  simp only[St.cF,Df]
  cases σ.ins n b with
  |none=>rfl
  |some σ1=>exact x8 l σ1 e
theorem ak2 (σ:St) (e:Nat->aj) (c:ah):(σ.we e).fS c=(σ.fS c).map fun x=>(x.1,x.2.1,x.2.2.we e):=by
 cases c with
 |c x=>rfl
 |nil sz=>simp only[St.fS];split<;>rfl
 |sl n sz lo len=>
  have:(σ.we e).h n=σ.h n:=rfl
  simp only[St.fS,this]
  cases σ.h n with
  |none=>rfl
  |some b=>cases b with
   |box cs=>rfl
   |row gr m rs xs=>simp only;split<;>rfl
 |_=>rfl
theorem Jp:∀(cs:List ah) (σ:St) (e:Nat->aj),(σ.we e).gf cs=(σ.gf cs).map fun x=>(x.1,x.2.1,x.2.2.we e)
 |[],σ,e=>rfl
 |c::cs,σ,e=>by
  simp only[St.gf,ak2]
  cases σ.fS c with
  |none=>rfl
  |some x=>
   obtain⟨x,o,σ1⟩:=x
   simp only[Option.map_some,Jp cs σ1 e]
   cases σ1.gf cs<;>rfl
theorem Z4 (sz:Nat):∀(vs:List aj) (σ:St) (e:Nat->aj),(σ.we e).lm sz vs=(σ.lm sz vs).map fun x=>(x.1,x.2.1,x.2.2.we e)
 |[],σ,e=>rfl
 |v::vs,σ,e=>by
  simp only[St.lm]
  cases v.cells? with
  |none=>rfl
  |some x=>
   obtain⟨ag,cs⟩:=x
   simp only
   split
   ·simp only[Jp]
    cases σ.gf cs with
    |none=>rfl
    |some y=>
     obtain⟨y,o,σ1⟩:=y
     simp only[Option.map_some,Z4 sz vs σ1 e]
     cases σ1.lm sz vs<;>rfl
   ·rfl
theorem aaz (σ:St) (e:Nat->aj) (sz:Nat) (v:aj):pJ (σ.we e) sz v=(pJ σ sz v).map fun x=>(x.1,x.2.1,x.2.2.we e):=by
 cases v with
 |one v=>cases v with
  |sl a s lo len=>cases lo with
   |zero=>
    have:(σ.we e).h a=σ.h a:=rfl
    simp only[pJ,this]
    cases σ.h a with
    |none=>rfl
    |some b=>cases b with
     |box cs=>rfl
     |row gr m rs xs=>cases gr with
      |true=>simp only;split<;>rfl
      |false=>rfl
   |succ lo=>rfl
  |_=>rfl
 |_=>rfl
theorem aaB (fl:Bool) (σ:St) (e:Nat->aj) (sz:Nat) (m:Mode) (v:aj):lB fl (σ.we e) sz m v=(lB fl σ sz m v).map fun x=>(x.1,x.2.1,x.2.2.we e):=by
 cases v with
 |one v=>cases v with
  |sl b s lo len=>
   have:(σ.we e).h b=σ.h b:=rfl
   simp only[lB,this]
   cases σ.h b with
   |none=>rfl
   |some b=>cases b with
    |box cs=>rfl
    |row gr m rs xs=>
     simp only
     repeat' split
     all_goals rfl
  |c x=>cases x with
   |list s ys=>
    simp only[lB]
    repeat' split
    all_goals rfl
   |_=>rfl
  |_=>rfl
 |_=>rfl
theorem akN (σ:St) (e:Nat->aj) (n:Nat) (gr:Bool) (m:Mode) (rs:Nat) (xs:List (List C)) (k off:Nat) (el:List C) (vs:List ah):
  mV (σ.we e) n gr m rs xs k off el vs=(mV σ n gr m rs xs k off el vs).map (·.we e):=by
 simp only[mV,Jp]
 cases sub el off vs.length with
 |none=>rfl
 |some f9=>
  simp only
  cases σ.gf vs with
  |none=>rfl
  |some x=>
   obtain⟨cs,o,σ1⟩:=x
   have:(σ1.we e).h n=σ1.h n:=rfl
   simp only[Option.map_some,this]
   repeat' split
   all_goals rfl
theorem A6 (T:bh) (d:Option Nat) (op:aD) {ev ev':MO->aj} (h:Nat->Option aq) (br:∀x∈op.args,ev' x=ev x):rd T d op ev' h=rd T d op ev h:=by
 have hl:∀xs:List MO,(∀x∈xs,ev' x=ev x)->xs.map ev'=xs.map ev:=fun xs hx=>List.map_congr_left hx
 have hp:∀(ps:List (Nat×Nat×MO)) (zs:List ah),(∀x∈ps.map (·.2.2),ev' x=ev x)->pF ev' zs ps=pF ev zs ps:=by
  intro ps
  induction ps with
  |nil=>intro zs _;rfl
  |cons p ps ih=>
   intro zs hx
   obtain⟨off,sz,x⟩:=p
   simp only[pF]
   rw[hx x (by simp)]
   cases (ev x).cells? with
   |none=>rfl
   |some y=>
    simp only
    split
    ·exact ih _ fun z hz=>hx z (by simp at hz⊢;exact .inr hz)
    ·rfl
 cases op with
 |build zs ps=>simp only[rd];rw[hp ps zs br]
 |call m f xs=>simp only[rd];rw[hl xs br]
 |mr f xs=>simp only[rd];rw[hl xs br]
 |pt f xs=>simp only[rd];rw[hl xs br]
 |mw m x xs=>simp only[rd];rw[br x (by simp[aD.args]),hl xs fun y hy=>br y (by simp[aD.args,hy])]
 |slice sz x lo hi=>
  have h1:=br x (by simp[aD.args])
  cases lo with
  |none=>cases hi with
   |none=>simp only[rd,h1]
   |some hi=>have h3:=br hi (by simp[aD.args]);simp only[rd,h1,h3]
  |some lo=>
   have h2:=br lo (by simp[aD.args])
   cases hi with
   |none=>simp only[rd,h1,h2]
   |some hi=>have h3:=br hi (by simp[aD.args]);simp only[rd,h1,h2,h3]
 |mv x=>have h1:=br x (by simp[aD.args]);simp only[rd,h1]
 |pick x y z=>have h1:=br x (by simp[aD.args]);have h2:=br y (by simp[aD.args]);have h3:=br z (by simp[aD.args]);simp only[rd,h1,h2,h3]
 |alloc zs=>rfl
 |box sz x=>have h1:=br x (by simp[aD.args]);simp only[rd,h1]
 |d8 sz ps=>rfl
 |e9 m f xs=>rfl
 |jv f xs=>rfl
 |load ag sz x=>have h1:=br x (by simp[aD.args]);simp only[rd,h1]
 |store sz x v=>rfl
 |oy x=>have h1:=br x (by simp[aD.args]);simp only[rd,h1]
 |bin op x y=>have h1:=br x (by simp[aD.args]);have h2:=br y (by simp[aD.args]);simp only[rd,h1,h2]
 |oO op x y=>have h1:=br x (by simp[aD.args]);have h2:=br y (by simp[aD.args]);simp only[rd,h1,h2]
 |un op x=>have h1:=br x (by simp[aD.args]);simp only[rd,h1]
 |conv k x=>have h1:=br x (by simp[aD.args]);simp only[rd,h1]
 |kB m sz by_ zs x y=>have h1:=br x (by simp[aD.args]);have h2:=br y (by simp[aD.args]);simp only[rd,h1,h2]
 |ak off x=>have h1:=br x (by simp[aD.args]);simp only[rd,h1]
 |bT sz x y=>have h1:=br x (by simp[aD.args]);have h2:=br y (by simp[aD.args]);simp only[rd,h1,h2]
 |ext i x=>have h1:=br x (by simp[aD.args]);simp only[rd,h1]
 |nf ag off sz x=>have h1:=br x (by simp[aD.args]);simp only[rd,h1]
 |mU f bM x=>have h1:=br x (by simp[aD.args]);simp only[rd,h1]
 |len x=>have h1:=br x (by simp[aD.args]);simp only[rd,h1]
 |append fl sz by_ x y=>rfl
 |tail sz x lo=>rfl
 |copy sz x y=>rfl
 |kN z x=>rfl
 |mm b x y=>have h1:=br x (by simp[aD.args]);have h2:=br y (by simp[aD.args]);simp only[rd,h1,h2]
theorem Jy (σ:St) (e:Nat->aj):(σ.we e).h=σ.h:=rfl
theorem ajC (σ:St) (e:Nat->aj) (it:de) (x:C):(σ.we e).nD it x=(σ.nD it x).map (·.we e):=by
 cases it with
 |nil sz=>rfl
 |row n=>
  cases x with
  |int k i=>rfl
  |bool b=>rfl
  |list sz xs=>
   simp only[St.nD,Jy]
   cases σ.h n with
   |none=>rfl
   |some b=>
    cases b with
    |box cs=>rfl
    |row gr m rs kL=>simp only;split<;>rfl
 |nest n k off=>
  simp only[St.nD,Jy]
  cases σ.h n with
  |none=>rfl
  |some b=>
   cases b with
   |box cs=>rfl
   |row gr m rs kL=>
    simp only
    cases kL[k]? with
    |none=>rfl
    |some el=>rfl
theorem Yy:∀(its:List (de×Mode)) (eJ:List C) (σ:St) (e:Nat->aj),(σ.we e).pB its eJ=(σ.pB its eJ).map (·.we e)
 |[],[],σ,e=>rfl
 |it::its,x::eJ,σ,e=>by
  simp only[St.pB,ajC]
  cases σ.nD it.1 x with
  |none=>rfl
  |some σ1=>exact Yy its eJ σ1 e
 |[],_::_,σ,e=>rfl
 |_::_,[],σ,e=>rfl
theorem aeO (m:Mode) (σ:St) (e:Nat->aj) (nm:Nat) (ds:List Dv):(σ.we e).jK m nm ds=(σ.jK m nm ds).map fun x=>(x.1,x.2.we e):=by
 simp only[Nw]
 cases vT m nm ds with
 |none=>rfl
 |some x=>
  simp only[Option.bind_some,x8]
  cases σ.cF x.2 with
  |none=>rfl
  |some σ1=>rfl
theorem abu (T:bh) (m:Mode) (d:Option Nat) (f:FuncId) (as:List aj) (σ:St) (e:Nat->aj):
  tz T m d f as (σ.we e)=(tz T m d f as σ).map fun τ=>τ.we (uQ e d τ.env):=by
 unfold tz
 cases bh.qT T.AP f with
 |none=>rfl
 |some z=>
  obtain⟨sig,M⟩:=z
  cases wc as with
  |none=>rfl
  |some fx=>
   simp only
   by_cases gj:(ox sig fx).Nodup
   ·rw[if_pos gj,if_pos gj]
    show(match pu σ.h (eP σ.h (ox sig fx)) sig fx with|some (ds,its)=>_|none=>none)=_
    cases pu σ.h (eP σ.h (ox sig fx)) sig fx with
    |none=>rfl
    |some z=>
     obtain⟨ds,its⟩:=z
     simp only
     cases M ds with
     |none=>rfl
     |some z=>
      obtain⟨rs,eJ⟩:=z
      simp only[Yy]
      cases σ.pB its eJ with
      |none=>rfl
      |some σ1=>
       simp only[Option.map_some,aeO]
       cases σ1.jK m (yq d) rs with
       |none=>rfl
       |some z=>
        obtain⟨ls,σ2⟩:=z
        simp only[Option.map_some,uC]
   ·rw[if_neg gj,if_neg gj];rfl
theorem Kx:∀(as:List aj) (σ:St) (e:Nat->aj),(σ.we e).iu as=(σ.iu as).map fun x=>(x.1,x.2.1,x.2.2.we e)
 |[],σ,e=>rfl
 |v::as,σ,e=>by
  simp only[St.iu,Jy,Jp]
  cases m8 σ.h v with
  |some x=>
   obtain⟨n,xs⟩:=x
   simp only[Kx as σ e]
   cases σ.iu as<;>rfl
  |none=>
   simp only
   cases v.cells? with
   |none=>rfl
   |some x=>
    obtain⟨ag,cs⟩:=x
    simp only
    cases σ.gf cs with
    |none=>rfl
    |some y=>
     obtain⟨xs,o,σ1⟩:=y
     simp only[Option.map_some,Kx as σ1 e]
     cases σ1.iu as<;>rfl
theorem ajA (σ:St) (e:Nat->aj) (ns:List Nat) (out:List C):(σ.we e).ry ns out=(σ.ry ns out).map (·.we e):=by
 match ns,out with
 |[],[]=>rfl
 |[],_::_=>rfl
 |[n],out=>
  simp only[St.ry,Jy]
  cases σ.h n with
  |none=>rfl
  |some b=>
   cases b with
   |box cs=>simp only;split<;>rfl
   |row gr m rs xs=>rfl
 |_::_::_,out=>rfl
theorem aaM (σ:St) (e:Nat->aj) (d:Option Nat) (rs:List Dv):qM (σ.we e) d rs=(qM σ d rs).map fun τ=>τ.we (uQ e d τ.env):=by
 unfold qM
 split
 ·cases d with
  |none=>rfl
  |some q=>
   simp only[Df]
   cases σ.ins q _ with
   |none=>rfl
   |some σ1=>simp only[Option.map_some,uC]
 ·cases gX rs with
  |none=>rfl
  |some ls=>simp only[Option.map_some,uC]
theorem abt (T:bh) (d:Option Nat) (f:FuncId) (as:List aj) (σ:St) (e:Nat->aj):
  r9 T d f as (σ.we e)=(r9 T d f as σ).map fun τ=>τ.we (uQ e d τ.env):=by
 unfold r9
 rw[Kx]
 cases σ.iu as with
 |none=>rfl
 |some x=>
  obtain⟨ds,ns,σ1⟩:=x
  simp only[Option.map_some]
  cases bh.nW T.vs f with
  |none=>rfl
  |some M=>
   simp only
   cases M ds with
   |none=>rfl
   |some z=>
    obtain⟨rs,out⟩:=z
    simp only[ajA]
    cases σ1.ry ns out with
    |none=>rfl
    |some σ2=>exact aaM σ2 e d rs
theorem Lc (T:bh) (d:Option Nat) (op:aD) (σ:St) (e:Nat->aj) (br:∀x∈op.args,(σ.we e).ev x=σ.ev x) (hd:∀sz x v,op=.store sz x v->d=none):
  aJ T d op (σ.we e)=(aJ T d op σ).map fun τ=>τ.we (uQ e d τ.env):=by
 by_cases hc:op.dJ<=1
 ·rw[pQ T d op _ hc,pQ T d op _ hc,A6 T d op _ br]
  show Option.bind (rd T d op σ.ev σ.h) _=_
  cases rd T d op σ.ev σ.h with
  |none=>rfl
  |some x=>
   simp only[Option.bind_some,gI,x8]
   cases σ.cF x.2 with
   |none=>rfl
   |some σ1=>simp only[Option.map_some,uC]
 ·cases op<;>simp[aD.dJ] at hc
  case d8 sz ps=>
   have hl:ps.map (σ.we e).ev=ps.map σ.ev:=List.map_congr_left br
   simp only[aJ,hl,Z4]
   cases d with
   |none=>rfl
   |some n=>
    cases σ.lm sz (ps.map σ.ev) with
    |none=>rfl
    |some x=>
     obtain⟨es,o,σ1⟩:=x
     simp only[Option.map_some,Df]
     cases σ1.ins n (.row true (if o=true then .aa else .aF) sz es) with
     |none=>rfl
     |some σ2=>simp only[Option.map_some,uC]
  case store sz x v=>
   have h1:=br x (by simp[aD.args])
   have h2:=br v (by simp[aD.args])
   have hd:=hd sz x v rfl
   subst hd
   simp only[aJ,h1,h2]
   cases σ.ev x with
   |one p=>cases p with
    |ptr n k ax off=>
     cases (σ.ev v).cells? with
     |none=>rfl
     |some y=>
      obtain⟨ag,vs⟩:=y
      have:(σ.we e).h n=σ.h n:=rfl
      simp only[this]
      split
      ·cases σ.h n with
       |none=>rfl
       |some b=>cases b with
        |box cs=>simp only;split<;>rfl
        |row gr m rs xs=>
         simp only
         split
         ·cases xs[k]? with
          |none=>rfl
          |some el=>simp only[akN];rfl
         ·rfl
      ·rfl
    |cB n k ax off s i=>
     cases (σ.ev v).cells? with
     |none=>rfl
     |some y=>
      obtain⟨ag,vs⟩:=y
      have:(σ.we e).h n=σ.h n:=rfl
      simp only[this]
      split
      ·cases σ.h n with
       |none=>rfl
       |some b=>cases b with
        |box cs=>rfl
        |row gr m rs xs=>cases m with
         |live=>
          simp only
          split
          ·cases uK xs k off s i vs<;>rfl
          ·rfl
         |_=>rfl
      ·rfl
    |_=>cases (σ.ev v).cells?<;>rfl
   |agg cs=>cases (σ.ev v).cells?<;>rfl
   |bk cs=>cases (σ.ev v).cells?<;>rfl
  case append fl sz by_ x y=>
   have h1:=br x (by simp[aD.args])
   have h2:=br y (by simp[aD.args])
   simp only[aJ,h1,h2,aaz]
   cases d with
   |none=>rfl
   |some n=>
    simp only
    cases pJ σ sz (σ.ev x) with
    |none=>rfl
    |some z=>
     obtain⟨xs,m,σ1⟩:=z
     simp only[Option.map_some,aaB]
     cases lB fl σ1 sz m (σ.ev y) with
     |none=>rfl
     |some z=>
      obtain⟨ys,m2,σ2⟩:=z
      simp only[Option.map_some]
      split
      ·simp only[Df]
       cases σ2.ins n (.row true m2 sz (xs++ys)) with
       |none=>rfl
       |some gF=>simp only[Option.map_some,uC]
      ·rfl
  case copy sz x y=>
   have h1:=br x (by simp[aD.args])
   have h2:=br y (by simp[aD.args])
   have h3:(σ.we e).h=σ.h:=rfl
   simp only[aJ,h1,h2,h3]
   cases σ.ev x with
   |one p=>cases p with
    |sl n s lo len=>
     cases σ.ev y with
     |one c=>
      simp only
      cases σ.h n with
      |none=>rfl
      |some b=>cases b with
       |box cs=>rfl
       |row gr m rs xs=>
        cases bU σ.h c with
        |none=>rfl
        |some q=>cases q with
         |list s' ys=>
          simp only
          split
          ·exact congrArg some (uC (σ.dv n _) e d _)
          ·rfl
         |_=>rfl
     |_=>rfl
    |_=>rfl
   |_=>rfl
  case kN z x=>
   have h1:=br x (by simp[aD.args])
   have h3:(σ.we e).h=σ.h:=rfl
   simp only[aJ,h1,h3]
   cases σ.ev x with
   |one p=>cases p with
    |sl n s lo len=>
     simp only
     cases σ.h n with
     |none=>rfl
     |some b=>cases b with
      |box cs=>rfl
      |row gr m rs xs=>
       simp only
       split
       ·exact congrArg some (uC (σ.dv n _) e d _)
       ·rfl
    |_=>rfl
   |_=>rfl
  case tail sz x y=>
   have h1:=br x (by simp[aD.args])
   have h2:=br y (by simp[aD.args])
   simp only[aJ,h1,h2]
   cases d with
   |none=>rfl
   |some n=>
    generalize (σ.ev y).dc=q
    cases hv:σ.ev x with
    |one p=>cases p with
     |sl a s lo len=>cases lo with
      |zero=>
       cases q with
       |none=>rfl
       |some l=>
        simp only
        have:(σ.we e).h a=σ.h a:=rfl
        rw[this]
        cases σ.h a with
        |none=>rfl
        |some b=>cases b with
         |box cs=>rfl
         |row gr m rs xs=>cases gr with
          |false=>rfl
          |true=>
           simp only
           split
           ·rw[show(σ.we e).del a=(σ.del a).we e from rfl,Df]
            cases (σ.del a).ins n (.row true m sz (xs.drop l.toNat)) with
            |none=>rfl
            |some gF=>simp only[Option.map_some,uC]
           ·rfl
      |succ lo=>cases q<;>rfl
     |_=>cases q<;>rfl
    |_=>cases q<;>rfl
  case e9 m f xs=>
   have hl:xs.map (σ.we e).ev=xs.map σ.ev:=List.map_congr_left br
   simp only[aJ,hl,abu]
  case jv f xs=>
   have hl:xs.map (σ.we e).ev=xs.map σ.ev:=List.map_congr_left br
   simp only[aJ,hl,abt]
section
variable {u vv:Nat->Prop} {h h':Nat->Option aq}
theorem agh (hh:∀n,u n->h' n=h n) {p:ah} (hp:∀m,p.ref m->u m) (sz:Nat):loadAt h' p sz=loadAt h p sz:=by
 cases p with
 |ptr n k ax off=>simp only[loadAt,hh n (hp n rfl)]
 |_=>rfl
theorem ah.A8 {c:ah} {m:Nat} (h:c.iD m):c.ref m:=by
 cases c<;>first|exact h|exact h.elim
def aj.ww:aj->Nat->Prop
 |.one c,m=>c.iD m
 |.agg cs,m=>∃c∈cs,c.iD m
 |.bk _,_=>False
theorem aj.PW {x:aj} {m:Nat} (h:x.ww m):x.ref m:=by
 cases x with
 |one c=>exact ah.A8 h
 |agg cs=>obtain⟨c,hc,h⟩:=h;exact⟨c,hc,ah.A8 h⟩
 |bk xs=>exact h.elim
theorem BH (hh:∀n,u n->h' n=h n) {p:ah} (hp:∀m,p.iD m->u m):bU h' p=bU h p:=by
 cases p with
 |sl n sz lo len=>simp only[bU,hh n (hp n rfl)]
 |bt n k ax off sz len=>simp only[bU,hh n (hp n rfl)]
 |_=>rfl
theorem Tq (hh:∀n,u n->h' n=h n):∀{l:List ah} (_:∀p∈l,∀m,p.iD m->u m),gE h' l=gE h l
 |[],_=>rfl
 |c::cs,hp=>by
  have h1:=BH hh (hp c (by simp))
  have h2:=Tq hh (l:=cs) fun p q=>hp p (List.mem_cons_of_mem _ q)
  simp only[gE,h1,h2]
theorem alc (hh:∀n,u n->h' n=h n) (hb:∀m cs c n,vv m->h m=some (.box cs)->c∈cs->c.ref n->u n) {x:aj} (hx:∀m,x.ww m->u m) (hv:∀m,x.ww m->vv m):ij h' x=ij h x:=by
 cases x with
 |one c=>cases c with
  |ptr n k sz off=>
   simp only[ij,hh n (hx n rfl)]
   cases hn:h n with
   |none=>rfl
   |some b=>cases b with
    |box cs=>simp only[Tq hh fun p hp m hm=>hb n cs p m (hv n rfl) hn hp (ah.A8 hm)]
    |row gr m sz xs=>rfl
  |cf xs off=>rfl
  |c x=>rfl
  |nil sz=>rfl
  |sl n sz lo len=>simp only[ij];rw[BH hh (p:=.sl n sz lo len) hx]
  |bt n k ax off sz len=>simp only[ij];rw[BH hh (p:=.bt n k ax off sz len) hx]
  |cB n k ax off sz i=>rfl
  |fn f ca=>rfl
  |bj=>rfl
 |agg cs=>simp only[ij,Tq hh fun p hp m hm=>hx m ⟨p,hp,hm⟩]
 |bk xs=>rfl
theorem Jv (hh:∀n,u n->h' n=h n) (hb:∀m cs c n,vv m->h m=some (.box cs)->c∈cs->c.ref n->u n):∀{xs:List aj} (_:∀x∈xs,∀m,x.ww m->u m) (_:∀x∈xs,∀m,x.ww m->vv m),kJ h' xs=kJ h xs
 |[],_,_=>rfl
 |x::xs,hx,hv=>by
  have h1:=alc hh hb (hx x (by simp)) (hv x (by simp))
  have h2:=Jv hh hb (xs:=xs) (fun p q=>hx p (List.mem_cons_of_mem _ q)) (fun p q=>hv p (List.mem_cons_of_mem _ q))
  simp only[kJ,h1,h2]
theorem YB (T:bh) (d:Option Nat) (op:aD) (ev:MO->aj) (hh:∀n,u n->h' n=h n) (tL:op.Dg=true->∀m cs c n,vv m->h m=some (.box cs)->c∈cs->c.ref n->u n)
  (hx:∀x∈op.args,∀m,(ev x).ref m->u m) (HC:∀x∈op.args,∀m,(ev x).ref m->vv m):rd T d op ev h'=rd T d op ev h:=by
 cases op with
 |load ag sz x=>
  have h1:=hx x (by simp[aD.args])
  simp only[rd]
  cases hv:ev x with
  |one p=>rw[hv] at h1;simp only[agh hh (p:=p) h1]
  |_=>rfl
 |oy x=>
  have h1:=hx x (by simp[aD.args])
  simp only[rd]
  cases hv:ev x with
  |one p=>cases p with
   |ptr n k sz off=>rw[hv] at h1;simp only[hh n (h1 n rfl)]
   |_=>rfl
  |_=>rfl
 |ak off x=>
  have h1:=hx x (by simp[aD.args])
  simp only[rd]
  cases hv:ev x with
  |one p=>cases p with
   |ptr n k sz off=>rw[hv] at h1;simp only[hh n (h1 n rfl)]
   |_=>rfl
  |_=>rfl
 |len x=>
  have h1:=hx x (by simp[aD.args])
  simp only[rd]
  cases hv:ev x with
  |one p=>cases p with
   |sl n sz lo len=>rw[hv] at h1;simp only[hh n (h1 n rfl)]
   |bt n k ax off sz len=>rw[hv] at h1;simp only[BH hh (p:=.bt n k ax off sz len) (fun m hm=>h1 m (ah.A8 hm))]
   |c x=>cases x<;>rfl
   |_=>rfl
  |_=>rfl
 |mU f bM x=>
  have h1:=hx x (by simp[aD.args])
  simp only[rd]
  cases hv:ev x with
  |one p=>cases p with
   |sl n sz lo len=>rw[hv] at h1;simp only[hh n (h1 n rfl)]
   |c x=>cases x<;>rfl
   |_=>rfl
  |_=>rfl
 |bT sz x i=>
  have h1:=hx x (by simp[aD.args])
  simp only[rd]
  generalize (ev i).dc=q
  cases hv:ev x with
  |one p=>cases p with
   |sl n s lo len=>
    rw[hv] at h1
    have h2:=hh n (h1 n rfl)
    cases q with
    |none=>rfl
    |some q=>simp only[h2]
   |bt n k ax off s len=>
    rw[hv] at h1
    cases q with
    |none=>rfl
    |some q=>simp only[BH hh (p:=.bt n k ax off s len) (fun m hm=>h1 m (ah.A8 hm))]
   |c x=>cases x<;>cases q<;>rfl
   |_=>cases q<;>rfl
  |_=>cases q<;>rfl
 |slice sz x lo hi=>
  have h1:=hx x (by simp[aD.args])
  simp only[rd]
  cases hv:ev x with
  |one p=>cases p with
   |sl n s l0 len=>
    rw[hv] at h1
    have h2:=hh n (h1 n rfl)
    cases lo with
    |none=>simp only[h2]
    |some lo=>
     simp only
     cases (ev lo).dc with
     |none=>rfl
     |some q=>simp only[h2]
   |c x=>cases lo with
    |none=>cases x<;>rfl
    |some lo=>
     simp only
     cases (ev lo).dc<;>cases x<;>rfl
   |_=>cases lo<;>rfl
  |_=>cases lo<;>rfl
 |call m f xs=>
  simp only[rd,zo]
  have go:∀u':Nat->Prop,(∀x∈(aD.call m f xs).args,∀m,(ev x).ref m->u' m)->∀x∈xs.map ev,∀m,x.ww m->u' m:=by
   intro u' hx x C4 q hq
   obtain⟨y,hy,rfl⟩:=List.mem_map.1 C4
   exact hx y hy q (aj.PW hq)
  rw[Jv hh (tL rfl) (go _ hx) (go _ HC)]
 |mr f xs=>
  simp only[rd,tv]
  have go:∀u':Nat->Prop,(∀x∈(aD.mr f xs).args,∀m,(ev x).ref m->u' m)->∀x∈xs.map ev,∀m,x.ww m->u' m:=by
   intro u' hx x C4 q hq
   obtain⟨y,hy,rfl⟩:=List.mem_map.1 C4
   exact hx y hy q (aj.PW hq)
  rw[Jv hh (tL rfl) (go _ hx) (go _ HC)]
 |mw m x xs=>
  simp only[rd]
  cases hv:ev x with
  |one p=>cases p with
   |fn f ca=>
    simp only[zo]
    have go:∀u':Nat->Prop,(∀y∈(aD.mw m x xs).args,∀m,(ev y).ref m->u' m)->∀y∈xs.map ev++ca.map aj.one,∀m,y.ww m->u' m:=by
     intro u' hx y hym q hq
     rcases List.mem_append.1 hym with hy|hy
     ·obtain⟨z,hz,rfl⟩:=List.mem_map.1 hy
      exact hx z (by simp[aD.args,hz]) q (aj.PW hq)
     ·obtain⟨z,hz,rfl⟩:=List.mem_map.1 hy
      refine hx x (by simp[aD.args]) q ?_
      rw[hv]
      exact⟨z,hz,hq⟩
    rw[Jv hh (tL rfl) (go _ hx) (go _ HC)]
   |_=>rfl
  |_=>rfl
 |_=>rfl
theorem YA (T:bh) (d:Option Nat) (op:aD) (ev:MO->aj) (hh:∀n,u n->h' n=h n) (hb:∀m cs c n,h m=some (.box cs)->c∈cs->c.ref n->u n)
  (hx:∀x∈op.args,∀m,(ev x).ref m->u m):rd T d op ev h'=rd T d op ev h:=
 YB (vv:=fun _=>True) T d op ev hh (fun _ m cs c n _=>hb m cs c n) hx (fun _ _ _ _=>trivial)
theorem YD (T:bh) (d:Option Nat) (op:aD) (ev:MO->aj) (h h':Nat->Option aq) (hc:op.dJ=0):rd T d op ev h'=rd T d op ev h:=by
 cases op<;>simp[aD.dJ] at hc<;>rfl
end
end Go.Am
