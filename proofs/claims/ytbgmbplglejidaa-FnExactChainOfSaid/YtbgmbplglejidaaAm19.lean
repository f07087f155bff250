/- Am19: operations that may change places, continued. No condition. -/
import Derived.Test.YtbgmbplglejidaaAm18
set_option linter.unusedVariables false
namespace Go.Am
def St.we (σ:St) (e:Nat->aj):St:={σ with env:=e}
def vi (e:Nat->aj) (d:Option Nat) (x:Nat->aj):Nat->aj:=
 match d with
 |some n=>ax e n (x n)
 |none=>e
theorem aqE (σ:St):σ.we σ.env=σ:=rfl
theorem tn (σ:St) (e:Nat->aj) (d:Option Nat) (v:aj):(σ.we e).put d v=(σ.put d v).we (vi e d (σ.put d v).env):=by
 cases d with
 |none=>rfl
 |some n=>simp[St.put,St.we,vi,bE]
theorem Eh (σ:St) (e:Nat->aj) (n:Nat) (b:aq):(σ.we e).ins n b=(σ.ins n b).map (·.we e):=by
 unfold St.ins
 by_cases h:σ.used n=true
 ·rw[if_pos h,if_pos (show(σ.we e).used n=true from h)];rfl
 ·rw[if_neg h,if_neg (show¬(σ.we e).used n=true from h)];rfl
theorem yP:∀(l:List (Nat×aq)) (σ:St) (e:Nat->aj),(σ.we e).ct l=(σ.ct l).map (·.we e)
 |[],σ,e=>rfl
 |(n,b)::l,σ,e=>by
  simp only[St.ct,Eh]
  cases σ.ins n b with
  |none=>rfl
  |some σ1=>exact yP l σ1 e
theorem aqo (σ:St) (e:Nat->aj) (c:ah):(σ.we e).fG c=(σ.fG c).map fun x=>(x.1,x.2.1,x.2.2.we e):=by
 cases c with
 |c x=>rfl
 |nil sz=>simp only[St.fG];split<;>rfl
 |sl n sz lo len=>
  have:(σ.we e).h n=σ.h n:=rfl
  simp only[St.fG,this]
  cases σ.h n with
  |none=>rfl
  |some b=>cases b with
   |box cs=>rfl
   |row gr m rs xs=>simp only;split<;>rfl
 |_=>rfl
theorem FC:∀(cs:List ah) (σ:St) (e:Nat->aj),(σ.we e).fg cs=(σ.fg cs).map fun x=>(x.1,x.2.1,x.2.2.we e)
 |[],σ,e=>rfl
 |c::cs,σ,e=>by
  simp only[St.fg,aqo]
  cases σ.fG c with
  |none=>rfl
  |some x=>
   obtain⟨x,o,σ1⟩:=x
   simp only[Option.map_some,FC cs σ1 e]
   cases σ1.fg cs<;>rfl
theorem aht (σ:St) (e:Nat->aj) (p:ah):(σ.we e).pW p=(σ.pW p).map (·.we e):=by
 cases p with
 |ptr n k sz off=>
  have h3:(σ.we e).h=σ.h:=rfl
  simp only[St.pW,h3]
  cases σ.h n with
  |none=>rfl
  |some b=>
   cases b with
   |row gr m rs xs=>rfl
   |box cs=>
    simp only[FC]
    cases σ.fg cs with
    |none=>rfl
    |some x=>rfl
 |_=>rfl
theorem adN (sz:Nat):∀(vs:List aj) (σ:St) (e:Nat->aj),(σ.we e).kY sz vs=(σ.kY sz vs).map fun x=>(x.1,x.2.1,x.2.2.we e)
 |[],σ,e=>rfl
 |v::vs,σ,e=>by
  simp only[St.kY]
  cases v.cells? with
  |none=>rfl
  |some x=>
   obtain⟨ag,cs⟩:=x
   simp only
   split
   ·simp only[FC]
    cases σ.fg cs with
    |none=>rfl
    |some y=>
     obtain⟨y,o,σ1⟩:=y
     simp only[Option.map_some,adN sz vs σ1 e]
     cases σ1.kY sz vs<;>rfl
   ·rfl
theorem aem (σ:St) (e:Nat->aj) (sz:Nat) (v:aj):pI (σ.we e) sz v=(pI σ sz v).map fun x=>(x.1,x.2.1,x.2.2.we e):=by
 cases v with
 |one v=>cases v with
  |sl a s lo len=>cases lo with
   |zero=>
    have:(σ.we e).h a=σ.h a:=rfl
    simp only[pI,this]
    cases σ.h a with
    |none=>rfl
    |some b=>cases b with
     |box cs=>rfl
     |row gr m rs xs=>cases gr with
      |true=>simp only;split<;>rfl
      |false=>rfl
   |succ lo=>rfl
  |_=>rfl
 |_=>rfl
theorem aeo (fl:Bool) (σ:St) (e:Nat->aj) (sz:Nat) (m:Mode) (v:aj):lm fl (σ.we e) sz m v=(lm fl σ sz m v).map fun x=>(x.1,x.2.1,x.2.2.we e):=by
 cases v with
 |one v=>cases v with
  |sl b s lo len=>
   have:(σ.we e).h b=σ.h b:=rfl
   simp only[lm,this]
   cases σ.h b with
   |none=>rfl
   |some b=>cases b with
    |box cs=>rfl
    |row gr m rs xs=>
     simp only
     repeat' split
     all_goals rfl
  |c x=>cases x with
   |list s ys=>
    simp only[lm]
    repeat' split
    all_goals rfl
   |_=>rfl
  |_=>rfl
 |_=>rfl
theorem ap7 (σ:St) (e:Nat->aj) (n:Nat) (gr:Bool) (m:Mode) (rs:Nat) (xs:List (List C)) (k off:Nat) (el:List C) (vs:List ah):
  mU (σ.we e) n gr m rs xs k off el vs=(mU σ n gr m rs xs k off el vs).map (·.we e):=by
 simp only[mU,FC]
 cases sub el off vs.length with
 |none=>rfl
 |some f0=>
  simp only
  cases σ.fg vs with
  |none=>rfl
  |some x=>
   obtain⟨cs,o,σ1⟩:=x
   have:(σ1.we e).h n=σ1.h n:=rfl
   simp only[Option.map_some,this]
   repeat' split
   all_goals rfl
theorem B0 (T:aS) (d:Option Nat) (op:aF) {ev ev':MO->aj} (h:Nat->Option aq) (bq:∀x∈op.args,ev' x=ev x):rd T d op ev' h=rd T d op ev h:=by
 have hl:∀xs:List MO,(∀x∈xs,ev' x=ev x)->xs.map ev'=xs.map ev:=fun xs hx=>List.map_congr_left hx
 have hp:∀(ps:List (Nat×Nat×MO)) (zs:List ah),(∀x∈ps.map (·.2.2),ev' x=ev x)->pC ev' zs ps=pC ev zs ps:=by
  intro ps
  induction ps with
  |nil=>intro zs _;rfl
  |cons p ps ih=>
   intro zs hx
   obtain⟨off,sz,x⟩:=p
   simp only[pC]
   rw[hx x (by simp)]
   cases (ev x).cells? with
   |none=>rfl
   |some y=>
    simp only
    split
    ·exact ih _ fun z hz=>hx z (by simp at hz⊢;exact .inr hz)
    ·rfl
 cases op with
 |build zs ps=>simp only[rd];rw[hp ps zs bq]
 |call m f xs=>simp only[rd];rw[hl xs bq]
 |mf f xs=>simp only[rd];rw[hl xs bq]
 |mh f xs=>simp only[rd];rw[hl xs bq]
 |lv f xs=>simp only[rd];rw[hl xs bq]
 |pf f xs=>simp only[rd];rw[hl xs bq]
 |mg m x xs=>simp only[rd];rw[bq x (by simp[aF.args]),hl xs fun y hy=>bq y (by simp[aF.args,hy])]
 |slice sz x lo hi=>
  have h1:=bq x (by simp[aF.args])
  cases lo with
  |none=>cases hi with
   |none=>simp only[rd,h1]
   |some hi=>have h3:=bq hi (by simp[aF.args]);simp only[rd,h1,h3]
  |some lo=>
   have h2:=bq lo (by simp[aF.args])
   cases hi with
   |none=>simp only[rd,h1,h2]
   |some hi=>have h3:=bq hi (by simp[aF.args]);simp only[rd,h1,h2,h3]
 |mv x=>have h1:=bq x (by simp[aF.args]);simp only[rd,h1]
 |pick x y z=>have h1:=bq x (by simp[aF.args]);have h2:=bq y (by simp[aF.args]);have h3:=bq z (by simp[aF.args]);simp only[rd,h1,h2,h3]
 |alloc zs=>rfl
 |box sz x=>have h1:=bq x (by simp[aF.args]);simp only[rd,h1]
 |e7 sz ps=>rfl
 |eN m f xs=>rfl
 |jh f xs=>rfl
 |load ag sz x=>have h1:=bq x (by simp[aF.args]);simp only[rd,h1]
 |store sz x v=>rfl
 |od x=>have h1:=bq x (by simp[aF.args]);simp only[rd,h1]
 |bin op x y=>have h1:=bq x (by simp[aF.args]);have h2:=bq y (by simp[aF.args]);simp only[rd,h1,h2]
 |me op x y=>have h1:=bq x (by simp[aF.args]);have h2:=bq y (by simp[aF.args]);simp only[rd,h1,h2]
 |un op x=>have h1:=bq x (by simp[aF.args]);simp only[rd,h1]
 |conv k x=>have h1:=bq x (by simp[aF.args]);simp only[rd,h1]
 |jC m sz by_ zs x y=>have h1:=bq x (by simp[aF.args]);have h2:=bq y (by simp[aF.args]);simp only[rd,h1,h2]
 |ao off x=>have h1:=bq x (by simp[aF.args]);simp only[rd,h1]
 |bm sz x y=>have h1:=bq x (by simp[aF.args]);have h2:=bq y (by simp[aF.args]);simp only[rd,h1,h2]
 |ext i x=>have h1:=bq x (by simp[aF.args]);simp only[rd,h1]
 |oM ag off sz x=>have h1:=bq x (by simp[aF.args]);simp only[rd,h1]
 |ou f bN x=>have h1:=bq x (by simp[aF.args]);simp only[rd,h1]
 |len x=>have h1:=bq x (by simp[aF.args]);simp only[rd,h1]
 |append fl sz by_ x y=>rfl
 |tail sz x lo=>rfl
 |mO ag sz x=>rfl
 |copy sz x y=>rfl
 |kB z x=>rfl
 |mm b x y=>have h1:=bq x (by simp[aF.args]);have h2:=bq y (by simp[aF.args]);simp only[rd,h1,h2]
theorem KR (σ:St) (e:Nat->aj):(σ.we e).h=σ.h:=rfl
theorem aoP (σ:St) (e:Nat->aj) (it:cI) (x:C):(σ.we e).nr it x=(σ.nr it x).map (·.we e):=by
 cases it with
 |nil sz=>rfl
 |row n=>
  cases x with
  |int k i=>rfl
  |bool b=>rfl
  |list sz xs=>
   simp only[St.nr,KR]
   cases σ.h n with
   |none=>rfl
   |some b=>
    cases b with
    |box cs=>rfl
    |row gr m rs kz=>simp only;split<;>rfl
 |nest n k off=>
  simp only[St.nr,KR]
  cases σ.h n with
  |none=>rfl
  |some b=>
   cases b with
   |box cs=>rfl
   |row gr m rs kz=>
    simp only
    cases kz[k]? with
    |none=>rfl
    |some el=>rfl
theorem abT:∀(its:List (cI×Mode)) (eI:List C) (σ:St) (e:Nat->aj),(σ.we e).pw its eI=(σ.pw its eI).map (·.we e)
 |[],[],σ,e=>rfl
 |it::its,x::eI,σ,e=>by
  simp only[St.pw,aoP]
  cases σ.nr it.1 x with
  |none=>rfl
  |some σ1=>exact abT its eI σ1 e
 |[],_::_,σ,e=>rfl
 |_::_,[],σ,e=>rfl
theorem aiO (m:Mode) (σ:St) (e:Nat->aj) (nm:Nat) (ds:List Dv):(σ.we e).jt m nm ds=(σ.jt m nm ds).map fun x=>(x.1,x.2.we e):=by
 simp only[PT]
 cases wG m nm ds with
 |none=>rfl
 |some x=>
  simp only[Option.bind_some,yP]
  cases σ.ct x.2 with
  |none=>rfl
  |some σ1=>rfl
theorem afj (T:aS) (m:Mode) (d:Option Nat) (f:FuncId) (as:List aj) (σ:St) (e:Nat->aj):
  tV T m d f as (σ.we e)=(tV T m d f as σ).map fun τ=>τ.we (vi e d τ.env):=by
 unfold tV
 cases aS.rk T.BH f with
 |none=>rfl
 |some z=>
  obtain⟨sig,M⟩:=z
  cases o8 as with
  |none=>rfl
  |some dq=>
   simp only
   by_cases gb:(jW sig dq).Nodup
   ·rw[if_pos gb,if_pos gb]
    show(match kO σ.h (dJ σ.h (jW sig dq)) sig dq with|some (ds,its)=>_|none=>none)=_
    cases kO σ.h (dJ σ.h (jW sig dq)) sig dq with
    |none=>rfl
    |some z=>
     obtain⟨ds,its⟩:=z
     simp only
     cases M ds with
     |none=>rfl
     |some z=>
      obtain⟨rs,eI⟩:=z
      simp only[abT]
      cases σ.pw its eI with
      |none=>rfl
      |some σ1=>
       simp only[Option.map_some,aiO]
       cases σ1.jt m (y8 d) rs with
       |none=>rfl
       |some z=>
        obtain⟨ls,σ2⟩:=z
        simp only[Option.map_some,tn]
   ·rw[if_neg gb,if_neg gb];rfl
theorem Ml:∀(as:List aj) (σ:St) (e:Nat->aj),(σ.we e).gF as=(σ.gF as).map fun x=>(x.1,x.2.1,x.2.2.we e)
 |[],σ,e=>rfl
 |v::as,σ,e=>by
  simp only[St.gF,KR,FC]
  cases lr σ.h v with
  |some x=>
   obtain⟨n,xs⟩:=x
   simp only[Ml as σ e]
   cases σ.gF as<;>rfl
  |none=>
   simp only
   cases v.cells? with
   |none=>rfl
   |some x=>
    obtain⟨ag,cs⟩:=x
    simp only
    cases σ.fg cs with
    |none=>rfl
    |some y=>
     obtain⟨xs,o,σ1⟩:=y
     simp only[Option.map_some,Ml as σ1 e]
     cases σ1.gF as<;>rfl
theorem aoN (σ:St) (e:Nat->aj) (ns:List Nat) (out:List C):(σ.we e).qF ns out=(σ.qF ns out).map (·.we e):=by
 match ns,out with
 |[],[]=>rfl
 |[],_::_=>rfl
 |[n],out=>
  simp only[St.qF,KR]
  cases σ.h n with
  |none=>rfl
  |some b=>
   cases b with
   |box cs=>simp only;split<;>rfl
   |row gr m rs xs=>rfl
 |_::_::_,out=>rfl
theorem aeB (σ:St) (e:Nat->aj) (d:Option Nat) (rs:List Dv):pK (σ.we e) d rs=(pK σ d rs).map fun τ=>τ.we (vi e d τ.env):=by
 unfold pK
 split
 ·cases d with
  |none=>rfl
  |some q=>
   simp only[Eh]
   cases σ.ins q _ with
   |none=>rfl
   |some σ1=>simp only[Option.map_some,tn]
 ·cases gj rs with
  |none=>rfl
  |some ls=>simp only[Option.map_some,tn]
theorem afi (T:aS) (d:Option Nat) (f:FuncId) (as:List aj) (σ:St) (e:Nat->aj):
  pQ T d f as (σ.we e)=(pQ T d f as σ).map fun τ=>τ.we (vi e d τ.env):=by
 unfold pQ
 rw[Ml]
 cases σ.gF as with
 |none=>rfl
 |some x=>
  obtain⟨ds,ns,σ1⟩:=x
  simp only[Option.map_some]
  cases aS.j9 T.vs f with
  |none=>rfl
  |some M=>
   simp only
   cases M ds with
   |none=>rfl
   |some z=>
    obtain⟨rs,out⟩:=z
    simp only[aoN]
    cases σ1.qF ns out with
    |none=>rfl
    |some σ2=>exact aeB σ2 e d rs
theorem M6 (T:aS) (d:Option Nat) (op:aF) (σ:St) (e:Nat->aj) (bq:∀x∈op.args,(σ.we e).ev x=σ.ev x) (hd:∀sz x v,op=.store sz x v->d=none):
  exec T d op (σ.we e)=(exec T d op σ).map fun τ=>τ.we (vi e d τ.env):=by
 by_cases hc:op.dE<=1
 ·rw[oK T d op _ hc,oK T d op _ hc,B0 T d op _ bq]
  show Option.bind (rd T d op σ.ev σ.h) _=_
  cases rd T d op σ.ev σ.h with
  |none=>rfl
  |some x=>
   simp only[Option.bind_some,fin,yP]
   cases σ.ct x.2 with
   |none=>rfl
   |some σ1=>simp only[Option.map_some,tn]
 ·cases op<;>simp[aF.dE] at hc
  case e7 sz ps=>
   have hl:ps.map (σ.we e).ev=ps.map σ.ev:=List.map_congr_left bq
   simp only[exec,hl,adN]
   cases d with
   |none=>rfl
   |some n=>
    cases σ.kY sz (ps.map σ.ev) with
    |none=>rfl
    |some x=>
     obtain⟨es,o,σ1⟩:=x
     simp only[Option.map_some,Eh]
     cases σ1.ins n (.row true (if o=true then .ab else .aO) sz es) with
     |none=>rfl
     |some σ2=>simp only[Option.map_some,tn]
  case store sz x v=>
   have h1:=bq x (by simp[aF.args])
   have h2:=bq v (by simp[aF.args])
   have hd:=hd sz x v rfl
   subst hd
   simp only[exec,h1,h2]
   cases σ.ev x with
   |one p=>cases p with
    |ptr n k aD off=>
     cases (σ.ev v).cells? with
     |none=>rfl
     |some y=>
      obtain⟨ag,vs⟩:=y
      have:(σ.we e).h n=σ.h n:=rfl
      simp only[this]
      split
      ·cases σ.h n with
       |none=>rfl
       |some b=>cases b with
        |box cs=>simp only;split<;>rfl
        |row gr m rs xs=>
         simp only
         split
         ·cases xs[k]? with
          |none=>rfl
          |some el=>simp only[ap7];rfl
         ·rfl
      ·rfl
    |cN n k aD off s i=>
     cases (σ.ev v).cells? with
     |none=>rfl
     |some y=>
      obtain⟨ag,vs⟩:=y
      have:(σ.we e).h n=σ.h n:=rfl
      simp only[this]
      split
      ·cases σ.h n with
       |none=>rfl
       |some b=>cases b with
        |box cs=>rfl
        |row gr m rs xs=>cases m with
         |live=>
          simp only
          split
          ·cases vc xs k off s i vs<;>rfl
          ·rfl
         |_=>rfl
      ·rfl
    |_=>cases (σ.ev v).cells?<;>rfl
   |agg cs=>cases (σ.ev v).cells?<;>rfl
   |bo cs=>cases (σ.ev v).cells?<;>rfl
  case append fl sz by_ x y=>
   have h1:=bq x (by simp[aF.args])
   have h2:=bq y (by simp[aF.args])
   simp only[exec,h1,h2,aem]
   cases d with
   |none=>rfl
   |some n=>
    simp only
    cases pI σ sz (σ.ev x) with
    |none=>rfl
    |some z=>
     obtain⟨xs,m,σ1⟩:=z
     simp only[Option.map_some,aeo]
     cases lm fl σ1 sz m (σ.ev y) with
     |none=>rfl
     |some z=>
      obtain⟨ys,m2,σ2⟩:=z
      simp only[Option.map_some]
      split
      ·simp only[Eh]
       cases σ2.ins n (.row true m2 sz (xs++ys)) with
       |none=>rfl
       |some gD=>simp only[Option.map_some,tn]
      ·rfl
  case copy sz x y=>
   have h1:=bq x (by simp[aF.args])
   have h2:=bq y (by simp[aF.args])
   have h3:(σ.we e).h=σ.h:=rfl
   simp only[exec,h1,h2,h3]
   cases σ.ev x with
   |one p=>cases p with
    |sl n s lo len=>
     cases σ.ev y with
     |one c=>
      simp only
      cases σ.h n with
      |none=>rfl
      |some b=>cases b with
       |box cs=>rfl
       |row gr m rs xs=>
        cases bU σ.h c with
        |none=>rfl
        |some q=>cases q with
         |list s' ys=>
          simp only
          split
          ·exact congrArg some (tn (σ.du n _) e d _)
          ·rfl
         |_=>rfl
     |_=>rfl
    |_=>rfl
   |_=>rfl
  case kB z x=>
   have h1:=bq x (by simp[aF.args])
   have h3:(σ.we e).h=σ.h:=rfl
   simp only[exec,h1,h3]
   cases σ.ev x with
   |one p=>cases p with
    |sl n s lo len=>
     simp only
     cases σ.h n with
     |none=>rfl
     |some b=>cases b with
      |box cs=>rfl
      |row gr m rs xs=>
       simp only
       split
       ·exact congrArg some (tn (σ.du n _) e d _)
       ·rfl
    |_=>rfl
   |_=>rfl
  case mO ag sz x=>
   have h1:=bq x (by simp[aF.args])
   simp only[exec,h1]
   cases σ.ev x with
   |one p=>
    simp only[aht]
    cases σ.pW p with
    |none=>rfl
    |some σ1=>
     simp only[Option.map_some]
     have h3:(σ1.we e).h=σ1.h:=rfl
     rw[h3]
     cases loadAt σ1.h p sz with
     |none=>rfl
     |some cs=>exact congrArg some (tn σ1 e d _)
   |_=>rfl
  case tail sz x y=>
   have h1:=bq x (by simp[aF.args])
   have h2:=bq y (by simp[aF.args])
   simp only[exec,h1,h2]
   cases d with
   |none=>rfl
   |some n=>
    generalize (σ.ev y).dh=q
    cases hv:σ.ev x with
    |one p=>cases p with
     |sl a s lo len=>cases lo with
      |zero=>
       cases q with
       |none=>rfl
       |some l=>
        simp only
        have:(σ.we e).h a=σ.h a:=rfl
        rw[this]
        cases σ.h a with
        |none=>rfl
        |some b=>cases b with
         |box cs=>rfl
         |row gr m rs xs=>cases gr with
          |false=>rfl
          |true=>
           simp only
           split
           ·rw[show(σ.we e).del a=(σ.del a).we e from rfl,Eh]
            cases (σ.del a).ins n (.row true m sz (xs.drop l.toNat)) with
            |none=>rfl
            |some gD=>simp only[Option.map_some,tn]
           ·rfl
      |succ lo=>cases q<;>rfl
     |_=>cases q<;>rfl
    |_=>cases q<;>rfl
  case eN m f xs=>
   have hl:xs.map (σ.we e).ev=xs.map σ.ev:=List.map_congr_left bq
   simp only[exec,hl,afj]
  case jh f xs=>
   have hl:xs.map (σ.we e).ev=xs.map σ.ev:=List.map_congr_left bq
   simp only[exec,hl,afi]
section
variable {u vv:Nat->Prop} {h h':Nat->Option aq}
theorem akv (hh:∀n,u n->h' n=h n) {p:ah} (hp:∀m,p.ref m->u m) (sz:Nat):loadAt h' p sz=loadAt h p sz:=by
 cases p with
 |ptr n k aD off=>simp only[loadAt,hh n (hp n rfl)]
 |_=>rfl
theorem ah.xa {c:ah} {m:Nat} (h:c.iu m):c.ref m:=by
 cases c<;>first|exact h|exact h.elim
def aj.xb:aj->Nat->Prop
 |.one c,m=>c.iu m
 |.agg cs,m=>∃c∈cs,c.iu m
 |.bo _,_=>False
theorem aj.Su {x:aj} {m:Nat} (h:x.xb m):x.ref m:=by
 cases x with
 |one c=>exact ah.xa h
 |agg cs=>obtain⟨c,hc,h⟩:=h;exact⟨c,hc,ah.xa h⟩
 |bo xs=>exact h.elim
theorem zy (hh:∀n,u n->h' n=h n) {p:ah} (hp:∀m,p.iu m->u m):bU h' p=bU h p:=by
 cases p with
 |sl n sz lo len=>simp only[bU,hh n (hp n rfl)]
 |bx n k aD off sz len=>simp only[bU,hh n (hp n rfl)]
 |_=>rfl
theorem KN (hh:∀n,u n->h' n=h n):∀{l:List ah} (_:∀p∈l,∀m,p.iu m->u m),gB h' l=gB h l
 |[],_=>rfl
 |c::cs,hp=>by
  have h1:=zy hh (hp c (by simp))
  have h2:=KN hh (l:=cs) fun p q=>hp p (List.mem_cons_of_mem _ q)
  simp only[gB,h1,h2]
theorem aqB (hh:∀n,u n->h' n=h n) (hb:∀m cs c n,vv m->h m=some (.box cs)->c∈cs->c.ref n->u n) {x:aj} (hx:∀m,x.xb m->u m) (hv:∀m,x.xb m->vv m):ib h' x=ib h x:=by
 cases x with
 |one c=>cases c with
  |ptr n k sz off=>
   simp only[ib,hh n (hx n rfl)]
   cases hn:h n with
   |none=>rfl
   |some b=>cases b with
    |box cs=>simp only[KN hh fun p hp m hm=>hb n cs p m (hv n rfl) hn hp (ah.xa hm)]
    |row gr m sz xs=>rfl
  |cj xs off=>rfl
  |c x=>rfl
  |nil sz=>rfl
  |sl n sz lo len=>simp only[ib];rw[zy hh (p:=.sl n sz lo len) hx]
  |bx n k aD off sz len=>simp only[ib];rw[zy hh (p:=.bx n k aD off sz len) hx]
  |cN n k aD off sz i=>rfl
  |fn f cf=>rfl
  |bn=>rfl
 |agg cs=>simp only[ib,KN hh fun p hp m hm=>hx m ⟨p,hp,hm⟩]
 |bo xs=>rfl
theorem KM (hh:∀n,u n->h' n=h n) (hb:∀m cs c n,vv m->h m=some (.box cs)->c∈cs->c.ref n->u n):∀{xs:List aj} (_:∀x∈xs,∀m,x.xb m->u m) (_:∀x∈xs,∀m,x.xb m->vv m),kw h' xs=kw h xs
 |[],_,_=>rfl
 |x::xs,hx,hv=>by
  have h1:=aqB hh hb (hx x (by simp)) (hv x (by simp))
  have h2:=KM hh hb (xs:=xs) (fun p q=>hx p (List.mem_cons_of_mem _ q)) (fun p q=>hv p (List.mem_cons_of_mem _ q))
  simp only[kw,h1,h2]
theorem akE (hh:∀n,u n->h' n=h n) {md:Mode} {c:ah} (hp:∀m,c.ref m->u m):rQ h' md c=rQ h md c:=by
 cases c with
 |sl n sz lo len=>simp only[rQ,hh n (hp n rfl)]
 |bx n k aD off sz len=>simp only[rQ,hh n (hp n rfl)]
 |_=>rfl
theorem aaa (hh:∀n,u n->h' n=h n) (ns:List Nat):∀n,u n->dJ h' ns n=dJ h ns n:=fun n hn=>by simp only[dJ,hh n hn]
theorem QC (hh:∀n,u n->h' n=h n) (ns:List Nat):∀(fs:List (Option Mode)) (cs:List ah),(∀c∈cs,∀m,c.ref m->u m)->jA h' (dJ h' ns) fs cs=jA h (dJ h ns) fs cs
 |[],cs,hc=>by simp only[jA,KN (aaa hh ns) fun p hp m hm=>hc p hp m (ah.xa hm)]
 |none::fs,c::cs,hc=>by
  simp only[jA,zy (aaa hh ns) fun m hm=>hc c (by simp) m (ah.xa hm),QC hh ns fs cs fun p hp=>hc p (by simp[hp])]
 |some md::fs,c::cs,hc=>by
  simp only[jA,akE hh (hc c (by simp)),QC hh ns fs cs fun p hp=>hc p (by simp[hp])]
 |none::_,[],_=>rfl
 |some _::_,[],_=>rfl
theorem abh (hh:∀n,u n->h' n=h n) (ns:List Nat):∀(as:List (Bool×List ah)) (sig:aN),(∀x∈as,∀c∈x.2,∀m,c.ref m->u m)->kO h' (dJ h' ns) sig as=kO h (dJ h ns) sig as
 |[],_,_=>rfl
 |(ag,cs)::as,sig,hc=>by
  simp only[kO,QC hh ns (aN.hd sig) cs (hc (ag,cs) (by simp)),abh hh ns as (aN.tl sig) fun x hx=>hc x (by simp[hx])]
theorem QE:∀{fs:List (Option Mode)} {cs:List ah} {n:Nat},n∈mQ fs cs->∃c∈cs,c.ref n
 |some _::fs,c::cs,n,hn=>by
  simp only[mQ] at hn
  rcases List.mem_append.1 hn with h|h
  ·refine⟨c,by simp,?_⟩
   cases c<;>simp[ah.dB] at h<;>(subst h;rfl)
  ·obtain⟨c',h1,h2⟩:=QE h
   exact⟨c',by simp[h1],h2⟩
 |none::fs,c::cs,n,hn=>by
  simp only[mQ] at hn
  obtain⟨c',h1,h2⟩:=QE hn
  exact⟨c',by simp[h1],h2⟩
 |[],_,n,hn=>by simp[mQ] at hn
 |some _::_,[],n,hn=>by simp[mQ] at hn
 |none::_,[],n,hn=>by simp[mQ] at hn
theorem aba:∀{as:List (Bool×List ah)} {sig:aN} {n:Nat},n∈jW sig as->∃x∈as,∃c∈x.2,c.ref n
 |a::as,s::sig,n,hn=>by
  simp only[jW] at hn
  rcases List.mem_append.1 hn with h|h
  ·obtain⟨c,h1,h2⟩:=QE h
   exact⟨a,by simp,c,h1,h2⟩
  ·obtain⟨x,h1,h2⟩:=aba h
   exact⟨x,by simp[h1],h2⟩
 |[],s::sig,n,hn=>by simp[jW] at hn
 |as,[],n,hn=>by cases as<;>simp[jW] at hn
theorem aaZ:∀{as:List aj} {dq:List (Bool×List ah)},o8 as=some dq->∀x∈dq,∀c∈x.2,∀m,c.ref m->∃v∈as,v.ref m
 |[],dq,hx,x,hm=>by simp only[o8] at hx;injection hx with hx;subst hx;cases hm
 |v::vs,dq,hx,x,hm=>by
  simp only[o8] at hx
  split at hx
  ·rename_i y ys e1 e2
   injection hx with hx
   subst hx
   intro c hc m hr
   cases hm with
   |head=>exact⟨v,by simp,aj.xX e1 hc hr⟩
   |tail _ hm=>
    obtain⟨v',h1,h2⟩:=aaZ e2 x hm c hc m hr
    exact⟨v',by simp[h1],h2⟩
  ·cases hx
theorem afl (hh:∀n,u n->h' n=h n) {T:aS} {f:FuncId} {as:List aj} (hx:∀x∈as,∀m,x.ref m->u m):oI T f as h'=oI T f as h:=by
 unfold oI
 cases aS.rl T.ws f with
 |none=>rfl
 |some M=>
  obtain⟨sig,M⟩:=M
  cases hc:o8 as with
  |none=>rfl
  |some dq=>
   have hr:∀x∈dq,∀c∈x.2,∀m,c.ref m->u m:=fun x h1 c h2 m h3=>by
    obtain⟨v,a1,a2⟩:=aaZ hc x h1 c h2 m h3
    exact hx v a1 m a2
   simp only
   cases hn:jW sig dq with
   |nil=>rfl
   |cons n l=>
    cases l with
    |cons n2 l=>rfl
    |nil=>
     obtain⟨x,h1,c,h2,h3⟩:=aba (n:=n) (sig:=sig) (as:=dq) (by rw[hn];simp)
     simp only[abh hh [n] dq sig hr,hh n (hr x h1 c h2 n h3)]
theorem abX (T:aS) (d:Option Nat) (op:aF) (ev:MO->aj) (hh:∀n,u n->h' n=h n) (uk:op.Ei=true->∀m cs c n,vv m->h m=some (.box cs)->c∈cs->c.ref n->u n)
  (hx:∀x∈op.args,∀m,(ev x).ref m->u m) (ww:∀x∈op.args,∀m,(ev x).ref m->vv m):rd T d op ev h'=rd T d op ev h:=by
 cases op with
 |load ag sz x=>
  have h1:=hx x (by simp[aF.args])
  simp only[rd]
  cases hv:ev x with
  |one p=>rw[hv] at h1;simp only[akv hh (p:=p) h1]
  |_=>rfl
 |od x=>
  have h1:=hx x (by simp[aF.args])
  simp only[rd]
  cases hv:ev x with
  |one p=>cases p with
   |ptr n k sz off=>rw[hv] at h1;simp only[hh n (h1 n rfl)]
   |_=>rfl
  |_=>rfl
 |ao off x=>
  have h1:=hx x (by simp[aF.args])
  simp only[rd]
  cases hv:ev x with
  |one p=>cases p with
   |ptr n k sz off=>rw[hv] at h1;simp only[hh n (h1 n rfl)]
   |_=>rfl
  |_=>rfl
 |len x=>
  have h1:=hx x (by simp[aF.args])
  simp only[rd]
  cases hv:ev x with
  |one p=>cases p with
   |sl n sz lo len=>rw[hv] at h1;simp only[hh n (h1 n rfl)]
   |bx n k aD off sz len=>rw[hv] at h1;simp only[zy hh (p:=.bx n k aD off sz len) (fun m hm=>h1 m (ah.xa hm))]
   |c x=>cases x<;>rfl
   |_=>rfl
  |_=>rfl
 |ou f bN x=>
  have h1:=hx x (by simp[aF.args])
  simp only[rd]
  cases hv:ev x with
  |one p=>cases p with
   |sl n sz lo len=>rw[hv] at h1;simp only[hh n (h1 n rfl)]
   |c x=>cases x<;>rfl
   |_=>rfl
  |_=>rfl
 |bm sz x i=>
  have h1:=hx x (by simp[aF.args])
  simp only[rd]
  generalize (ev i).dh=q
  cases hv:ev x with
  |one p=>cases p with
   |sl n s lo len=>
    rw[hv] at h1
    have h2:=hh n (h1 n rfl)
    cases q with
    |none=>rfl
    |some q=>simp only[h2]
   |bx n k aD off s len=>
    rw[hv] at h1
    cases q with
    |none=>rfl
    |some q=>simp only[zy hh (p:=.bx n k aD off s len) (fun m hm=>h1 m (ah.xa hm))]
   |c x=>cases x<;>cases q<;>rfl
   |_=>cases q<;>rfl
  |_=>cases q<;>rfl
 |slice sz x lo hi=>
  have h1:=hx x (by simp[aF.args])
  simp only[rd]
  cases hv:ev x with
  |one p=>cases p with
   |sl n s l0 len=>
    rw[hv] at h1
    have h2:=hh n (h1 n rfl)
    cases lo with
    |none=>simp only[h2]
    |some lo=>
     simp only
     cases (ev lo).dh with
     |none=>rfl
     |some q=>simp only[h2]
   |c x=>cases lo with
    |none=>cases x<;>rfl
    |some lo=>
     simp only
     cases (ev lo).dh<;>cases x<;>rfl
   |_=>cases lo<;>rfl
  |_=>cases lo<;>rfl
 |call m f xs=>
  simp only[rd,Aq]
  have go:∀u':Nat->Prop,(∀x∈(aF.call m f xs).args,∀m,(ev x).ref m->u' m)->∀x∈xs.map ev,∀m,x.xb m->u' m:=by
   intro u' hx x yH q hq
   obtain⟨y,hy,rfl⟩:=List.mem_map.1 yH
   exact hx y hy q (aj.Su hq)
  rw[KM hh (uk rfl) (go _ hx) (go _ ww)]
 |mf f xs=>
  simp only[rd,tQ]
  have go:∀u':Nat->Prop,(∀x∈(aF.mf f xs).args,∀m,(ev x).ref m->u' m)->∀x∈xs.map ev,∀m,x.xb m->u' m:=by
   intro u' hx x yH q hq
   obtain⟨y,hy,rfl⟩:=List.mem_map.1 yH
   exact hx y hy q (aj.Su hq)
  rw[KM hh (uk rfl) (go _ hx) (go _ ww)]
 |lv f xs=>rfl
 |mh f xs=>
  have:oI T f (xs.map ev) h'=oI T f (xs.map ev) h:=afl hh fun x yH q hq=>by
   obtain⟨y,hy,rfl⟩:=List.mem_map.1 yH
   exact hx y hy q hq
  simp only[rd,this]
 |mg m x xs=>
  simp only[rd]
  cases hv:ev x with
  |one p=>cases p with
   |fn f cf=>
    simp only[Aq]
    have go:∀u':Nat->Prop,(∀y∈(aF.mg m x xs).args,∀m,(ev y).ref m->u' m)->∀y∈xs.map ev++cf.map aj.one,∀m,y.xb m->u' m:=by
     intro u' hx y hym q hq
     rcases List.mem_append.1 hym with hy|hy
     ·obtain⟨z,hz,rfl⟩:=List.mem_map.1 hy
      exact hx z (by simp[aF.args,hz]) q (aj.Su hq)
     ·obtain⟨z,hz,rfl⟩:=List.mem_map.1 hy
      refine hx x (by simp[aF.args]) q ?_
      rw[hv]
      exact⟨z,hz,hq⟩
    rw[KM hh (uk rfl) (go _ hx) (go _ ww)]
   |_=>rfl
  |_=>rfl
 |_=>rfl
theorem abW (T:aS) (d:Option Nat) (op:aF) (ev:MO->aj) (hh:∀n,u n->h' n=h n) (hb:∀m cs c n,h m=some (.box cs)->c∈cs->c.ref n->u n)
  (hx:∀x∈op.args,∀m,(ev x).ref m->u m):rd T d op ev h'=rd T d op ev h:=
 abX (vv:=fun _=>True) T d op ev hh (fun _ m cs c n _=>hb m cs c n) hx (fun _ _ _ _=>trivial)
theorem abZ (T:aS) (d:Option Nat) (op:aF) (ev:MO->aj) (h h':Nat->Option aq) (hc:op.dE=0):rd T d op ev h'=rd T d op ev h:=by
 cases op<;>simp[aF.dE] at hc<;>rfl
end
end Go.Am
