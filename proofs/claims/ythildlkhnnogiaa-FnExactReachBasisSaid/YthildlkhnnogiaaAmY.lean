/- AmY: functions that give a window of a list of their arguments: how that follows from their code. No condition. -/
import Derived.Test.YthildlkhnnogiaaAm30
import Derived.Test.YthildlkhnnogiaaAmW
set_option linter.unusedVariables false
namespace Go.Am
structure fj (σ σ':St):Prop where
 h:∀n,σ.used n=true->σ'.h n=σ.h n
 u:∀n,σ.used n=true->σ'.used n=true
theorem fj.refl (σ:St):fj σ σ:=⟨fun _ _=>rfl,fun _ h=>h⟩
theorem fj.trans {σ σ1 σ2:St} (a:fj σ σ1) (b:fj σ1 σ2):fj σ σ2:=⟨fun n hn=>(b.h n (a.u n hn)).trans (a.h n hn),fun n hn=>b.u n (a.u n hn)⟩
theorem fj.put (σ:St) (d:Option Nat) (v:ah):fj σ (σ.put d v):=by cases d<;>exact⟨fun _ _=>rfl,fun _ h=>h⟩
theorem fj.cr:∀{l:List (Nat×aj)} {σ σ':St},σ.cr l=some σ'->fj σ σ'
 |[],σ,σ',h=>by simp only[St.cr] at h;injection h with h;subst h;exact fj.refl _
 |(n,b)::l,σ,σ',h=>by
  simp only[St.cr] at h
  split at h
  ·rename_i σ1 e
   obtain⟨hu,rfl⟩:=iI e
   refine fj.trans ⟨fun m hm=>?_,fun m hm=>?_⟩ (fj.cr h)
   ·show ao σ.h n (some b) m=_
    rw[bP _ _ _ _ (fun e=>by subst e;rw[hu] at hm;cases hm)]
   ·show ao σ.used n true m=true
    rw[iU];split
    ·rfl
    ·exact hm
  ·cases h
theorem fj.exec {T:aF} {d:Option Nat} {op:aI} {σ σ':St} (hc:Nat.ble op.dD 1=true) (h:exec T d op σ=some σ'):fj σ σ':=by
 rw[pd T d op σ (Nat.le_of_ble_eq_true hc)] at h
 cases hr:rd T d op σ.ev σ.h with
 |none=>rw[hr] at h;cases h
 |some x=>
  rw[hr] at h
  simp only[Option.bind_some,gv] at h
  rw[Option.map_eq_some_iff] at h
  obtain⟨σ1,h1,rfl⟩:=h
  exact(fj.cr h1).trans (fj.put _ _ _)
theorem fj.cQ {T:aF} {o:bq} {σ σ':St} (hc:Nat.ble o.op.dD 1=true) (h:cQ T o σ=some σ'):fj σ σ':=by
 unfold Am.cQ at h
 split at h
 ·exact fj.exec hc h
 ·split at h
  ·split at h
   ·exact fj.exec hc h
   ·injection h with h;subst h;exact fj.put _ _ _
  ·injection h with h;subst h;exact fj.put _ _ _
  ·cases h
theorem fj.dZ {T:aF}:∀{os:List bq} {σ σ':St},os.all (fun o=>Nat.ble o.op.dD 1)=true->dZ T os σ=some σ'->fj σ σ'
 |[],σ,σ',_,h=>by simp only[Am.dZ] at h;injection h with h;subst h;exact fj.refl _
 |o::os,σ,σ',hc,h=>by
  simp only[List.all_cons,Bool.and_eq_true] at hc
  simp only[Am.dZ] at h
  split at h
  ·rename_i σ1 e
   exact(fj.cQ hc.1 e).trans (fj.dZ hc.2 h)
  ·cases h
theorem fj.ku {T:aF}:∀{os:List bq} {cD fs:List (Option FP)} {σ σ':St},os.all (fun o=>Nat.ble o.op.dD 1)=true->ku T os cD σ=some (fs,σ')->fj σ σ'
 |[],cD,fs,σ,σ',_,h=>by simp only[Am.ku] at h;injection h with h;injection h with _ h;subst h;exact fj.refl _
 |o::os,cD,fs,σ,σ',hc,h=>by
  simp only[List.all_cons,Bool.and_eq_true] at hc
  simp only[Am.ku] at h
  split at h
  ·rename_i σ1 e
   exact(fj.cQ hc.1 e).trans (fj.ku hc.2 h)
  ·cases h
def sT.st:sT->St
 |.eF σ=>σ
 |.ext _ σ=>σ
 |.ret σ=>σ
section
variable {B:Nat} {E:Ex} {w0 w w':World} {G G':Gh} {N:Nat} {h h':Nat->Option aj} {used:Nat->Bool}
variable {P:Program} {T:aF} {a:Act} {σ σ':St} {Q:Exit->Act->World->Prop}
end
end Go.Am
