/- AmY: functions that give a window of a list of their arguments: how that follows from their code. No condition. -/
import Derived.Test.YtbgmbplglejidaaAm30
import Derived.Test.YtbgmbplglejidaaAmW
set_option linter.unusedVariables false
namespace Go.Am
structure fw (σ σ':St):Prop where
 h:∀n,σ.used n=true->σ'.h n=σ.h n
 u:∀n,σ.used n=true->σ'.used n=true
theorem fw.refl (σ:St):fw σ σ:=⟨fun _ _=>rfl,fun _ h=>h⟩
theorem fw.trans {σ σ1 σ2:St} (a:fw σ σ1) (b:fw σ1 σ2):fw σ σ2:=⟨fun n hn=>(b.h n (a.u n hn)).trans (a.h n hn),fun n hn=>b.u n (a.u n hn)⟩
theorem fw.put (σ:St) (d:Option Nat) (v:aj):fw σ (σ.put d v):=by cases d<;>exact⟨fun _ _=>rfl,fun _ h=>h⟩
theorem fw.cD:∀{l:List (Nat×ao)} {σ σ':St},σ.cD l=some σ'->fw σ σ'
 |[],σ,σ',h=>by simp only[St.cD] at h;injection h with h;subst h;exact fw.refl _
 |(n,b)::l,σ,σ',h=>by
  simp only[St.cD] at h
  split at h
  ·rename_i σ1 e
   obtain⟨hu,rfl⟩:=mE e
   refine fw.trans ⟨fun m hm=>?_,fun m hm=>?_⟩ (fw.cD h)
   ·show av σ.h n (some b) m=_
    rw[cz _ _ _ _ (fun e=>by subst e;rw[hu] at hm;cases hm)]
   ·show av σ.used n true m=true
    rw[iY];split
    ·rfl
    ·exact hm
  ·cases h
theorem fw.exec {T:aO} {d:Option Nat} {op:aH} {σ σ':St} (hc:Nat.ble op.dI 1=true) (h:exec T d op σ=some σ'):fw σ σ':=by
 rw[pu T d op σ (Nat.le_of_ble_eq_true hc)] at h
 cases hr:rd T d op σ.ev σ.h with
 |none=>rw[hr] at h;cases h
 |some x=>
  rw[hr] at h
  simp only[Option.bind_some,fin] at h
  rw[Option.map_eq_some_iff] at h
  obtain⟨σ1,h1,rfl⟩:=h
  exact(fw.cD h1).trans (fw.put _ _ _)
theorem fw.d9 {T:aO} {o:bV} {σ σ':St} (hc:Nat.ble o.op.dI 1=true) (h:d9 T o σ=some σ'):fw σ σ':=by
 unfold Am.d9 at h
 split at h
 ·exact fw.exec hc h
 ·split at h
  ·split at h
   ·exact fw.exec hc h
   ·injection h with h;subst h;exact fw.put _ _ _
  ·injection h with h;subst h;exact fw.put _ _ _
  ·cases h
theorem fw.kv {T:aO}:∀{os:List bV} {σ σ':St},os.all (fun o=>Nat.ble o.op.dI 1)=true->kv T os σ=some σ'->fw σ σ'
 |[],σ,σ',_,h=>by simp only[Am.kv] at h;injection h with h;subst h;exact fw.refl _
 |o::os,σ,σ',hc,h=>by
  simp only[List.all_cons,Bool.and_eq_true] at hc
  simp only[Am.kv] at h
  split at h
  ·rename_i σ1 e
   exact(fw.d9 hc.1 e).trans (fw.kv hc.2 h)
  ·cases h
theorem fw.mU {T:aO}:∀{os:List bV} {cU fs:List (Option FP)} {σ σ':St},os.all (fun o=>Nat.ble o.op.dI 1)=true->mU T os cU σ=some (fs,σ')->fw σ σ'
 |[],cU,fs,σ,σ',_,h=>by simp only[Am.mU] at h;injection h with h;injection h with _ h;subst h;exact fw.refl _
 |o::os,cU,fs,σ,σ',hc,h=>by
  simp only[List.all_cons,Bool.and_eq_true] at hc
  simp only[Am.mU] at h
  split at h
  ·rename_i σ1 e
   exact(fw.d9 hc.1 e).trans (fw.mU hc.2 h)
  ·cases h
def sO.st:sO->St
 |.fG σ=>σ
 |.ext _ σ=>σ
 |.ret σ=>σ
section
variable {B:Nat} {E:Ex} {w0 w w':World} {G G':Gh} {N:Nat} {h h':Nat->Option ao} {used:Nat->Bool}
variable {P:Program} {T:aO} {a:Act} {σ σ':St} {Q:Exit->Act->World->Prop}
end
end Go.Am
