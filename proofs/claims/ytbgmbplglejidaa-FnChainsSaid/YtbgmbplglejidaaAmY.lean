/- AmY: functions that give a window of a list of their arguments: how that follows from their code. No condition. -/
import Derived.Test.YtbgmbplglejidaaAm30
import Derived.Test.YtbgmbplglejidaaAmW
set_option linter.unusedVariables false
namespace Go.Am
structure fu (σ σ':St):Prop where
 h:∀n,σ.used n=true->σ'.h n=σ.h n
 u:∀n,σ.used n=true->σ'.used n=true
theorem fu.refl (σ:St):fu σ σ:=⟨fun _ _=>rfl,fun _ h=>h⟩
theorem fu.trans {σ σ1 σ2:St} (a:fu σ σ1) (b:fu σ1 σ2):fu σ σ2:=⟨fun n hn=>(b.h n (a.u n hn)).trans (a.h n hn),fun n hn=>b.u n (a.u n hn)⟩
theorem fu.put (σ:St) (d:Option Nat) (v:aj):fu σ (σ.put d v):=by cases d<;>exact⟨fun _ _=>rfl,fun _ h=>h⟩
theorem fu.cA:∀{l:List (Nat×ao)} {σ σ':St},σ.cA l=some σ'->fu σ σ'
 |[],σ,σ',h=>by simp only[St.cA] at h;injection h with h;subst h;exact fu.refl _
 |(n,b)::l,σ,σ',h=>by
  simp only[St.cA] at h
  split at h
  ·rename_i σ1 e
   obtain⟨hu,rfl⟩:=lL e
   refine fu.trans ⟨fun m hm=>?_,fun m hm=>?_⟩ (fu.cA h)
   ·show au σ.h n (some b) m=_
    rw[cq _ _ _ _ (fun e=>by subst e;rw[hu] at hm;cases hm)]
   ·show au σ.used n true m=true
    rw[iP];split
    ·rfl
    ·exact hm
  ·cases h
theorem fu.exec {T:aO} {d:Option Nat} {op:aE} {σ σ':St} (hc:Nat.ble op.dE 1=true) (h:exec T d op σ=some σ'):fu σ σ':=by
 rw[oJ T d op σ (Nat.le_of_ble_eq_true hc)] at h
 cases hr:rd T d op σ.ev σ.h with
 |none=>rw[hr] at h;cases h
 |some x=>
  rw[hr] at h
  simp only[Option.bind_some,fin] at h
  rw[Option.map_eq_some_iff] at h
  obtain⟨σ1,h1,rfl⟩:=h
  exact(fu.cA h1).trans (fu.put _ _ _)
theorem fu.d7 {T:aO} {o:bR} {σ σ':St} (hc:Nat.ble o.op.dE 1=true) (h:d7 T o σ=some σ'):fu σ σ':=by
 unfold Am.d7 at h
 split at h
 ·exact fu.exec hc h
 ·split at h
  ·split at h
   ·exact fu.exec hc h
   ·injection h with h;subst h;exact fu.put _ _ _
  ·injection h with h;subst h;exact fu.put _ _ _
  ·cases h
theorem fu.j7 {T:aO}:∀{os:List bR} {σ σ':St},os.all (fun o=>Nat.ble o.op.dE 1)=true->j7 T os σ=some σ'->fu σ σ'
 |[],σ,σ',_,h=>by simp only[Am.j7] at h;injection h with h;subst h;exact fu.refl _
 |o::os,σ,σ',hc,h=>by
  simp only[List.all_cons,Bool.and_eq_true] at hc
  simp only[Am.j7] at h
  split at h
  ·rename_i σ1 e
   exact(fu.d7 hc.1 e).trans (fu.j7 hc.2 h)
  ·cases h
theorem fu.mz {T:aO}:∀{os:List bR} {cO fs:List (Option FP)} {σ σ':St},os.all (fun o=>Nat.ble o.op.dE 1)=true->mz T os cO σ=some (fs,σ')->fu σ σ'
 |[],cO,fs,σ,σ',_,h=>by simp only[Am.mz] at h;injection h with h;injection h with _ h;subst h;exact fu.refl _
 |o::os,cO,fs,σ,σ',hc,h=>by
  simp only[List.all_cons,Bool.and_eq_true] at hc
  simp only[Am.mz] at h
  split at h
  ·rename_i σ1 e
   exact(fu.d7 hc.1 e).trans (fu.mz hc.2 h)
  ·cases h
def sd.st:sd->St
 |.fG σ=>σ
 |.ext _ σ=>σ
 |.ret σ=>σ
section
variable {B:Nat} {E:Ex} {w0 w w':World} {G G':Gh} {N:Nat} {h h':Nat->Option ao} {used:Nat->Bool}
variable {P:Program} {T:aO} {a:Act} {σ σ':St} {Q:Exit->Act->World->Prop}
end
end Go.Am
