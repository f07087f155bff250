/- AmY: functions that give a window of a list of their arguments: how that follows from their code. No condition. -/
import Derived.Test.YtbgmbplglejidaaAm30
import Derived.Test.YtbgmbplglejidaaAmW
set_option linter.unusedVariables false
namespace Go.Am
structure fE (σ σ':St):Prop where
 h:∀n,σ.used n=true->σ'.h n=σ.h n
 u:∀n,σ.used n=true->σ'.used n=true
theorem fE.refl (σ:St):fE σ σ:=⟨fun _ _=>rfl,fun _ h=>h⟩
theorem fE.trans {σ σ1 σ2:St} (a:fE σ σ1) (b:fE σ1 σ2):fE σ σ2:=⟨fun n hn=>(b.h n (a.u n hn)).trans (a.h n hn),fun n hn=>b.u n (a.u n hn)⟩
theorem fE.put (σ:St) (d:Option Nat) (v:ak):fE σ (σ.put d v):=by cases d<;>exact⟨fun _ _=>rfl,fun _ h=>h⟩
theorem fE.cM:∀{l:List (Nat×ar)} {σ σ':St},σ.cM l=some σ'->fE σ σ'
 |[],σ,σ',h=>by simp only[St.cM] at h;injection h with h;subst h;exact fE.refl _
 |(n,b)::l,σ,σ',h=>by
  simp only[St.cM] at h
  split at h
  ·rename_i σ1 e
   obtain⟨hu,rfl⟩:=mN e
   refine fE.trans ⟨fun m hm=>?_,fun m hm=>?_⟩ (fE.cM h)
   ·show aA σ.h n (some b) m=_
    rw[cE _ _ _ _ (fun e=>by subst e;rw[hu] at hm;cases hm)]
   ·show aA σ.used n true m=true
    rw[jr];split
    ·rfl
    ·exact hm
  ·cases h
theorem fE.exec {T:aT} {d:Option Nat} {op:aH} {σ σ':St} (hc:Nat.ble op.dL 1=true) (h:exec T d op σ=some σ'):fE σ σ':=by
 rw[pG T d op σ (Nat.le_of_ble_eq_true hc)] at h
 cases hr:rd T d op σ.ev σ.h with
 |none=>rw[hr] at h;cases h
 |some x=>
  rw[hr] at h
  simp only[Option.bind_some,fin] at h
  rw[Option.map_eq_some_iff] at h
  obtain⟨σ1,h1,rfl⟩:=h
  exact(fE.cM h1).trans (fE.put _ _ _)
theorem fE.ed {T:aT} {o:bV} {σ σ':St} (hc:Nat.ble o.op.dL 1=true) (h:ed T o σ=some σ'):fE σ σ':=by
 unfold Am.ed at h
 split at h
 ·exact fE.exec hc h
 ·split at h
  ·split at h
   ·exact fE.exec hc h
   ·injection h with h;subst h;exact fE.put _ _ _
  ·injection h with h;subst h;exact fE.put _ _ _
  ·cases h
theorem fE.kO {T:aT}:∀{os:List bV} {σ σ':St},os.all (fun o=>Nat.ble o.op.dL 1)=true->kO T os σ=some σ'->fE σ σ'
 |[],σ,σ',_,h=>by simp only[Am.kO] at h;injection h with h;subst h;exact fE.refl _
 |o::os,σ,σ',hc,h=>by
  simp only[List.all_cons,Bool.and_eq_true] at hc
  simp only[Am.kO] at h
  split at h
  ·rename_i σ1 e
   exact(fE.ed hc.1 e).trans (fE.kO hc.2 h)
  ·cases h
theorem fE.m4 {T:aT}:∀{os:List bV} {c6 fs:List (Option FP)} {σ σ':St},os.all (fun o=>Nat.ble o.op.dL 1)=true->m4 T os c6 σ=some (fs,σ')->fE σ σ'
 |[],c6,fs,σ,σ',_,h=>by simp only[Am.m4] at h;injection h with h;injection h with _ h;subst h;exact fE.refl _
 |o::os,c6,fs,σ,σ',hc,h=>by
  simp only[List.all_cons,Bool.and_eq_true] at hc
  simp only[Am.m4] at h
  split at h
  ·rename_i σ1 e
   exact(fE.ed hc.1 e).trans (fE.m4 hc.2 h)
  ·cases h
def sW.st:sW->St
 |.fR σ=>σ
 |.ext _ σ=>σ
 |.ret σ=>σ
section
variable {B:Nat} {E:Ex} {w0 w w':World} {G G':Gh} {N:Nat} {h h':Nat->Option ar} {used:Nat->Bool}
variable {P:Program} {T:aT} {a:Act} {σ σ':St} {Q:Exit->Act->World->Prop}
end
end Go.Am
