/- AmY: functions that give a window of a list of their arguments: how that follows from their code. No condition. -/
import Derived.Test.YtbgmbplglejidaaAm30
import Derived.Test.YtbgmbplglejidaaAmW
set_option linter.unusedVariables false
namespace Go.Am
structure fh (σ σ':St):Prop where
 h:∀n,σ.used n=true->σ'.h n=σ.h n
 u:∀n,σ.used n=true->σ'.used n=true
theorem fh.refl (σ:St):fh σ σ:=⟨fun _ _=>rfl,fun _ h=>h⟩
theorem fh.trans {σ σ1 σ2:St} (a:fh σ σ1) (b:fh σ1 σ2):fh σ σ2:=⟨fun n hn=>(b.h n (a.u n hn)).trans (a.h n hn),fun n hn=>b.u n (a.u n hn)⟩
theorem fh.put (σ:St) (d:Option Nat) (v:aj):fh σ (σ.put d v):=by cases d<;>exact⟨fun _ _=>rfl,fun _ h=>h⟩
theorem fh.ct:∀{l:List (Nat×aq)} {σ σ':St},σ.ct l=some σ'->fh σ σ'
 |[],σ,σ',h=>by simp only[St.ct] at h;injection h with h;subst h;exact fh.refl _
 |(n,b)::l,σ,σ',h=>by
  simp only[St.ct] at h
  split at h
  ·rename_i σ1 e
   obtain⟨hu,rfl⟩:=lP e
   refine fh.trans ⟨fun m hm=>?_,fun m hm=>?_⟩ (fh.ct h)
   ·show ax σ.h n (some b) m=_
    rw[cb _ _ _ _ (fun e=>by subst e;rw[hu] at hm;cases hm)]
   ·show ax σ.used n true m=true
    rw[iO];split
    ·rfl
    ·exact hm
  ·cases h
theorem fh.exec {T:aS} {d:Option Nat} {op:aF} {σ σ':St} (hc:Nat.ble op.dE 1=true) (h:exec T d op σ=some σ'):fh σ σ':=by
 rw[oK T d op σ (Nat.le_of_ble_eq_true hc)] at h
 cases hr:rd T d op σ.ev σ.h with
 |none=>rw[hr] at h;cases h
 |some x=>
  rw[hr] at h
  simp only[Option.bind_some,fin] at h
  rw[Option.map_eq_some_iff] at h
  obtain⟨σ1,h1,rfl⟩:=h
  exact(fh.ct h1).trans (fh.put _ _ _)
theorem fh.d8 {T:aS} {o:bK} {σ σ':St} (hc:Nat.ble o.op.dE 1=true) (h:d8 T o σ=some σ'):fh σ σ':=by
 unfold Am.d8 at h
 split at h
 ·exact fh.exec hc h
 ·split at h
  ·split at h
   ·exact fh.exec hc h
   ·injection h with h;subst h;exact fh.put _ _ _
  ·injection h with h;subst h;exact fh.put _ _ _
  ·cases h
theorem fh.j8 {T:aS}:∀{os:List bK} {σ σ':St},os.all (fun o=>Nat.ble o.op.dE 1)=true->j8 T os σ=some σ'->fh σ σ'
 |[],σ,σ',_,h=>by simp only[Am.j8] at h;injection h with h;subst h;exact fh.refl _
 |o::os,σ,σ',hc,h=>by
  simp only[List.all_cons,Bool.and_eq_true] at hc
  simp only[Am.j8] at h
  split at h
  ·rename_i σ1 e
   exact(fh.d8 hc.1 e).trans (fh.j8 hc.2 h)
  ·cases h
theorem fh.mr {T:aS}:∀{os:List bK} {cL fs:List (Option FP)} {σ σ':St},os.all (fun o=>Nat.ble o.op.dE 1)=true->mr T os cL σ=some (fs,σ')->fh σ σ'
 |[],cL,fs,σ,σ',_,h=>by simp only[Am.mr] at h;injection h with h;injection h with _ h;subst h;exact fh.refl _
 |o::os,cL,fs,σ,σ',hc,h=>by
  simp only[List.all_cons,Bool.and_eq_true] at hc
  simp only[Am.mr] at h
  split at h
  ·rename_i σ1 e
   exact(fh.d8 hc.1 e).trans (fh.mr hc.2 h)
  ·cases h
def sq.st:sq->St
 |.fy σ=>σ
 |.ext _ σ=>σ
 |.ret σ=>σ
section
variable {B:Nat} {E:Ex} {w0 w w':World} {G G':Gh} {N:Nat} {h h':Nat->Option aq} {used:Nat->Bool}
variable {P:Program} {T:aS} {a:Act} {σ σ':St} {Q:Exit->Act->World->Prop}
end
end Go.Am
