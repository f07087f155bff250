/- AmY: functions that give a window of a list of their arguments: how that follows from their code. No condition. -/
import Derived.Test.YtfkfmbhknekkdaaAm30
import Derived.Test.YtfkfmbhknekkdaaAmW
set_option linter.unusedVariables false
namespace Go.Am
structure eT (σ σ':St):Prop where
 h:∀n,σ.used n=true->σ'.h n=σ.h n
 u:∀n,σ.used n=true->σ'.used n=true
theorem eT.refl (σ:St):eT σ σ:=⟨fun _ _=>rfl,fun _ h=>h⟩
theorem eT.trans {σ σ1 σ2:St} (a:eT σ σ1) (b:eT σ1 σ2):eT σ σ2:=⟨fun n hn=>(b.h n (a.u n hn)).trans (a.h n hn),fun n hn=>b.u n (a.u n hn)⟩
theorem eT.put (σ:St) (d:Option Nat) (v:ai):eT σ (σ.put d v):=by cases d<;>exact⟨fun _ _=>rfl,fun _ h=>h⟩
theorem eT.cu:∀{l:List (Nat×ak)} {σ σ':St},σ.cu l=some σ'->eT σ σ'
 |[],σ,σ',h=>by simp only[St.cu] at h;injection h with h;subst h;exact eT.refl _
 |(n,b)::l,σ,σ',h=>by
  simp only[St.cu] at h
  split at h
  ·rename_i σ1 e
   obtain⟨hu,rfl⟩:=j8 e
   refine eT.trans ⟨fun m hm=>?_,fun m hm=>?_⟩ (eT.cu h)
   ·show aq σ.h n (some b) m=_
    rw[cd _ _ _ _ (fun e=>by subst e;rw[hu] at hm;cases hm)]
   ·show aq σ.used n true m=true
    rw[ik];split
    ·rfl
    ·exact hm
  ·cases h
theorem eT.exec {T:aA} {d:Option Nat} {op:aw} {σ σ':St} (hc:Nat.ble op.dq 1=true) (h:exec T d op σ=some σ'):eT σ σ':=by
 rw[mZ T d op σ (Nat.le_of_ble_eq_true hc)] at h
 cases hr:rd T d op σ.ev σ.h with
 |none=>rw[hr] at h;cases h
 |some x=>
  rw[hr] at h
  simp only[Option.bind_some,fin] at h
  rw[Option.map_eq_some_iff] at h
  obtain⟨σ1,h1,rfl⟩:=h
  exact(eT.cu h1).trans (eT.put _ _ _)
theorem eT.dJ {T:aA} {o:bI} {σ σ':St} (hc:Nat.ble o.op.dq 1=true) (h:dJ T o σ=some σ'):eT σ σ':=by
 unfold Am.dJ at h
 split at h
 ·exact eT.exec hc h
 ·split at h
  ·split at h
   ·exact eT.exec hc h
   ·injection h with h;subst h;exact eT.put _ _ _
  ·injection h with h;subst h;exact eT.put _ _ _
  ·cases h
theorem eT.ja {T:aA}:∀{os:List bI} {σ σ':St},os.all (fun o=>Nat.ble o.op.dq 1)=true->ja T os σ=some σ'->eT σ σ'
 |[],σ,σ',_,h=>by simp only[Am.ja] at h;injection h with h;subst h;exact eT.refl _
 |o::os,σ,σ',hc,h=>by
  simp only[List.all_cons,Bool.and_eq_true] at hc
  simp only[Am.ja] at h
  split at h
  ·rename_i σ1 e
   exact(eT.dJ hc.1 e).trans (eT.ja hc.2 h)
  ·cases h
theorem eT.kE {T:aA}:∀{os:List bI} {cF fs:List (Option FP)} {σ σ':St},os.all (fun o=>Nat.ble o.op.dq 1)=true->kE T os cF σ=some (fs,σ')->eT σ σ'
 |[],cF,fs,σ,σ',_,h=>by simp only[Am.kE] at h;injection h with h;injection h with _ h;subst h;exact eT.refl _
 |o::os,cF,fs,σ,σ',hc,h=>by
  simp only[List.all_cons,Bool.and_eq_true] at hc
  simp only[Am.kE] at h
  split at h
  ·rename_i σ1 e
   exact(eT.dJ hc.1 e).trans (eT.kE hc.2 h)
  ·cases h
def qu.st:qu->St
 |.fx σ=>σ
 |.ext _ σ=>σ
 |.ret σ=>σ
section
variable {B:Nat} {E:Ex} {w0 w w':World} {G G':Gh} {N:Nat} {h h':Nat->Option ak} {used:Nat->Bool}
variable {P:Program} {T:aA} {a:Act} {σ σ':St} {Q:Exit->Act->World->Prop}
end
end Go.Am
