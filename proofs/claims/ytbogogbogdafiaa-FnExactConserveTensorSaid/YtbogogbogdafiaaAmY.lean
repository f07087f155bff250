/- AmY: functions that give a window of a list of their arguments: how that follows from their code. No condition. -/
import Derived.Test.YtbogogbogdafiaaAm30
import Derived.Test.YtbogogbogdafiaaAmW
set_option linter.unusedVariables false
namespace Go.Am
def roC : MCode → Bool
 | .skip | .ret | .exit _ => true
 | .reg _ ops | .regD _ ops => ops.all fun o => Nat.ble o.op.cls 1
 | .seq a b => roC a && roC b
 | .cond _ a b => roC a && roC b
 | .block _ c => roC c
 | _ => false
structure Stay (σ σ' : St) : Prop where
 h : ∀ n, σ.used n = true → σ'.h n = σ.h n
 u : ∀ n, σ.used n = true → σ'.used n = true
theorem Stay.refl (σ : St) : Stay σ σ := ⟨fun _ _ => rfl, fun _ h => h⟩
theorem Stay.trans {σ σ1 σ2 : St} (a : Stay σ σ1) (b : Stay σ1 σ2) : Stay σ σ2 := ⟨fun n hn => (b.h n (a.u n hn)).trans (a.h n hn), fun n hn => b.u n (a.u n hn)⟩
theorem Stay.put (σ : St) (d : Option Nat) (v : AVal) : Stay σ (σ.put d v) := by cases d <;> exact ⟨fun _ _ => rfl, fun _ h => h⟩
theorem Stay.insAll : ∀ {l : List (Nat × Blk)} {σ σ' : St}, σ.insAll l = some σ' → Stay σ σ'
 | [], σ, σ', h => by simp only [St.insAll] at h; injection h with h; subst h; exact Stay.refl _
 | (n, b) :: l, σ, σ', h => by
  simp only [St.insAll] at h
  split at h
  ·rename_i σ1 e
   obtain ⟨hu, rfl⟩ := ins_some e
   refine Stay.trans ⟨fun m hm => ?_, fun m hm => ?_⟩ (Stay.insAll h)
   ·show upd σ.h n (some b) m = _
    rw [upd_ne _ _ _ _ (fun e => by subst e; rw [hu] at hm; cases hm)]
   ·show upd σ.used n true m = true
    rw [upd_def]; split
    ·rfl
    ·exact hm
  ·cases h
theorem Stay.exec {T : Tab} {d : Option Nat} {op : MOp} {σ σ' : St} (hc : Nat.ble op.cls 1 = true) (h : exec T d op σ = some σ') : Stay σ σ' := by
 rw [exec_rd T d op σ (Nat.le_of_ble_eq_true hc)] at h
 cases hr : rd T d op σ.ev σ.h with
 | none => rw [hr] at h; cases h
 | some x =>
  rw [hr] at h
  simp only [Option.bind_some, fin] at h
  rw [Option.map_eq_some_iff] at h
  obtain ⟨σ1, h1, rfl⟩ := h
  exact (Stay.insAll h1).trans (Stay.put _ _ _)
theorem Stay.execO {T : Tab} {o : MOper} {σ σ' : St} (hc : Nat.ble o.op.cls 1 = true) (h : execO T o σ = some σ') : Stay σ σ' := by
 unfold Am.execO at h
 split at h
 ·exact Stay.exec hc h
 ·split at h
  ·split at h
   ·exact Stay.exec hc h
   ·injection h with h; subst h; exact Stay.put _ _ _
  ·injection h with h; subst h; exact Stay.put _ _ _
  ·cases h
theorem Stay.execs {T : Tab} : ∀ {os : List MOper} {σ σ' : St}, os.all (fun o => Nat.ble o.op.cls 1) = true → execs T os σ = some σ' → Stay σ σ'
 | [], σ, σ', _, h => by simp only [Am.execs] at h; injection h with h; subst h; exact Stay.refl _
 | o :: os, σ, σ', hc, h => by
  simp only [List.all_cons, Bool.and_eq_true] at hc
  simp only [Am.execs] at h
  split at h
  ·rename_i σ1 e
   exact (Stay.execO hc.1 e).trans (Stay.execs hc.2 h)
  ·cases h
theorem Stay.execsD {T : Tab} : ∀ {os : List MOper} {acc fs : List (Option FP)} {σ σ' : St}, os.all (fun o => Nat.ble o.op.cls 1) = true → execsD T os acc σ = some (fs, σ') → Stay σ σ'
 | [], acc, fs, σ, σ', _, h => by simp only [Am.execsD] at h; injection h with h; injection h with _ h; subst h; exact Stay.refl _
 | o :: os, acc, fs, σ, σ', hc, h => by
  simp only [List.all_cons, Bool.and_eq_true] at hc
  simp only [Am.execsD] at h
  split at h
  ·rename_i σ1 e
   exact (Stay.execO hc.1 e).trans (Stay.execsD hc.2 h)
  ·cases h
def Out.st : Out → St
 | .nrm σ => σ
 | .ext _ σ => σ
 | .ret σ => σ
theorem ro_den {T : Tab} : ∀ (mc : MCode) {σ : St} {o : Out}, roC mc = true → den T mc σ = some o → Stay σ o.st
 | .skip, σ, o, _, h => by simp only [den] at h; injection h with h; subst h; exact Stay.refl _
 | .ret, σ, o, _, h => by simp only [den] at h; injection h with h; subst h; exact Stay.refl _
 | .exit i, σ, o, _, h => by simp only [den] at h; injection h with h; subst h; exact Stay.refl _
 | .reg d ops, σ, o, hc, h => by
  simp only [den] at h
  split at h
  ·rename_i σ1 e
   injection h with h
   subst h
   exact Stay.execs hc e
  ·cases h
 | .regD ps ops, σ, o, hc, h => by
  simp only [den] at h
  split at h
  ·rename_i fs σ1 e
   cases hp : pairsOk ps fs with
   | true => rw [hp] at h; injection h with h; subst h; exact Stay.execsD hc e
   | false => rw [hp] at h; cases h
  ·cases h
 | .seq a b, σ, o, hc, h => by
  simp only [roC, Bool.and_eq_true] at hc
  simp only [den] at h
  cases e : den T a σ with
  | none => rw [e] at h; cases h
  | some o1 =>
   have h1 := ro_den a hc.1 e
   rw [e] at h
   cases o1 with
   | nrm σ1 => exact h1.trans (ro_den b hc.2 h)
   | ext i σ1 => injection h with h; subst h; exact h1
   | ret σ1 => injection h with h; subst h; exact h1
 | .cond c a b, σ, o, hc, h => by
  simp only [roC, Bool.and_eq_true] at hc
  simp only [den] at h
  split at h
  ·split at h
   ·exact ro_den a hc.1 h
   ·exact ro_den b hc.2 h
  ·cases h
 | .block id c, σ, o, hc, h => by
  simp only [roC] at hc
  simp only [den] at h
  cases e : den T c σ with
  | none => rw [e] at h; cases h
  | some o1 =>
   have h1 := ro_den c hc e
   rw [e] at h
   cases o1 with
   | nrm σ1 => injection h with h; subst h; exact h1
   | ret σ1 => injection h with h; subst h; exact h1
   | ext i σ1 =>
    simp only at h
    split at h <;> (injection h with h; subst h; exact h1)
 | .join .., _, _, hc, _ => by simp [roC] at hc
 | .loop .., _, _, hc, _ => by simp [roC] at hc
def St.retW (σ : St) (ms : List MRes) : Option (Nat × Nat) :=
 match σ.resV ms with
 | some [.one (.sl n sz lo len)] => if n = PIN then match σ.h PIN with
   | some (.row _ _ rs (_ :: _)) => if sz = rs then some (lo, len) else none
   | _ => none
  else none
 | _ => none
def runW (T : Tab) (mc : MCode) (res : List MRes) (sig : MSig) (ds : List Dv) : Option (Nat × Nat) :=
 match fArgs sig (ds.map (·.2)) with
 | [_] => match den T mc (initSM sig ds) with
  | some (.nrm σ) => σ.retW res
  | some (.ret σ) => σ.retW res
  | _ => none
 | _ => none
section
variable {B : Nat} {E : Ex} {w0 w w' : World} {G G' : Gh} {N : Nat} {h h' : Nat → Option Blk} {used : Nat → Bool}
variable {P : Program} {T : Tab} {a : Act} {σ σ' : St} {Q : Exit → Act → World → Prop}
theorem initSM_pin (sig : MSig) (ds : List Dv) : (initSM sig ds).h PIN = ((fArgs sig (ds.map (·.2)))[PIN - PIN]?).bind rowOf := by
 have key : ∀ n, PIN ≤ n → (initSM sig ds).h n = ((fArgs sig (ds.map (·.2)))[n - PIN]?).bind rowOf := fun n hn => if_pos hn
 exact key PIN (Nat.le_refl PIN)
theorem initSM_used (sig : MSig) (ds : List Dv) : (initSM sig ds).used PIN = true := by
 have key : ∀ n, PIN ≤ n → (initSM sig ds).used n = true := fun n hn => Nat.ble_eq_true_of_le hn
 exact key PIN (Nat.le_refl PIN)
theorem exM_pin (x : Mode × PC) : (exM [x]).pin PIN = some (pbOf x.2) := by
 have key : ∀ n, PIN ≤ n → n - PIN = 0 → (exM [x]).pin n = some (pbOf x.2) := fun n hn h0 => by
  show (if PIN ≤ n then ([x][n - PIN]?).map _ else none) = _
  rw [if_pos hn, h0]
  rfl
 exact key PIN (Nat.le_refl PIN) (Nat.sub_self PIN)
theorem w_of_den (hT : TOk P T) (hm : P.follows .mixedOrders = true) {f : FuncId} {fn : Func} {c : Code} {mc : MCode} {ms : List MRes} {sig : MSig} {M : List Dv → Option (Nat × Nat)} (hf : P.funcs[f]? = some fn) (hb : fn.body = some c)
  (hc : chkCode P fn.ntmps c mc = true) (hr : chkRes P fn.results.toList ms = true) (hro : roC mc = true) (hM : ∀ ds lo len, M ds = some (lo, len) → ds.length ≤ fn.ntmps ∧ runW T mc ms sig ds = some (lo, len)) : WSpec P f sig M := by
 intro ds lo len hds w vals pas ha
 obtain ⟨hN, hrun⟩ := hM ds lo len hds
 refine calls_of_wp hf hb ?_
 have r0 := R.initM (N := fn.ntmps) ha hN
 have hps : ∀ p ∈ pas, ∀ pc ∈ p.ps, Good w pc := by
  intro p hp pc hpc
  obtain ⟨i, hi, rfl⟩ := List.getElem_of_mem hp
  have hd : ds[i]? = some (ds[i]'(by rw [← ha.l2]; exact hi)) := List.getElem?_eq_getElem _
  have hv : vals[i]? = some (vals[i]'(by rw [ha.l1, ← ha.l2]; exact hi)) := List.getElem?_eq_getElem _
  exact (ha.at_ i _ _ _ hd hv (List.getElem?_eq_getElem hi)).2.1 pc hpc
 have hg : ∀ x ∈ fArgs sig (pas.map (·.ps)), Good w x.2 := by
  intro x hx
  obtain ⟨l, hl, hxl⟩ := fArgs_mem hx
  obtain ⟨p, hp, rfl⟩ := List.mem_map.1 hl
  exact hps p hp _ hxl
 have hds2 : ds.map (·.2) = (pas.map (·.ps)).map fun l => l.map PC.er := by
  apply List.ext_getElem?
  intro i
  simp only [List.getElem?_map]
  cases hd : ds[i]? with
  | none =>
   have : ds.length ≤ i := List.getElem?_eq_none_iff.1 hd
   rw [List.getElem?_eq_none (by rw [ha.l2]; exact this)]
   rfl
  | some d =>
   have hi := (List.getElem?_eq_some_iff.1 hd).1
   have hv : vals[i]? = some (vals[i]'(by rw [ha.l1]; exact hi)) := List.getElem?_eq_getElem _
   have hp : pas[i]? = some (pas[i]'(by rw [ha.l2]; exact hi)) := List.getElem?_eq_getElem _
   have := (ha.at_ i d _ _ hd hv hp).1
   rw [hp]
   simp only [Option.map_some]
   rw [this]
 have hh0 : (initSM sig ds).h PIN = ((fArgs sig (ds.map (·.2)))[PIN - PIN]?).bind rowOf := initSM_pin sig ds
 have hpu : (initSM sig ds).used PIN = true := initSM_used sig ds
 unfold runW at hrun
 rw [hds2, fArgs_map] at hrun hh0
 generalize hfl : fArgs sig (pas.map (·.ps)) = fl at hrun r0 hg hh0
 have hok := ha.ok
 rw [hfl] at hok
 split at hrun
 case h_2 => cases hrun
 rename_i y hy
 obtain ⟨x, rfl⟩ : ∃ x, fl = [x] := by
  match fl, hy with
  | [x], _ => exact ⟨x, rfl⟩
 obtain ⟨m, pc⟩ := x
 obtain ⟨sz, ad0, cap, px, epc, hpos, hnot, hflat⟩ := (hok (m, pc) (by simp)).lies
 dsimp only at epc hflat
 subst epc
 have hh1 : (initSM sig ds).h PIN = some (.row false m sz (px.map fun e => e.map PC.er)) := by
  rw [hh0, Nat.sub_self]
  simp [rowOf, PC.er_list]
 have fin : ∀ {σ : St} {a : Act} {w' : World} {G : Gh}, σ.h PIN = (initSM sig ds).h PIN → σ.retW ms = some (lo, len) → R w.heap.size (exM [(m, .list sz ad0 cap px)]) w fn.ntmps σ a w' G → a.defers = [] ∧ ∃ v, (results fn a.tmps).run P w' = .ok v w' ∧
   ∃ (m' : Mode) (sz' cap' : Nat) (a' : Option Addr) (xs : List (List PC)) (v' : Value), [(m, PC.list sz ad0 cap px)] = [(m', .list sz' a' cap' xs)] ∧ (Ending.returned v) = .returned v' ∧ xs ≠ [] ∧
   (∃ (b o : Nat) (a2 : Option Addr), a' = some (ad b o) ∧ v' = .slice a2 len (cap' - lo) ∧ lo + len ≤ cap' ∧ ((lo < cap' ∨ lo = 0) → a2 = some (ad b (o + lo * sz')))) ∧
   Fr w.heap.size (exF [(m', .list sz' a' cap' xs)]) w w' ∧ ∃ q : PC, q.er = (PC.list sz' a' cap' xs).er ∧ MAfter w' m' (.list sz' a' cap' xs) q := by
  intro σ a w' G hst hx r
  rw [hh1] at hst
  unfold St.retW at hx
  split at hx
  ·rename_i n szq lo' len' e1
   split at hx
   ·rename_i hn
    subst hn
    rw [hst] at hx
    split at hx
    ·rename_i gr m0 sz0 e0 es0 hrow
     split at hx
     case isFalse => cases hx
     rename_i hszr
     injection hx with hx
     injection hx with hx1 hx2
     subst hx1 hx2
     injection hrow with hrow
     injection hrow with _ _ hrs hpx
     have hne : px ≠ [] := by rintro rfl; cases hpx
     have hgood := hg (m, .list sz ad0 cap px) (by simp)
     rcases hgood.cases with h0 | ⟨_, hcap, b, o, rfl⟩
     ·exact absurd h0 hne
     have e2 : outAll σ 0 ([(m, PC.list sz (some (ad b o)) cap px)].map fun x => (x.1, x.2.er)) = some [.list sz (px.map fun e => e.map PC.er)] := by
      simp only [List.map_cons, List.map_nil, outAll, outOne, PC.er_list, Nat.add_zero, hst]
      rw [if_pos ⟨trivial, trivial, trivial, hflat, trivial⟩]
     obtain ⟨us, u1, u2, _, u3⟩ := run_resList r hr e1
     obtain ⟨v, rfl⟩ : ∃ v, us = [v] := by
      match us, u2 with
      | [v], _ => exact ⟨v, rfl⟩
     have hv := (u3 0 _ v rfl rfl).oneRC (by simp)
     have hsl : SlOk (G.g PIN) szq lo' len' v := hv.1 (by rw [hst]; simp)
     have hszq : szq = sz := hszr.trans hrs.symm
     have hpin := exM_pin (m, PC.list sz (some (ad b o)) cap px)
     obtain ⟨p1, p2, p3, p4, p6, _⟩ := r.pin _ _ _ hpin hst
     rw [pbOf_cons hne] at p1 p2 p3 p4
     dsimp only at p1 p2 p3 p4
     obtain ⟨q, oq, k1, k2, k3, _⟩ := after_ok hok hg r e2 (i := 0) rfl
     refine ⟨r.defers, _, run_results fn a.tmps u1, m, sz, cap, some (ad b o), px, v, rfl, rfl, hne, ?_, ⟨r.fr.os, r.fr.tape, r.fr.output, r.fr.size, r.fr.block, r.fr.unf⟩, q, ?_, k3⟩
     ·rcases hsl with ⟨h0, _⟩ | ⟨_, a2, h1, h2, h3⟩
      ·rw [p1] at h0; cases h0
      ·rw [p2, p3, p4] at *
       subst hszq
       exact ⟨b, o, a2, rfl, h1, h2, h3⟩
     ·rw [k2]
      simp only [List.getElem?_cons_zero, Option.some.injEq] at k1
      rw [← k1, PC.er_list]
    ·cases hx
   ·cases hx
  ·cases hx
 split at hrun
 ·rename_i σ e
  have hst := (ro_den mc hro e).h PIN hpu
  exact den_sound hT hm mc hc e r0 fun a w' G r => fin hst hrun r
 ·rename_i σ e
  have hst := (ro_den mc hro e).h PIN hpu
  exact den_sound hT hm mc hc e r0 fun a w' G r => fin hst hrun r
 ·cases hrun
end
end Go.Am