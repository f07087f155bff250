/- Am29: functions that change lists of their arguments: from code to contract. No condition. -/
import Derived.Test.YtbogogbogdafiaaAm28
set_option linter.unusedVariables false
namespace Go.Am
section
variable {B : Nat} {E : Ex} {w0 w w' : World} {G G' : Gh} {N : Nat} {h h' : Nat → Option Blk} {used : Nat → Bool}
variable {P : Program} {T : Tab} {a : Act} {σ σ' : St} {Q : Exit → Act → World → Prop}
theorem fCells_mem {α : Type} : ∀ {s : List (Option Mode)} {xs : List α} {x : Mode × α}, x ∈ fCells s xs → x.2 ∈ xs
 | some m :: fs, y :: xs, x, h => by
  simp only [fCells, List.mem_cons] at h
  rcases h with rfl | h
  ·simp
  ·exact List.mem_cons_of_mem _ (fCells_mem h)
 | none :: fs, y :: xs, x, h => by
  simp only [fCells] at h
  exact List.mem_cons_of_mem _ (fCells_mem h)
 | [], _, x, h => by simp [fCells] at h
 | some m :: fs, [], x, h => by simp [fCells] at h
 | none :: fs, [], x, h => by simp [fCells] at h
theorem fArgs_mem {α : Type} : ∀ {sig : MSig} {xss : List (List α)} {x : Mode × α}, x ∈ fArgs sig xss → ∃ xs ∈ xss, x.2 ∈ xs
 | s :: sig, xs :: xss, x, h => by
  simp only [fArgs, List.mem_append] at h
  rcases h with h | h
  ·exact ⟨xs, by simp, fCells_mem h⟩
  ·obtain ⟨ys, h1, h2⟩ := fArgs_mem h
   exact ⟨ys, by simp [h1], h2⟩
 | [], _, x, h => by simp [fArgs] at h
 | s :: sig, [], x, h => by simp [fArgs] at h
theorem argCells_ok {fl : List (Mode × PC)} (hok : ∀ x ∈ fl, MOk w x.1 x.2) (hg : ∀ x ∈ fl, Good w x.2) : ∀ (c : Nat) (fs : List (Option Mode)) (ps : List PC), (∀ (q : Nat) (x : Mode × PC), (fCells fs ps)[q]? = some x → fl[c + q]? = some x) → (∀ pc ∈ ps, Good w pc) →
  (∀ pc ∈ uCells fs ps, ∀ x ∈ fl, ∀ b, InF b pc → ¬ InF b x.2) → RCl w (ghostM w fl) (heapM fl) (argCells c fs (ps.map PC.er)) (ps.map PC.val)
 | c, [], ps, hq, hps, hu => by
  simp only [argCells]
  refine ⟨by simp, fun j x u hj hu' => ?_⟩
  simp only [List.getElem?_map, List.map_map] at hj hu'
  cases hp : ps[j]? with
  | none => rw [hp] at hj; cases hj
  | some pc =>
   rw [hp] at hj hu'
   simp at hj hu'
   subst hj; subst hu'
   have hm := List.mem_of_getElem? hp
   exact ⟨PC.val_oneCell pc, pc, rfl, rfl, hps pc hm, fun b hb => ⟨(hps pc hm).lt hb, fun ⟨x, hx, hx2⟩ => hu pc (by simpa [uCells] using hm) x hx b hb hx2⟩⟩
 | c, f :: fs, [], hq, hps, hu => by
  cases f <;> exact ⟨rfl, by intro j c u hj; simp [argCells] at hj⟩
 | c, none :: fs, p :: ps, hq, hps, hu => by
  have ih := argCells_ok hok hg c fs ps (fun q x h => hq q x (by simpa [fCells] using h)) (fun pc h => hps pc (by simp [h])) (fun pc h => hu pc (by simp [uCells, h]))
  simp only [List.map_cons, argCells]
  refine ⟨by simp [ih.1], fun j x u hj hu' => ?_⟩
  cases j with
  | zero =>
   simp at hj hu'
   subst hj; subst hu'
   exact ⟨PC.val_oneCell p, p, rfl, rfl, hps p (by simp), fun b hb => ⟨(hps p (by simp)).lt hb, fun ⟨x, hx, hx2⟩ => hu p (by simp [uCells]) x hx b hb hx2⟩⟩
  | succ j => exact ih.2 j x u (by simpa using hj) (by simpa using hu')
 | c, some m :: fs, p :: ps, hq, hps, hu => by
  have h0 := hq 0 (m, p) (by simp [fCells])
  simp only [Nat.add_zero] at h0
  have hmem := List.mem_of_getElem? h0
  obtain ⟨sz, a, cap, xs, e, hpos, hnot, hflat⟩ := (hok _ hmem).lies
  simp only at e
  subst e
  have ih := argCells_ok hok hg (c + 1) fs ps (fun q x h => by have := hq (q + 1) x (by simpa [fCells] using h); rwa [show c + (q + 1) = c + 1 + q by omega] at this) (fun pc h => hps pc (by simp [h])) (fun pc h => hu pc (by simpa [uCells] using h))
  simp only [List.map_cons, PC.er_list, argCells]
  refine ⟨by simp [ih.1], fun j x u hj hu' => ?_⟩
  cases j with
  | zero =>
   simp at hj hu'
   subst hj; subst hu'
   refine ⟨PC.val_oneCell _, fun _ => ?_⟩
   have hgn : (ghostM w fl).g (PIN + c) = pbOf (.list sz a cap xs) := by simp only [ghostM, Nat.add_sub_cancel_left, h0]
   rw [hgn]
   rcases (hg _ hmem).cases with rfl | ⟨hne, hcap, b, o, rfl⟩
   ·rw [pbOf_nil]
    exact .inl ⟨rfl, rfl, rfl, rfl⟩
   ·rw [pbOf_cons hne]
    exact .inr ⟨rfl, some (ad b o), by simp [PC.val], by simpa using hcap, fun _ => by simp⟩
  | succ j => exact ih.2 j x u (by simpa using hj) (by simpa using hu')
theorem argM_ok {fl : List (Mode × PC)} (hok : ∀ x ∈ fl, MOk w x.1 x.2) (hg : ∀ x ∈ fl, Good w x.2) {c : Nat} {s : List (Option Mode)} {d : Dv} {v : Value} {p : PA} (hA : AOk w d v p)
  (hq : ∀ (q : Nat) (x : Mode × PC), (fCells s p.ps)[q]? = some x → fl[c + q]? = some x) (hu : ∀ pc ∈ uCells s p.ps, ∀ x ∈ fl, ∀ b, InF b pc → ¬ InF b x.2) (hp : p.k = .ptr → s = [] ∧ ∀ x ∈ fl, ¬ InF p.b x.2) :
  RA w (ghostM w fl) (heapM fl) (argM c s d) v := by
 obtain ⟨k, ps, b, o⟩ := p
 obtain ⟨rfl, hps, hv⟩ := hA
 cases k with
 | one =>
  have hv : ps.map PC.val = [v] := hv
  have hl := argCells_ok hok hg c s ps hq hps hu
  rw [hv] at hl
  simp only [argM]
  obtain ⟨x, hx⟩ : ∃ x, argCells c s (ps.map PC.er) = [x] := by
   have := hl.1
   match hh : argCells c s (ps.map PC.er), this with
   | [x], _ => exact ⟨x, rfl⟩
  rw [hx] at hl ⊢
  exact .inr hl
 | agg =>
  have hv : v = .agg (ps.map PC.val).toArray := hv
  exact ⟨_, hv, argCells_ok hok hg c s ps hq hps hu⟩
 | ptr =>
  obtain ⟨h1, h2, h3⟩ : v = .pointer (some (ad b o)) ∧ b < w.heap.size ∧ ∀ j c, ps[j]? = some c → w.cell? (ad b (o + j)) = some c.val := hv
  obtain ⟨rfl, hpt⟩ := hp rfl
  subst h1
  refine RA.of_one rfl ⟨b, o, ps, by simp, rfl, ⟨h2, fun ⟨x, hx, hx2⟩ => hpt x hx hx2⟩, fun j c hj => ?_⟩
  have hm := List.mem_of_getElem? hj
  exact ⟨h3 j c hj, hps c hm, fun b' hb' => ⟨(hps c hm).lt hb', fun ⟨x, hx, hx2⟩ => hu c (by simpa [uCells] using hm) x hx b' hb' hx2⟩⟩
theorem initEM_ok {fl : List (Mode × PC)} (hok : ∀ x ∈ fl, MOk w x.1 x.2) (hg : ∀ x ∈ fl, Good w x.2) : ∀ (ds : List Dv) (k c : Nat) (sig : MSig) (vals : List Value) (pas : List PA), vals.length = ds.length → pas.length = ds.length →
  (∀ (i : Nat) (d : Dv) (v : Value) (p : PA), ds[i]? = some d → vals[i]? = some v → pas[i]? = some p → AOk w d v p) → (∀ (q : Nat) (x : Mode × PC), (fArgs sig (pas.map (·.ps)))[q]? = some x → fl[c + q]? = some x) →
  (∀ pc ∈ uArgs sig (pas.map (·.ps)), ∀ x ∈ fl, ∀ b, InF b pc → ¬ InF b x.2) → (∀ p ∈ pas, p.k = .ptr → ∀ x ∈ fl, ¬ InF p.b x.2) → (∀ (i : Nat) (p : PA) (s : List (Option Mode)), pas[i]? = some p → sig[i]? = some s → p.k = .ptr → s = []) →
  ∀ s, RA w (ghostM w fl) (heapM fl) (initEM k c sig ds s) (if k ≤ s then vals.getD (s - k) undef else undef)
 | [], k, c, sig, vals, pas, l1, l2, hA, hq, hu, hp, hs, s => by simp only [initEM]; exact Or.inl rfl
 | d :: ds, k, c, sig, v :: vals, p :: pas, l1, l2, hA, hq, hu, hp, hs, s => by
  have l1' : vals.length = ds.length := by simpa using l1
  have l2' : pas.length = ds.length := by simpa using l2
  have A0 := hA 0 d v p rfl rfl rfl
  have A1 := fun i d' v' p' (h1 : ds[i]? = some d') (h2 : vals[i]? = some v') (h3 : pas[i]? = some p') => hA (i + 1) d' v' p' (by simpa using h1) (by simpa using h2) (by simpa using h3)
  have hps := A0.2.1
  have hd2 : d.2 = p.ps.map PC.er := by rw [A0.1]
  have shift : ∀ x : AVal, (s ≠ k → RA w (ghostM w fl) (heapM fl) x (if k + 1 ≤ s then vals.getD (s - (k + 1)) undef else undef)) → s ≠ k → RA w (ghostM w fl) (heapM fl) x (if k ≤ s then (v :: vals).getD (s - k) undef else undef) := by
   intro x hx hsk
   have := hx hsk
   by_cases hk : k + 1 ≤ s
   ·rw [if_pos hk] at this
    rw [if_pos (by omega), show s - k = (s - (k + 1)) + 1 by omega]
    simpa using this
   ·rw [if_neg hk] at this
    rw [if_neg (by omega)]
    exact this
  cases sig with
  | nil =>
   simp only [initEM]
   by_cases hsk : s = k
   ·subst hsk
    rw [upd_same, if_pos (Nat.le_refl _)]
    simp only [Nat.sub_self, List.getD_cons_zero]
    refine argM_ok hok hg A0 (fun q x h => by simp [fCells] at h) (fun pc hpc => hu pc ?_) (fun e => ⟨rfl, hp p (by simp) e⟩)
    simp only [uCells] at hpc
    simp [uArgs, hpc]
   ·rw [upd_ne _ _ _ _ hsk]
    refine shift _ (fun _ => initEM_ok hok hg ds (k + 1) c [] vals pas l1' l2' A1 (fun q x h => by simp [fArgs] at h) (fun pc hpc => hu pc ?_) (fun p hp' => hp p (by simp [hp'])) (fun i p s _ h => by simp at h) s) hsk
    simp only [uArgs] at hpc
    simp only [List.map_cons, uArgs, List.flatten_cons, List.mem_append]
    exact .inr hpc
  | cons sg sig =>
   simp only [initEM]
   have hlen : (fCells sg d.2).length = (fCells sg p.ps).length := by rw [hd2, fCells_map, List.length_map]
   by_cases hsk : s = k
   ·subst hsk
    rw [upd_same, if_pos (Nat.le_refl _)]
    simp only [Nat.sub_self, List.getD_cons_zero]
    refine argM_ok hok hg A0 (fun q x h => hq q x ?_) (fun pc hpc => hu pc ?_) (fun e => ⟨hs 0 p sg rfl rfl e, hp p (by simp) e⟩)
    ·simp only [List.map_cons, fArgs]
     rw [List.getElem?_append_left (List.getElem?_eq_some_iff.1 h).1]
     exact h
    ·simp only [List.map_cons, uArgs, List.mem_append]
     exact .inl hpc
   ·rw [upd_ne _ _ _ _ hsk]
    refine shift _ (fun _ => initEM_ok hok hg ds (k + 1) (c + (fCells sg d.2).length) sig vals pas l1' l2' A1 (fun q x h => ?_) (fun pc hpc => hu pc ?_) (fun p hp' => hp p (by simp [hp'])) (fun i p s h1 h2 => hs (i + 1) p s (by simpa using h1) (by simpa using h2)) s) hsk
    ·have := hq ((fCells sg p.ps).length + q) x (by
      simp only [List.map_cons, fArgs]
      rw [List.getElem?_append_right (Nat.le_add_right _ _), Nat.add_sub_cancel_left]
      exact h)
     rw [hlen, Nat.add_assoc]
     exact this
    ·simp only [List.map_cons, uArgs, List.mem_append]
     exact .inr hpc
 | _ :: _, k, c, sig, [], pas, l1, l2, hA, hq, hu, hp, hs, s => by simp at l1
 | _ :: _, k, c, sig, _ :: _, [], l1, l2, hA, hq, hu, hp, hs, s => by simp at l2
theorem argM_ref {c : Nat} {s : List (Option Mode)} {d : Dv} {m : Nat} (h : (argM c s d).ref m) : PIN ≤ m := by
 have key : ∀ (cs : List C) (c : Nat) (s : List (Option Mode)), ∀ x ∈ argCells c s cs, x.ref m → PIN ≤ m := by
  intro cs
  induction cs with
  | nil =>
   intro c s x hx
   cases s with
   | nil => simp [argCells] at hx
   | cons f fs => cases f <;> simp [argCells] at hx
  | cons y cs ih =>
   intro c s x hx hr
   cases s with
   | nil =>
    simp only [argCells, List.mem_map] at hx
    obtain ⟨z, _, rfl⟩ := hx
    exact absurd hr id
   | cons f fs =>
    cases f with
    | none =>
     simp only [argCells, List.mem_cons] at hx
     rcases hx with rfl | hx
     ·exact absurd hr id
     ·exact ih _ _ _ hx hr
    | some md =>
     cases y with
     | list sz xs =>
      simp only [argCells, List.mem_cons] at hx
      rcases hx with rfl | hx
      ·have hr : m = PIN + c := hr
       omega
      ·exact ih _ _ _ hx hr
     | int k n =>
      simp only [argCells, List.mem_cons] at hx
      rcases hx with rfl | hx
      ·exact absurd hr id
      ·exact ih _ _ _ hx hr
     | bool b =>
      simp only [argCells, List.mem_cons] at hx
      rcases hx with rfl | hx
      ·exact absurd hr id
      ·exact ih _ _ _ hx hr
 obtain ⟨k, xs⟩ := d
 cases k with
 | one =>
  simp only [argM] at h
  match hh : argCells c s xs, h with
  | [], h => exact absurd h id
  | [x], h => exact key xs c s x (by rw [hh]; simp) h
  | _ :: _ :: _, h => exact absurd h id
 | agg =>
  obtain ⟨x, hx, hr⟩ := h
  exact key xs c s x hx hr
 | ptr => exact absurd h id
theorem initEM_ref : ∀ {ds : List Dv} {k c : Nat} {sig : MSig} {s m : Nat}, (initEM k c sig ds s).ref m → PIN ≤ m
 | [], k, c, sig, s, m, h => by simp only [initEM] at h; exact absurd h id
 | d :: ds, k, c, [], s, m, h => by
  simp only [initEM, upd_def] at h
  split at h
  ·exact argM_ref h
  ·exact initEM_ref h
 | d :: ds, k, c, sg :: sig, s, m, h => by
  simp only [initEM, upd_def] at h
  split at h
  ·exact argM_ref h
  ·exact initEM_ref h
theorem R.initM {sig : MSig} {ds : List Dv} {vals : List Value} {pas : List PA} (M : MArgs w sig ds vals pas) (hN : ds.length ≤ N) :
  R w.heap.size (exM (fArgs sig (pas.map (·.ps)))) w N (initSM sig ds) { tmps := vals.toArray ++ Array.replicate (N - vals.toArray.size) undef, defers := [] } w (ghostM w (fArgs sig (pas.map (·.ps)))) := by
 have hds : ds.map (·.2) = (pas.map (·.ps)).map fun l => l.map PC.er := by
  apply List.ext_getElem?
  intro i
  simp only [List.getElem?_map]
  cases hd : ds[i]? with
  | none =>
   have : ds.length ≤ i := List.getElem?_eq_none_iff.1 hd
   rw [List.getElem?_eq_none (by rw [M.l2]; exact this)]
   rfl
  | some d =>
   have hi := (List.getElem?_eq_some_iff.1 hd).1
   have hv : vals[i]? = some (vals[i]'(by rw [M.l1]; exact hi)) := List.getElem?_eq_getElem _
   have hp : pas[i]? = some (pas[i]'(by rw [M.l2]; exact hi)) := List.getElem?_eq_getElem _
   have := (M.at_ i d _ _ hd hv hp).1
   rw [hp]
   simp only [Option.map_some]
   rw [this]
 have hps : ∀ p ∈ pas, ∀ pc ∈ p.ps, Good w pc := by
  intro p hp pc hpc
  obtain ⟨i, hi, rfl⟩ := List.getElem_of_mem hp
  have hd : ds[i]? = some (ds[i]'(by rw [← M.l2]; exact hi)) := List.getElem?_eq_getElem _
  have hv : vals[i]? = some (vals[i]'(by rw [M.l1, ← M.l2]; exact hi)) := List.getElem?_eq_getElem _
  exact (M.at_ i _ _ _ hd hv (List.getElem?_eq_getElem hi)).2.1 pc hpc
 have hg : ∀ x ∈ fArgs sig (pas.map (·.ps)), Good w x.2 := by
  intro x hx
  obtain ⟨l, hl, hxl⟩ := fArgs_mem hx
  obtain ⟨p, hp, rfl⟩ := List.mem_map.1 hl
  exact hps p hp _ hxl
 have hheap : (initSM sig ds).h = heapM (fArgs sig (pas.map (·.ps))) := by
  funext n
  simp only [initSM, heapM, hds, fArgs_map]
 refine ⟨rfl, by simp [M.l1]; omega, fun s => ?_, fun s n hn => Nat.ble_eq_true_of_le (initEM_ref hn), ?_, Fr.refl _ _ _ (Nat.le_refl _), fun n p b hp hb => ?_, fun n hn => Nat.ble_eq_true_of_le hn⟩
 ·rw [hheap]
  have := initEM_ok M.ok hg ds 0 0 sig vals pas M.l1 M.l2 M.at_ (fun q x h => by rw [Nat.zero_add]; exact h) M.free M.ptr M.noptr s
  simp only [Nat.zero_le, if_true, Nat.sub_zero] at this
  have e : (vals.toArray ++ Array.replicate (N - vals.toArray.size) undef).getD s undef = vals.getD s undef := by
   simp only [Array.getD_eq_getD_getElem?, List.getD_eq_getElem?_getD]
   by_cases hlt : s < vals.length
   ·simp [Array.getElem?_append, hlt]
   ·rw [List.getElem?_eq_none (by omega)]
    simp only [Array.getElem?_append, List.size_toArray, hlt, if_false, Array.getElem?_replicate]
    split <;> rfl
  rw [e]
  exact this
 ·rw [hheap]
  exact HR.initM hg M.ok M.dis
 ·rw [hheap] at hb
  obtain ⟨hpn, m, sz, a, cap, xs, hf, e⟩ := heapM_some hb
  have hp' : (if PIN ≤ n then ((fArgs sig (pas.map (·.ps)))[n - PIN]?).map (fun x => pbOf x.2) else none) = some p := hp
  rw [if_pos hpn, hf] at hp'
  simp at hp'
  subst hp'
  have hgn : (ghostM w (fArgs sig (pas.map (·.ps)))).g n = pbOf (.list sz a cap xs) := by simp only [ghostM, hf]
  rw [hgn]
  exact ⟨rfl, rfl, rfl, rfl, rfl, fun gr sz' xs' _ k j pc hk hL => ⟨pc, hk, rfl, hL⟩⟩
theorem outAll_get : ∀ {fl : List (Mode × C)} {q : Nat} {outs : List C}, outAll σ q fl = some outs → outs.length = fl.length ∧ ∀ i x, fl[i]? = some x → ∃ o, outs[i]? = some o ∧ outOne σ (q + i) x = some o
 | [], q, outs, h => by simp only [outAll] at h; injection h with h; subst h; exact ⟨rfl, by simp⟩
 | y :: l, q, outs, h => by
  simp only [outAll] at h
  split at h
  ·rename_i o os h1 h2
   injection h with h
   subst h
   obtain ⟨i1, i2⟩ := outAll_get h2
   refine ⟨by simp [i1], fun i x hx => ?_⟩
   cases i with
   | zero => simp at hx; subst hx; exact ⟨o, rfl, h1⟩
   | succ i =>
    obtain ⟨o', e1, e2⟩ := i2 i x (by simpa using hx)
    exact ⟨o', by simpa using e1, by rw [show q + (i + 1) = q + 1 + i by omega]; exact e2⟩
  ·cases h
theorem outOne_some {q : Nat} {x : Mode × C} {o : C} (h : outOne σ q x = some o) : ∃ sz xs gr xs', x.2 = .list sz xs ∧ σ.h (PIN + q) = some (.row gr x.1 sz xs') ∧ xs'.length = xs.length ∧ flatOk x.1 xs' = true ∧ xs'.map (fun e => e.map C.isLB) = xs.map (fun e => e.map C.isLB) ∧ o = .list sz xs' := by
 unfold outOne at h
 split at h
 ·rename_i sz xs gr m' sz' xs' h1 h2
  split at h
  ·rename_i hc
   obtain ⟨rfl, rfl, h3, h4, h5⟩ := hc
   injection h with h
   exact ⟨_, xs, gr, xs', h1, h2, h3, h4, h5, h.symm⟩
  ·cases h
 ·cases h
theorem dep2_flat {px : List (List PC)} (hd : (px.map fun e => e.map PC.er).all (fun e => e.all C.dep2) = true) {k j : Nat} {c : PC} (hk : At px k j c) : ∀ sz a cap ys, c = .list sz a cap ys → ∀ b, ¬ RowF b ys := by
 rintro sz a cap ys rfl b
 obtain ⟨e, he, hj⟩ := hk
 simp only [List.all_eq_true, List.mem_map] at hd
 have h1 := hd (e.map PC.er) ⟨e, List.mem_of_getElem? he, rfl⟩ (PC.er (.list sz a cap ys)) (List.mem_map.2 ⟨_, List.mem_of_getElem? hj, rfl⟩)
 rw [PC.er_list] at h1
 exact scalRow h1 b
theorem PC.isL_er (c : PC) : c.er.isLB = c.isL := by
 cases c with
 | int k n => rfl
 | bool b => rfl
 | list sz a cap xs => rw [PC.er_list]; rfl
theorem shape_at {px px' : List (List PC)} (hs : (px'.map fun e => e.map PC.er).map (fun e => e.map C.isLB) = (px.map fun e => e.map PC.er).map (fun e => e.map C.isLB)) {k j : Nat} {c : PC} (hk : At px' k j c) :
  ∃ c0, At px k j c0 ∧ c0.isL = c.isL := by
 obtain ⟨e, he, hj⟩ := hk
 have h1 := congrArg (fun l => l[k]?) hs
 simp only [List.getElem?_map, he, Option.map_some] at h1
 cases h0 : px[k]? with
 | none => rw [h0] at h1; cases h1
 | some e0 =>
  rw [h0] at h1
  simp only [Option.map_some, Option.some.injEq] at h1
  have h2 := congrArg (fun l => l[j]?) h1
  simp only [List.getElem?_map, hj, Option.map_some] at h2
  cases h3 : e0[j]? with
  | none => rw [h3] at h2; cases h2
  | some c0 =>
   rw [h3] at h2
   simp only [Option.map_some, Option.some.injEq, PC.isL_er] at h2
   exact ⟨c0, ⟨e0, h0, h3⟩, h2.symm⟩
theorem At.inj {α : Type} {px : List (List α)} {k j : Nat} {c c' : α} (h : At px k j c) (h' : At px k j c') : c = c' := by
 obtain ⟨e, h1, h2⟩ := h
 obtain ⟨e', h3, h4⟩ := h'
 rw [h1] at h3
 injection h3 with h3
 subst h3
 rw [h2] at h4
 injection h4
theorem live_foot {px px' : List (List PC)} (hd : (px.map fun e => e.map PC.er).all (fun e => e.all C.dep2) = true)
  (hl : ∀ k j pc, At px k j pc → pc.isL = true → ∃ pc', At px' k j pc' ∧ pc'.val = pc.val ∧ pc'.isL = true) {b : Nat} (hb : RowF b px) : RowF b px' := by
 obtain ⟨k, j, c, hk, hc⟩ := hb
 cases c with
 | int k n => exact absurd hc InF.not_int
 | bool x => exact absurd hc InF.not_bool
 | list sz a cap ys =>
  have hflat := dep2_flat hd hk sz a cap ys rfl
  rw [InF.list_iff] at hc
  rcases hc with ⟨hne, o, rfl⟩ | ⟨k', j', c', hk', hc'⟩
  ·obtain ⟨c', h1, h2, h3⟩ := hl k j _ hk rfl
   cases c' with
   | int k n => cases h3
   | bool x => cases h3
   | list sz' a' cap' ys' =>
    simp only [PC.val] at h2
    injection h2 with e1 e2 e3
    subst e1
    refine ⟨k, j, _, h1, ?_⟩
    rw [InF.list_iff]
    refine .inl ⟨fun hnil => ?_, o, rfl⟩
    subst hnil
    exact hne (List.eq_nil_of_length_eq_zero e2.symm)
  ·exact absurd ⟨k', j', c', hk', hc'⟩ (hflat b)
end
end Go.Am