/- Am26, Am27: parts of the proof. No condition. -/
import Derived.Test.YtbogogbogdafiaaAm25
set_option linter.unusedVariables false
section
namespace Go.Am
def argV : Dv → AVal
 | (.one, [x]) => .one (.c x)
 | (.one, _) => .one .junk
 | (.agg, xs) => .agg (xs.map .c)
 | (.ptr, xs) => .one (.dptr xs 0)
def initE : Nat → List Dv → (Nat → AVal)
 | _, [] => emptyEnv
 | k, d :: ds => upd (initE (k + 1) ds) k (argV d)
def initS (ds : List Dv) : St := { env := initE 0 ds, h := emptyHeap, used := fun n => Nat.ble PIN n }
def runF (T : Tab) (mc : MCode) (res : List MRes) (ds : List Dv) : Option (List Dv) :=
 match den T mc (initS ds) with
 | some (.nrm σ) => σ.retF res
 | some (.ret σ) => σ.retF res
 | _ => none
section
variable {B : Nat} {E : Ex} {w0 w w' : World} {G G' : Gh} {N : Nat} {h h' : Nat → Option Blk} {used : Nat → Bool}
variable {P : Program} {T : Tab} {a : Act} {σ σ' : St} {Q : Exit → Act → World → Prop}
theorem initE_get : ∀ (ds : List Dv) (k n : Nat), initE k ds n = if k ≤ n then (match ds[n - k]? with | some d => argV d | none => .one .junk) else .one .junk
 | [], k, n => by simp [initE, emptyEnv]
 | d :: ds, k, n => by
  simp only [initE, upd_def, initE_get ds]
  by_cases h : n = k
  ·subst h; simp
  ·by_cases h2 : k ≤ n
   ·have h3 : k + 1 ≤ n := by omega
    have h4 : n - k = (n - (k + 1)) + 1 := by omega
    simp [h, h2, h3, h4]
   ·have h3 : ¬ k + 1 ≤ n := by omega
    simp [h, h2, h3]
def ghost0 (w : World) : Gh := ⟨fun b => b < w.heap.size, fun _ => default⟩
theorem argV_ok {d : Dv} {v : Value} (hd : ArgOk w d v) : RA w (ghost0 w) emptyHeap (argV d) v := by
 have cells : ∀ {pcs : List PC}, (∀ pc ∈ pcs, Good w pc) → RCl w (ghost0 w) emptyHeap ((pcs.map PC.er).map .c) (pcs.map PC.val) := by
  intro pcs hg
  refine ⟨by simp, fun j c u hj hu => ?_⟩
  simp only [List.getElem?_map, List.map_map] at hj hu
  cases hp : pcs[j]? with
  | none => rw [hp] at hj; cases hj
  | some pc =>
   rw [hp] at hj hu
   simp at hj hu
   subst hj; subst hu
   have hgp := hg pc (List.mem_of_getElem? hp)
   exact ⟨PC.val_oneCell pc, pc, rfl, rfl, hgp, fun b hb => hgp.lt hb⟩
 obtain ⟨k, xs⟩ := d
 cases k with
 | one =>
  obtain ⟨pcs, p1, p2, p3⟩ := hd
  have p1 : pcs.map PC.er = xs := p1
  subst p1
  match pcs, p3 with
  | [pc], p3 =>
   simp at p3
   subst p3
   exact RA.of_one (PC.val_oneCell pc) ⟨pc, rfl, rfl, p2 pc (by simp), fun b hb => (p2 pc (by simp)).lt hb⟩
 | agg =>
  obtain ⟨pcs, p1, p2, p3⟩ := hd
  have p1 : pcs.map PC.er = xs := p1
  subst p1
  exact ⟨_, p3, cells p2⟩
 | ptr =>
  obtain ⟨pcs, b, o, p1, p2, p3, p4⟩ := hd
  have p1 : pcs.map PC.er = xs := p1
  subst p1 p2
  exact RA.of_one rfl ⟨b, o, pcs, by simp, rfl, p3, fun j c hj => ⟨(p4 j c hj).1, (p4 j c hj).2, fun b' hb' => (p4 j c hj).2.lt hb'⟩⟩
theorem argV_ref {d : Dv} {m : Nat} : ¬ (argV d).ref m := by
 obtain ⟨k, xs⟩ := d
 cases k with
 | one => match xs with
  | [] => exact id
  | [x] => exact id
  | _ :: _ :: _ => exact id
 | agg =>
  rintro ⟨c, hc, h⟩
  obtain ⟨y, _, rfl⟩ := List.mem_map.1 hc
  exact h
 | ptr => exact id
theorem R.init {ds : List Dv} {vals : List Value} (ha : ArgsOk w ds vals) (hN : ds.length ≤ N) :
  R w.heap.size Ex.no w N (initS ds) { tmps := vals.toArray ++ Array.replicate (N - vals.toArray.size) undef, defers := [] } w (ghost0 w) := by
 obtain ⟨hl, hat⟩ := ha
 refine ⟨rfl, by simp; omega, fun s => ?_, fun s n hn => ?_, ?_, Fr.refl _ _ _ (Nat.le_refl _), fun n p b hp => (by cases hp), fun n hn => Nat.ble_eq_true_of_le hn⟩
 ·show RA w _ emptyHeap (initE 0 ds s) _
  rw [initE_get]
  simp only [Nat.zero_le, if_true, Nat.sub_zero]
  cases hs : ds[s]? with
  | none => exact Or.inl rfl
  | some d =>
   have hsl : s < vals.length := by rw [hl]; exact (List.getElem?_eq_some_iff.1 hs).1
   have hv : vals[s]? = some vals[s] := List.getElem?_eq_getElem hsl
   have : (vals.toArray ++ Array.replicate (N - vals.toArray.size) undef).getD s undef = vals[s] := by
    simp [Array.getD_eq_getD_getElem?, Array.getElem?_append, hsl]
   rw [this]
   exact argV_ok (hat s d _ hs hv)
 ·have hn' : (initE 0 ds s).ref n := hn
  rw [initE_get] at hn'
  simp only [Nat.zero_le, if_true, Nat.sub_zero] at hn'
  cases hs : ds[s]? with
  | none => rw [hs] at hn'; exact absurd hn' id
  | some d => rw [hs] at hn'; exact absurd hn' argV_ref
 ·have h0 : ∀ n, (initS ds).h n = none := fun n => rfl
  refine ⟨fun n hn => absurd (h0 n) hn, fun m cs c n hm => ?_, fun n cs hn => ?_, fun n gr m sz xs hn => ?_, fun n hn => absurd (h0 n) hn, fun n n' hn => absurd (h0 n) hn, fun b hb => hb, fun b _ => .inr (.inr trivial),
   fun n n' gr m sz xs gr' m' sz' xs' hn => ?_, fun n gr sz xs hn => ?_, ?_, ?_, ?_⟩
  ·rw [h0] at hm; cases hm
  ·rw [h0] at hn; cases hn
  ·rw [h0] at hn; cases hn
  ·rw [h0] at hn; cases hn
  ·rw [h0] at hn; cases hn
  ·intro i pc hi; simp at hi
  ·intro i j pc pc' b _ hi; simp at hi
  ·intro i pc n gr m sz xs b hi; simp at hi
theorem run_loadCell (r : R B E w0 N σ a w G) {t sz : Nat} {ag : Bool} {ty : TypeId} {p : ACell} {cs : List ACell} (hch : chkLoad P ty ag sz = true) (hp : σ.env t = .one p) (hx : loadAt σ.h p sz = some cs) :
  ∃ v, (resOne a.tmps (.cell t ty)).run P w = .ok v w ∧ RA w G σ.h (toA ag cs) v := by
 have hv := r.env t
 have href := r.wfe t
 rw [hp] at hv href
 have hpj : p ≠ .junk := by rintro rfl; simp [Am.loadAt] at hx
 obtain ⟨b, of, vs, h1, h2, h3, h4, h5⟩ := r.hr.loadAt hx (hv.oneRC hpj).1 (fun m hm => href m hm)
 have hloads : ∀ n : Nat, n = vs.length → (loadCells (ad b of) n).run P w = .ok vs.toArray w := fun n hn => by
  subst hn
  exact run_loadCells_list w (ad b of) vs (fun j u hj => by rw [ad_add]; exact h3 j u hj)
 unfold chkLoad at hch
 cases hu : P.underlying ty with
 | none => rw [hu] at hch; simp at hch
 | some d =>
  cases hi : P.info? ty with
  | none => rw [hu, hi] at hch; cases d <;> simp at hch
  | some i =>
   rw [hu, hi] at hch
   have hag : (ag = true ∧ i.size = sz ∧ (isAgg ty).run P w = .ok true w) ∨ (ag = false ∧ sz = 1 ∧ (isAgg ty).run P w = .ok false w) := by
    cases d <;> simp at hch <;> simp [isAgg, run_underlying hu, hch]
   rcases hag with ⟨rfl, e1, e2⟩ | ⟨rfl, e1, e2⟩
   ·refine ⟨.agg vs.toArray, ?_, vs, rfl, h4⟩
    simp [resOne, h1, loadVar, asAddr, e2, sizeOf, typeInfo, hi, hloads i.size (by omega)]
   ·subst e1
    match vs, h2 with
    | [u], _ =>
     have hcs : ∃ c, cs = [c] := by
      have := h4.1
      match cs, this with
      | [c], _ => exact ⟨c, rfl⟩
     obtain ⟨c, rfl⟩ := hcs
     have hcell := h3 0 u rfl
     simp only [Nat.add_zero] at hcell
     exact ⟨u, by simp [resOne, h1, loadVar, asAddr, e2, hcell], .inr h4⟩
theorem run_resList (r : R B E w0 N σ a w G) : ∀ {rs : List ResultVar} {ms : List MRes} {vs : List AVal}, chkRes P rs ms = true → σ.resV ms = some vs →
  ∃ us : List Value, (rs.mapM (resOne a.tmps)).run P w = .ok us w ∧ us.length = vs.length ∧ us.length = rs.length ∧ ∀ (j : Nat) (x : AVal) (v : Value), vs[j]? = some x → us[j]? = some v → RA w G σ.h x v
 | [], [], vs, hc, hx => by
  simp only [St.resV] at hx
  injection hx with hx
  subst hx
  exact ⟨[], by simp, rfl, rfl, by simp⟩
 | .tmp t :: rs, .tmp t' :: ms, vs, hc, hx => by
  simp only [chkRes, Bool.and_eq_true, beq_iff_eq] at hc
  obtain ⟨rfl, hc⟩ := hc
  simp only [St.resV] at hx
  split at hx
  ·rename_i vs' e
   injection hx with hx
   subst hx
   obtain ⟨us, u1, u2, u2', u3⟩ := run_resList r hc e
   refine ⟨a.tmps.getD t undef :: us, by simp [resOne, u1], by simp [u2], by simp [u2'], fun j x v hj hv => ?_⟩
   cases j with
   | zero => simp only [List.getElem?_cons_zero, Option.some.injEq] at hj hv; subst hj; subst hv; exact r.env t
   | succ j => exact u3 j x v (by simpa using hj) (by simpa using hv)
  ·cases hx
 | .cell t ty :: rs, .cell t' sz ag :: ms, vs, hc, hx => by
  simp only [chkRes, Bool.and_eq_true, beq_iff_eq] at hc
  obtain ⟨⟨rfl, hch⟩, hc⟩ := hc
  simp only [St.resV] at hx
  split at hx
  ·rename_i p hp
   split at hx
   ·rename_i cs vs' e1 e2
    injection hx with hx
    subst hx
    obtain ⟨us, u1, u2, u2', u3⟩ := run_resList r hc e2
    obtain ⟨v0, v1, v2⟩ := run_loadCell r hch hp e1
    refine ⟨v0 :: us, by simp [v1, u1], by simp [u2], by simp [u2'], fun j x v hj hv => ?_⟩
    cases j with
    | zero => simp only [List.getElem?_cons_zero, Option.some.injEq] at hj hv; subst hj; subst hv; exact v2
    | succ j => exact u3 j x v (by simpa using hj) (by simpa using hv)
   ·cases hx
  ·cases hx
 | [], _ :: _, _, hc, _ => by simp [chkRes] at hc
 | .tmp _ :: _, [], _, hc, _ => by simp [chkRes] at hc
 | .cell _ _ :: _, [], _, hc, _ => by simp [chkRes] at hc
 | .tmp _ :: _, .cell _ _ _ :: _, _, hc, _ => by simp [chkRes] at hc
 | .cell _ _ :: _, .tmp _ :: _, _, hc, _ => by simp [chkRes] at hc
theorem packed_ret {prs : List (K × List PC)} : packed (prs.map retOne) = retVal prs := by
 match prs with
 | [] => rfl
 | [p] => rfl
 | p :: q :: prs => rfl
theorem ret_ok (r : R B Ex.no w0 N σ a w G) {fn : Func} {ms : List MRes} {ds : List Dv} (hc : chkRes P fn.results.toList ms = true) (hx : σ.retF ms = some ds) :
  ∃ prs : List (K × List PC), prs.map (fun p => (p.1, p.2.map PC.er)) = ds ∧ (results fn a.tmps).run P w = .ok (retVal prs) w ∧ (∀ p ∈ prs, p.1 ≠ .ptr ∧ (p.1 = .one → p.2.length = 1)) ∧
   RetAll w B (prs.flatMap (·.2)) := by
 unfold St.retF at hx
 split at hx
 ·rename_i vs e1
  split at hx
  ·rename_i ds' ns e2
   split at hx
   ·rename_i hnd
    injection hx with hx
    subst hx
    obtain ⟨us, u1, u2, _, u3⟩ := run_resList r hc e1
    obtain ⟨prs, p1, p2, p3, p4, p5⟩ := r.hr.retDs e2 u2 u3
    refine ⟨prs, p1, ?_, p3, ⟨fun pc hpc => (p4.each pc hpc).good, fun pc hpc b hb => ((p4.each pc hpc).new b hb).1, fun i j pc pc' b hij hi hj hb => ?_⟩⟩
    ·rw [run_results fn a.tmps u1, ← p2, packed_ret]
    ·have hp := p4.dis hnd
     rw [List.pairwise_iff_getElem] at hp
     obtain ⟨li, ei⟩ := List.getElem?_eq_some_iff.1 hi
     obtain ⟨lj, ej⟩ := List.getElem?_eq_some_iff.1 hj
     subst ei
     subst ej
     rcases Nat.lt_or_gt_of_ne hij with hlt | hlt
     ·exact hp i j li lj hlt b hb
     ·exact fun hb' => hp j i lj li hlt b hb' hb
   ·cases hx
  ·cases hx
 ·cases hx
theorem pure_of_den (hT : TOk P T) (hm : P.follows .mixedOrders = true) {f : FuncId} {fn : Func} {c : Code} {mc : MCode} {ms : List MRes} {M : List Dv → Option (List Dv)} (hf : P.funcs[f]? = some fn) (hb : fn.body = some c)
  (hc : chkCode P fn.ntmps c mc = true) (hr : chkRes P fn.results.toList ms = true) (hM : ∀ ds rs, M ds = some rs → ds.length ≤ fn.ntmps ∧ runF T mc ms ds = some rs) : PureSpec P f M := by
 intro ds rs hds w vals ha
 obtain ⟨hN, hrun⟩ := hM ds rs hds
 refine calls_of_wp hf hb ?_
 have r0 := R.init (N := fn.ntmps) ha hN
 unfold runF at hrun
 have fin : ∀ {σ : St} {a : Act} {w' : World} {G : Gh}, σ.retF ms = some rs → R w.heap.size Ex.no w fn.ntmps σ a w' G → a.defers = [] ∧ ∃ v, (results fn a.tmps).run P w' = .ok v w' ∧
   ∃ prs : List (K × List PC), prs.map (fun p => (p.1, p.2.map PC.er)) = rs ∧ (Ending.returned v) = .returned (retVal prs) ∧ (∀ p ∈ prs, p.1 ≠ .ptr ∧ (p.1 = .one → p.2.length = 1)) ∧
   RetAll w' w.heap.size (prs.flatMap (·.2)) ∧ Fr w.heap.size Ex.no w w' := by
  intro σ a w' G hx r
  obtain ⟨prs, p1, p2, p3, p4⟩ := ret_ok r hr hx
  exact ⟨r.defers, _, p2, prs, p1, rfl, p3, p4, r.fr⟩
 split at hrun
 ·rename_i σ e
  exact den_sound hT hm mc hc e r0 fun a w' G r => fin hrun r
 ·rename_i σ e
  exact den_sound hT hm mc hc e r0 fun a w' G r => fin hrun r
 ·cases hrun
end
end Go.Am
end
section
namespace Go.Am
end Go.Am
end
