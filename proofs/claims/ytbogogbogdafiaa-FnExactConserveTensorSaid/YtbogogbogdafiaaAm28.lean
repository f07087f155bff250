/- Am28: functions that change lists of their arguments: what is said of them, and how it follows from their code. No condition. -/
import Derived.Test.YtbogogbogdafiaaAm27
set_option linter.unusedVariables false
namespace Go.Am
def argCells : Nat → List (Option Mode) → List C → List ACell
 | c, some _ :: fs, .list sz xs :: cs => .sl (PIN + c) sz 0 xs.length :: argCells (c + 1) fs cs
 | c, some _ :: fs, x :: cs => .junk :: argCells (c + 1) fs cs
 | c, none :: fs, x :: cs => .c x :: argCells c fs cs
 | c, [], cs => cs.map .c
 | c, _ :: _, [] => []
def argM (c : Nat) (s : List (Option Mode)) : Dv → AVal
 | (.one, xs) => match argCells c s xs with
  | [x] => .one x
  | _ => .one .junk
 | (.agg, xs) => .agg (argCells c s xs)
 | (.ptr, xs) => .one (.dptr xs 0)
def initEM : Nat → Nat → MSig → List Dv → (Nat → AVal)
 | _, _, _, [] => emptyEnv
 | k, c, [], d :: ds => upd (initEM (k + 1) c [] ds) k (argM c [] d)
 | k, c, s :: sig, d :: ds => upd (initEM (k + 1) (c + (fCells s d.2).length) sig ds) k (argM c s d)
def rowOf : Mode × C → Option Blk
 | (m, .list sz xs) => some (.row false m sz xs)
 | _ => none
def initSM (sig : MSig) (ds : List Dv) : St :=
 {env := initEM 0 0 sig ds
  h := fun n => if PIN ≤ n then ((fArgs sig (ds.map (·.2)))[n - PIN]?).bind rowOf else none
  used := fun n => Nat.ble PIN n }
def St.noPin (σ : St) : St := { σ with h := fun n => if PIN ≤ n then none else σ.h n }
def outOne (σ : St) (q : Nat) (x : Mode × C) : Option C :=
 match x.2, σ.h (PIN + q) with
 | .list sz xs, some (.row _ m' sz' xs') => if m' = x.1 ∧ sz' = sz ∧ xs'.length = xs.length ∧ flatOk x.1 xs' = true ∧ xs'.map (fun e => e.map C.isLB) = xs.map (fun e => e.map C.isLB) then some (.list sz xs') else none
 | _, _ => none
def outAll (σ : St) : Nat → List (Mode × C) → Option (List C)
 | _, [] => some []
 | q, x :: l => match outOne σ q x, outAll σ (q + 1) l with
  | some y, some ys => some (y :: ys)
  | _, _ => none
def St.retM (σ : St) (ms : List MRes) (fl : List (Mode × C)) : Option (List Dv × List C) :=
 match σ.noPin.retF ms, outAll σ 0 fl with
 | some rs, some outs => some (rs, outs)
 | _, _ => none
def runM (T : Tab) (mc : MCode) (res : List MRes) (sig : MSig) (ds : List Dv) : Option (List Dv × List C) :=
 match den T mc (initSM sig ds) with
 | some (.nrm σ) => σ.retM res (fArgs sig (ds.map (·.2)))
 | some (.ret σ) => σ.retM res (fArgs sig (ds.map (·.2)))
 | _ => none
section
variable {B : Nat} {E : Ex} {w0 w w' : World} {G G' : Gh} {N : Nat} {h h' : Nat → Option Blk} {used : Nat → Bool}
variable {P : Program} {T : Tab} {a : Act} {σ σ' : St} {Q : Exit → Act → World → Prop}
def pbOf : PC → PB
 | .list _ a cap [] => ⟨true, 0, 0, cap, [], a⟩
 | .list _ (some a) cap (e :: xs) => ⟨false, a.block, a.off, cap, e :: xs, none⟩
 | _ => default
theorem pbOf_nil (sz : Nat) (a : Option Addr) (cap : Nat) : pbOf (.list sz a cap []) = ⟨true, 0, 0, cap, [], a⟩ := by
 cases a <;> rfl
theorem pbOf_cons {sz b o cap : Nat} {xs : List (List PC)} (h : xs ≠ []) : pbOf (.list sz (some (ad b o)) cap xs) = ⟨false, b, o, cap, xs, none⟩ := by
 cases xs with
 | nil => exact absurd rfl h
 | cons e xs => rfl
theorem Good.cases {w : World} {sz cap : Nat} {a : Option Addr} {xs : List (List PC)} (h : Good w (.list sz a cap xs)) : xs = [] ∨ (xs ≠ [] ∧ xs.length ≤ cap ∧ ∃ b o, a = some (ad b o)) := by
 cases h with
 | nil _ _ _ h => exact .inl rfl
 | cons _ b o _ _ h1 h2 => exact .inr ⟨h1, h2, b, o, rfl⟩
def exM (fl : List (Mode × PC)) : Ex :=
 ⟨fun b => ∃ x ∈ fl, InF b x.2, fun n => if PIN ≤ n then (fl[n - PIN]?).map fun x => pbOf x.2 else none, fun n p h => (by
  by_cases hn : PIN ≤ n
  ·exact hn
  ·rw [if_neg hn] at h; cases h), fun _ => True⟩
def ghostM (w : World) (fl : List (Mode × PC)) : Gh :=
 ⟨fun b => b < w.heap.size ∧ ¬ ∃ x ∈ fl, InF b x.2, fun n => match fl[n - PIN]? with | some x => pbOf x.2 | none => default⟩
def heapM (fl : List (Mode × PC)) : Nat → Option Blk := fun n => if PIN ≤ n then ((fl.map fun x => (x.1, x.2.er))[n - PIN]?).bind rowOf else none
theorem heapM_some {fl : List (Mode × PC)} {n : Nat} {blk : Blk} (hn : heapM fl n = some blk) : PIN ≤ n ∧ ∃ m sz a cap xs, fl[n - PIN]? = some (m, .list sz a cap xs) ∧ blk = .row false m sz (xs.map fun e => e.map PC.er) := by
 unfold heapM at hn
 split at hn
 ·rename_i hp
  refine ⟨hp, ?_⟩
  rw [List.getElem?_map] at hn
  cases hf : fl[n - PIN]? with
  | none => rw [hf] at hn; cases hn
  | some x =>
   rw [hf] at hn
   obtain ⟨m, pc⟩ := x
   cases pc with
   | int k i => simp [PC.er, rowOf] at hn
   | bool b => simp [PC.er, rowOf] at hn
   | list sz a cap xs =>
    simp [PC.er_list, rowOf] at hn
    exact ⟨m, sz, a, cap, xs, rfl, hn.symm⟩
 ·cases hn
theorem InT.top (b o sz cap : Nat) (xs : List (List PC)) (hc : cap ≠ 0) : InT b (.list sz (some (ad b o)) cap xs) := .inr ⟨_, _, _, _, rfl, hc⟩
theorem InT.row {b sz : Nat} {a : Option Addr} {cap : Nat} {xs : List (List PC)} (h : RowF b xs) : InT b (.list sz a cap xs) := by
 obtain ⟨k, j, c, hk, hc⟩ := h
 exact .inl (.there _ _ _ _ k j c hk hc)
theorem Sep.row {sz : Nat} {a : Option Addr} {cap : Nat} {xs : List (List PC)} (h : Sep (.list sz a cap xs)) : RowSep xs := by
 cases h with
 | list _ _ _ _ h1 h2 h3 => exact ⟨h1, h3⟩
theorem Good.rowAt {sz b o cap : Nat} {xs : List (List PC)} (h : Good w (.list sz (some (ad b o)) cap xs)) : RowAt w b o sz xs := by
 generalize hq : PC.list sz (some (ad b o)) cap xs = q at h
 cases h with
 | int k n => cases hq
 | bool b => cases hq
 | nil sz' a cap' h0 =>
  injection hq with h1 h2 h3 h4
  subst h4
  exact ⟨by simp, by rintro k j c ⟨e, he, _⟩; simp at he, by rintro k j c ⟨e, he, _⟩; simp at he⟩
 | cons sz' b' o' cap' xs' h1 h2 h3 h4 h5 h6 =>
  injection hq with e1 e2 e3 e4
  injection e2 with e2
  obtain ⟨rfl, rfl⟩ := ad_inj e2
  subst e1 e3 e4
  exact ⟨h4, h5, h6⟩
theorem HR.initM {fl : List (Mode × PC)} (hg : ∀ x ∈ fl, Good w x.2) (hok : ∀ x ∈ fl, MOk w x.1 x.2) (hdis : fl.Pairwise fun x y => ∀ b, InF b x.2 → ¬ InF b y.2) :
  HR w.heap.size (exM fl) w (ghostM w fl) (heapM fl) (fun n => Nat.ble PIN n) [] := by
 have dis : ∀ {i j : Nat} {x y : Mode × PC}, fl[i]? = some x → fl[j]? = some y → i ≠ j → ∀ b, InF b x.2 → ¬ InF b y.2 := by
  intro i j x y hi hj hij b hb hb'
  obtain ⟨li, ei⟩ := List.getElem?_eq_some_iff.1 hi
  obtain ⟨lj, ej⟩ := List.getElem?_eq_some_iff.1 hj
  rw [List.pairwise_iff_getElem] at hdis
  subst ei
  subst ej
  rcases Nat.lt_or_gt_of_ne hij with h | h
  ·exact hdis i j li lj h b hb hb'
  ·exact hdis j i lj li h b hb' hb
 have gg : ∀ {n : Nat} {x : Mode × PC}, fl[n - PIN]? = some x → (ghostM w fl).g n = pbOf x.2 := by intro n x h; simp only [ghostM, h]
 have top : ∀ {x : Mode × PC}, x ∈ fl → (pbOf x.2).nl = false → InF (pbOf x.2).b x.2 := by
  intro x hx hl
  obtain ⟨sz, a, cap, xs, e, _, _, _⟩ := (hok x hx).lies
  have hgx := hg x hx
  rw [e] at hl hgx ⊢
  rcases hgx.cases with rfl | ⟨hne, _, b, o, rfl⟩
  ·rw [pbOf_nil] at hl; cases hl
  ·rw [pbOf_cons hne]; exact .here _ _ _ _ hne
 have rowT : ∀ {x : Mode × PC}, x ∈ fl → ∀ b, RowF b (pbOf x.2).px → InF b x.2 := by
  intro x hx b hb
  obtain ⟨sz, a, cap, xs, e, _, _, _⟩ := (hok x hx).lies
  have hgx := hg x hx
  rw [e] at hb hgx ⊢
  rcases hgx.cases with rfl | ⟨hne, _, b, o, rfl⟩
  ·rw [pbOf_nil] at hb
   obtain ⟨k, j, c, ⟨e, he, _⟩, _⟩ := hb
   simp at he
  ·rw [pbOf_cons hne] at hb
   obtain ⟨k, j, c, hk, hc⟩ := hb
   exact .there _ _ _ _ k j c hk hc
 have sub : ∀ {n n' : Nat}, PIN ≤ n → PIN ≤ n' → n ≠ n' → n - PIN ≠ n' - PIN := by intro n n' h1 h2 h3; omega
 refine ⟨fun n hn => ?_, fun m cs c n hm => ?_, fun n cs hn => ?_, fun n gr m sz xs hn => ?_, fun n hn hl => ?_, fun n n' hn hn' hne hl hl' => ?_, fun b hb => hb.1, fun b _ => .inr (.inr trivial), fun n n' gr m sz xs gr' m' sz' xs' hn hn' _ _ hne b hb => ?_,
  fun n gr sz xs hn b hb n' hn' hl' => ?_, (by intro i pc hi; simp at hi), (by intro i j pc pc' b _ hi; simp at hi), (by intro i pc n gr m sz xs b hi; simp at hi)⟩
 ·cases hh : heapM fl n with
  | none => exact absurd hh hn
  | some b => exact Nat.ble_eq_true_of_le (heapM_some hh).1
 ·obtain ⟨_, m', sz, a, cap, xs, _, e⟩ := heapM_some hm; cases e
 ·obtain ⟨_, m', sz, a, cap, xs, _, e⟩ := heapM_some hn; cases e
 ·obtain ⟨hp, m', sz', a, cap, xs', hf, e⟩ := heapM_some hn
  injection e with e1 e2 e3 e4
  subst e1 e2 e3 e4
  have hx : (m, PC.list sz a cap xs') ∈ fl := List.mem_of_getElem? hf
  have ok := hok _ hx
  have good := hg _ hx
  obtain ⟨sz2, a2, cap2, xs2, e, hpos, hnot, hflat⟩ := ok.lies
  injection e with e1 e2 e3 e4
  subst e1 e2 e3 e4
  rw [gg hf]
  have rowx : ∀ b, RowF b xs' → InF b (PC.list sz a cap xs') := fun b ⟨k, j, c, hk, hc⟩ => .there _ _ _ _ k j c hk hc
  have hmode : ModeOk w.heap.size (exM fl) w (ghostM w fl) xs' m := by
   have hsep := Sep.row ok.sep
   cases m with
   | bor => cases hflat
   | froz => exact ⟨fun b hb => absurd hb (scalRow hflat b), hsep⟩
   | live => exact ⟨fun b hb => ⟨fun hi => hi.2 ⟨_, hx, rowx b hb⟩, ok.un b (rowx b hb), .inr ⟨_, hx, rowx b hb⟩⟩, hsep⟩
  rcases good.cases with rfl | ⟨hne, hcap, b, o, rfl⟩
  ·rw [pbOf_nil]
   exact ⟨hpos, rfl, fun _ => ⟨rfl, fun h => by cases h⟩, (fun h => by cases h), (fun h => by cases h), hmode⟩
  ·rw [pbOf_cons hne]
   exact ⟨hpos, rfl, (fun h => by cases h), fun _ => ⟨ok.un b (.here _ _ _ _ hne), Good.rowAt good, hcap⟩, (fun _ h => by cases h), hmode⟩
 ·cases hh : heapM fl n with
  | none => exact absurd hh hn
  | some blk =>
   obtain ⟨hp, m', sz', a, cap, xs', hf, e⟩ := heapM_some hh
   have hx : (m', PC.list sz' a cap xs') ∈ fl := List.mem_of_getElem? hf
   rw [gg hf] at hl ⊢
   have ht := top hx hl
   exact ⟨fun hi => hi.2 ⟨_, hx, ht⟩, .inr ⟨_, hx, ht⟩, ((hok _ hx).un _ ht).lt⟩
 ·cases hh : heapM fl n with
  | none => exact absurd hh hn
  | some blk =>
   cases hh' : heapM fl n' with
   | none => exact absurd hh' hn'
   | some blk' =>
    obtain ⟨hp, m1, sz1, a1, cap1, xs1, hf, _⟩ := heapM_some hh
    obtain ⟨hp', m2, sz2, a2, cap2, xs2, hf', _⟩ := heapM_some hh'
    rw [gg hf] at hl ⊢
    rw [gg hf'] at hl' ⊢
    intro he
    exact dis hf hf' (sub hp hp' hne) _ (top (List.mem_of_getElem? hf) hl) (he ▸ top (List.mem_of_getElem? hf') hl')
 ·obtain ⟨hp, m1, sz1, a1, cap1, xs1, hf, _⟩ := heapM_some hn
  obtain ⟨hp', m2, sz2, a2, cap2, xs2, hf', _⟩ := heapM_some hn'
  rw [gg hf] at hb
  rw [gg hf']
  exact fun hb' => dis hf hf' (sub hp hp' hne) b (rowT (List.mem_of_getElem? hf) b hb) (rowT (List.mem_of_getElem? hf') b hb')
 ·obtain ⟨hp, m1, sz1, a1, cap1, xs1, hf, _⟩ := heapM_some hn
  rw [gg hf] at hb
  cases hh' : heapM fl n' with
  | none => exact absurd hh' hn'
  | some blk' =>
   obtain ⟨hp', m2, sz2, a2, cap2, xs2, hf', _⟩ := heapM_some hh'
   rw [gg hf'] at hl' ⊢
   rintro rfl
   by_cases hne : n = n'
   ·subst hne
    rw [hf] at hf'
    injection hf' with hf'
    injection hf' with _ hf'
    injection hf' with q1 q2 q3 q4
    subst q1 q2 q3 q4
    have hm := List.mem_of_getElem? hf
    obtain ⟨sz, a, cap, xs, e, _, hnot, _⟩ := (hok _ hm).lies
    have hgx := hg _ hm
    injection e with e1 e2 e3 e4
    subst e1 e2 e3 e4
    rcases hgx.cases with rfl | ⟨hne, _, b, o, rfl⟩
    ·rw [pbOf_nil] at hl'; cases hl'
    ·rw [pbOf_cons hne] at hb
     exact hnot b o rfl hb
   ·exact dis hf hf' (sub hp hp' hne) _ (rowT (List.mem_of_getElem? hf) _ hb) (top (List.mem_of_getElem? hf') hl')
end
end Go.Am