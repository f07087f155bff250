/- S7: typed functions as a whole. No condition. -/
import Derived.Test.YtfoplfdfpanglaaS6
set_option linter.unusedVariables false
namespace Go.Am

def sargV (k : K) (ts : List Ty) (x : Ty.DL ts) : SV :=
  match k with
  | .one => match Ty.cells ts x with
    | [c] => .one c
    | _ => .one .junk
  | .agg => .agg (Ty.cells ts x)
  | .ptr => .one (.dptr ts x 0)

theorem sargV_er (k : K) (ts : List Ty) (x : Ty.DL ts) : (sargV k ts x).er = argV (k, Ty.erL ts x) := by
  cases k with
  | one =>
    match ts, x with
    | [], x => rfl
    | [t], x => rfl
    | t :: u :: [], x => rfl
    | t :: u :: v :: ts, x => rfl
  | agg => simp only [sargV, SV.er, argV, Ty.cells_er]
  | ptr => rfl

def sinitE : Nat → (as : Sig) → DLL as.tys → (Nat → SV)
  | _, [], _ => fun _ => .one .junk
  | k, [a], x => upd (fun _ => .one .junk) k (sargV a.1 a.2 x)
  | k, a :: b :: as, x => upd (sinitE (k + 1) (b :: as) x.2) k (sargV a.1 a.2 x.1)

theorem sinitE_er : ∀ (k : Nat) (as : Sig) (x : DLL as.tys), erE (sinitE k as x) = initE k (erA as x)
  | k, [], x => rfl
  | k, [a], x => by
    have e : (sargV a.1 a.2 x).er = argV (a.1, Ty.erL a.2 x) := sargV_er a.1 a.2 x
    simp only [sinitE, erA, initE, erE_upd]
    rw [e]
    rfl
  | k, a :: b :: as, x => by
    have ih := sinitE_er (k + 1) (b :: as) x.2
    simp only [sinitE, erA, erE_upd, sargV_er, ih]
    rw [initE]

def sinit (as : Sig) (x : DLL as.tys) : SSt := { env := sinitE 0 as x, h := fun _ => none, used := fun n => Nat.ble PIN n }

theorem sinit_er (as : Sig) (x : DLL as.tys) : (sinit as x).er = initS (erA as x) := by
  simp only [sinit, SSt.er, initS, sinitE_er]
  rfl

section
variable {ρ : Type}

def sresV (σ : SSt) : List MRes → (List SV → Option ρ) → Option ρ
  | [], k => k []
  | .tmp t :: ms, k => sresV σ ms fun vs => k (σ.env t :: vs)
  | .cell t sz ag :: ms, k => match σ.env t with
    | .one p => sload σ.h p sz fun cs => sresV σ ms fun vs => k (toS ag cs :: vs)
    | _ => none

theorem sresV_ok {σ : SSt} : ∀ {ms : List MRes} {k : List SV → Option ρ} {r : ρ}, sresV σ ms k = some r → ∃ vs, σ.er.resV ms = some (vs.map SV.er) ∧ k vs = some r
  | [], k, r, h => ⟨[], rfl, h⟩
  | .tmp t :: ms, k, r, h => by
    simp only [sresV] at h
    obtain ⟨vs, h1, h2⟩ := sresV_ok h
    exact ⟨_, by simp only [St.resV, h1]; rfl, h2⟩
  | .cell t sz ag :: ms, k, r, h => by
    simp only [sresV] at h
    split at h
    · rename_i p hp
      obtain ⟨cs, h1, h2⟩ := sload_ok h
      obtain ⟨vs, h3, h4⟩ := sresV_ok h2
      have hp' : σ.er.env t = .one p.er := by show (σ.env t).er = _; rw [hp]; rfl
      have h1' : loadAt σ.er.h p.er sz = some (cs.map SC.er) := h1
      exact ⟨_, by simp only [St.resV, hp', h1', h3, List.map_cons, toS_er], h4⟩
    · cases h

def sretC (h : Nat → Option SB) (c : SC) (k : (t : Ty) → t.D → List Nat → Option ρ) : Option ρ :=
  match c with
  | .v t x => onB t.scal (k t x [])
  | .nil ts => match ts with
    | [] => none
    | t :: us => k (.list (t :: us)) ([] : List (Ty.DL (t :: us))) []
  | .sl n sz lo len => match h n with
    | some (.row true m ts xs) => onEq ts.length sz (onB m.own (onEq lo 0 ((takI xs len).bnd fun ys => k (.list ts) ys [n])))
    | _ => none
  | _ => none

theorem sretC_ok {h : Nat → Option SB} {c : SC} {k : (t : Ty) → t.D → List Nat → Option ρ} {r : ρ} (hx : sretC h c k = some r) :
    ∃ (t : Ty) (x : t.D) (ns : List Nat), retC (erH h) c.er = some (t.er x, ns) ∧ k t x ns = some r := by
  unfold sretC at hx
  split at hx
  · rename_i t x
    have h1 := (onB_some hx).1; replace hx := (onB_some hx).2
    exact ⟨t, x, [], by simp only [SC.er, retC, Ty.scal_er, h1, if_true], hx⟩
  · split at hx
    · cases hx
    · rename_i t us
      exact ⟨.list (t :: us), [], [], by simp [SC.er, retC, Ty.er], hx⟩
  · rename_i n sz lo len
    split at hx
    · rename_i m ts xs hn
      have he_ := (onEq_some hx).1; replace hx := (onEq_some hx).2; subst he_
      have hm := (onB_some hx).1; replace hx := (onB_some hx).2
      have he_ := (onEq_some hx).1; replace hx := (onEq_some hx).2; subst he_
      rw [bnd_some] at hx
      obtain ⟨ys, hw, hx⟩ := hx
      obtain ⟨w1, w2⟩ := tak_er hw
      refine ⟨.list ts, ys, [n], ?_, hx⟩
      have hm' : m ≠ .bor := by rintro rfl; cases hm
      simp only [SC.er, retC, erH, hn, Option.map_some, SB.er, List.length_map, w1, w2, ne_eq, hm', not_false_eq_true, and_self, if_true, Ty.er]
    · cases hx
  · cases hx

def sretL (h : Nat → Option SB) : List SC → (List TD → List Nat → Option ρ) → Option ρ
  | [], k => k [] []
  | c :: cs, k => sretC h c fun t x ns => sretL h cs fun l ns' => k (⟨t, x⟩ :: l) (ns ++ ns')

theorem sretL_ok {h : Nat → Option SB} : ∀ {cs : List SC} {k : List TD → List Nat → Option ρ} {r : ρ}, sretL h cs k = some r →
    ∃ l ns, retL (erH h) (cs.map SC.er) = some (erD l, ns) ∧ k l ns = some r
  | [], k, r, hx => ⟨[], [], rfl, hx⟩
  | c :: cs, k, r, hx => by
    simp only [sretL] at hx
    obtain ⟨t, x, ns, h1, h2⟩ := sretC_ok hx
    obtain ⟨l, ns', h3, h4⟩ := sretL_ok h2
    exact ⟨⟨t, x⟩ :: l, ns ++ ns', by simp [retL, h1, h3, erD], h4⟩

def kOf : Bool → K
  | true => .agg
  | false => .one

def sretDs (h : Nat → Option SB) : List SV → (List SDv → List Nat → Option ρ) → Option ρ
  | [], k => k [] []
  | v :: vs, k => match v.cells? with
    | some (ag, cs) => sretL h cs fun l ns => sretDs h vs fun ds ns' => k ((kOf ag, l) :: ds) (ns ++ ns')
    | none => none

theorem sretDs_ok {h : Nat → Option SB} : ∀ {vs : List SV} {k : List SDv → List Nat → Option ρ} {r : ρ}, sretDs h vs k = some r →
    ∃ ds ns, retDs (erH h) (vs.map SV.er) = some (ds.map SDv.er, ns) ∧ k ds ns = some r
  | [], k, r, hx => ⟨[], [], rfl, hx⟩
  | v :: vs, k, r, hx => by
    simp only [sretDs] at hx
    split at hx
    · rename_i ag cs hc
      obtain ⟨l, ns, h1, h2⟩ := sretL_ok hx
      obtain ⟨ds, ns', h3, h4⟩ := sretDs_ok h2
      refine ⟨_, _, ?_, h4⟩
      simp only [List.map_cons, retDs, SV.cells_er hc, h1, h3]
      cases ag <;> rfl
    · cases hx
end

def nodupB : List Nat → Bool
  | [] => true
  | n :: l => !(l.contains n) && nodupB l

theorem nodupB_ok : ∀ {l : List Nat}, nodupB l = true → l.Nodup
  | [], _ => List.nodup_nil
  | n :: l, h => by
    simp only [nodupB, Bool.and_eq_true, Bool.not_eq_true'] at h
    rw [List.nodup_cons]
    refine ⟨fun hm => ?_, nodupB_ok h.2⟩
    have : l.contains n = true := by simpa using hm
    rw [this] at h
    cases h.1

def sretF (σ : SSt) (ms : List MRes) (res : Sig) : Option (DLL res.tys) :=
  sresV σ ms fun vs => sretDs σ.h vs fun ds ns => onB (nodupB ns) (mkDLL res ds)

theorem sretF_ok {σ : SSt} {ms : List MRes} {res : Sig} {y : DLL res.tys} (h : sretF σ ms res = some y) : σ.er.retF ms = some (erA res y) := by
  unfold sretF at h
  obtain ⟨vs, h1, h2⟩ := sresV_ok h
  obtain ⟨ds, ns, h3, h4⟩ := sretDs_ok h2
  have h5 := (onB_some h4).1; replace h6 := (onB_some h4).2
  have h3' : retDs σ.er.h (vs.map SV.er) = some (ds.map SDv.er, ns) := h3
  simp only [St.retF, h1, h3', if_pos (nodupB_ok h5), mkDLL_er h6]

/-- A function's typed model. -/
def runS (N : Nat) (T : List SFn) (sc : SCode) (ms : List MRes) (args res : Sig) (x : DLL args.tys) : Option (DLL res.tys) :=
  sden N T sc (sinit args x) (fun σ => sretF σ ms res) (fun _ _ => none) (fun σ => sretF σ ms res)

theorem runS_ok {T : List SFn} {sc : SCode} {ms : List MRes} {args res : Sig} {x : DLL args.tys} {y : DLL res.tys} (h : runS FUEL T sc ms args res x = some y) :
    runF (tabOf T) sc.er ms (erA args x) = some (erA res y) := by
  obtain ⟨o, h1, h2⟩ := sden_ok sc h
  rw [sinit_er] at h1
  unfold runF
  rw [h1]
  cases o with
  | nrm τ =>
    obtain ⟨τs, rfl, h2⟩ := h2
    exact sretF_ok h2
  | ret τ =>
    obtain ⟨τs, rfl, h2⟩ := h2
    exact sretF_ok h2
  | ext i τ =>
    obtain ⟨τs, rfl, h2⟩ := h2
    cases h2

theorem erA_len : ∀ (as : Sig) (x : DLL as.tys), (erA as x).length = as.length
  | [], _ => rfl
  | [a], _ => rfl
  | a :: b :: as, x => by simp only [erA, List.length_cons, erA_len (b :: as) x.2]

/-! ### functions that change lists of their arguments -/

section
variable {ρ : Type}

end

/-- A function is as its typed model says. -/
def SOk1 (P : Program) (fn : SFn) : Prop := (fn.mu = [] → PureSpec P fn.id fn.M) ∧ (fn.mu ≠ [] → MutSpec P fn.id fn.mu fn.MM) ∧ chkFun P fn.id = true

/-- The functions of a table are as they say. -/
def SOk (P : Program) (T : List SFn) : Prop := ∀ fn ∈ T, SOk1 P fn

theorem SOk.nil {P : Program} : SOk P [] := fun _ h => by cases h
theorem SOk.cons1 {P : Program} {fn : SFn} {T : List SFn} (h : SOk1 P fn) (hT : SOk P T) : SOk P (fn :: T) := by
  intro g hg
  cases hg with
  | head => exact h
  | tail _ hg => exact hT g hg

theorem SOk.cons {P : Program} {f : FuncId} {args res : Sig} {F : DLL args.tys → Option (DLL res.tys)} {T : List SFn} (h : PureSpec P f (SFn.M ⟨f, args, [], res, F⟩) ∧ chkFun P f = true) (hT : SOk P T) : SOk P (⟨f, args, [], res, F⟩ :: T) :=
  SOk.cons1 ⟨fun _ => h.1, fun hm => absurd rfl hm, h.2⟩ hT

theorem tab_find : ∀ {T : List SFn} {f : FuncId} {M : List Dv → Option (List Dv)}, Tab.find (tabOf T).pure f = some M → ∃ fn ∈ T, fn.id = f ∧ M = fn.M ∧ fn.mu = []
  | [], f, M, h => by simp [tabOf, Tab.find] at h
  | g :: l, f, M, h => by
    simp only [tabOf, List.filterMap_cons] at h
    cases hg : g.mu with
    | nil =>
      simp only [hg, Tab.find] at h
      split at h
      · rename_i e
        injection h with h
        exact ⟨g, by simp, e.symm, h.symm, hg⟩
      · obtain ⟨fn, h1, h2, h3⟩ := tab_find (T := l) h
        exact ⟨fn, by simp [h1], h2, h3⟩
    | cons s sig =>
      simp only [hg] at h
      obtain ⟨fn, h1, h2, h3⟩ := tab_find (T := l) h
      exact ⟨fn, by simp [h1], h2, h3⟩

theorem tab_findM : ∀ {T : List SFn} {f : FuncId} {sig : MSig} {M : List Dv → Option (List Dv × List C)}, Tab.findM (tabOf T).muts f = some (sig, M) → ∃ fn ∈ T, fn.id = f ∧ sig = fn.mu ∧ M = fn.MM ∧ fn.mu ≠ []
  | [], f, sig, M, h => by simp [tabOf, Tab.findM] at h
  | g :: l, f, sig, M, h => by
    simp only [tabOf, List.filterMap_cons] at h
    cases hg : g.mu with
    | nil =>
      simp only [hg] at h
      obtain ⟨fn, h1, h2, h3⟩ := tab_findM (T := l) h
      exact ⟨fn, by simp [h1], h2, h3⟩
    | cons s sg =>
      simp only [hg, Tab.findM] at h
      split at h
      · rename_i e
        injection h with h
        injection h with ha hb
        exact ⟨g, by simp, e.symm, ha.symm.trans hg.symm, hb.symm, by rw [hg]; simp⟩
      · obtain ⟨fn, h1, h2, h3⟩ := tab_findM (T := l) h
        exact ⟨fn, by simp [h1], h2, h3⟩

theorem SOk.tok {P : Program} {T : List SFn} (hT : SOk P T) : TOk P (tabOf T) := by
  refine ⟨fun g M hM => ?_, fun g sig M hM => ?_, fun g M hM => ?_⟩
  · obtain ⟨fn', h1, h2, h3, h4⟩ := tab_find hM
    subst h2 h3
    exact (hT fn' h1).1 h4
  · obtain ⟨fn', h1, h2, h3, h4, h5⟩ := tab_findM hM
    subst h2 h3 h4
    exact (hT fn' h1).2.1 h5
  · obtain ⟨fn', h1, h2, h3, h4⟩ := tab_find hM
    subst h2
    exact (hT fn' h1).2.2

/-- The checks on a function's code, for the kernel. -/
def chkS (P : Program) (f : FuncId) (mc : MCode) (ms : List MRes) (n : Nat) : Bool :=
  match P.funcs[f]? with
  | some fn => match fn.body with
    | some c => chkCode P fn.ntmps c mc && chkRes P fn.results.toList ms && decide (n ≤ fn.ntmps) && (fn.name != "runtime.NumGoroutine")
    | none => false
  | none => false

theorem chkS_fun {P : Program} {f : FuncId} {mc : MCode} {ms : List MRes} {n : Nat} (h : chkS P f mc ms n = true) : chkFun P f = true := by
  unfold chkS at h
  unfold chkFun
  split at h
  · rename_i fn hf
    split at h
    · rename_i c hb
      simp only [Bool.and_eq_true] at h
      simp [hf, hb, h.2]
    · cases h
  · cases h

/-- A typed function that the typed evaluator refines is what the call does. -/
theorem pure_of_runS {P : Program} {T : List SFn} (hT : SOk P T) (hm : P.follows .mixedOrders = true) {f : FuncId} {sc : SCode} {ms : List MRes} {args res : Sig} (hc : chkS P f sc.er ms args.length = true)
    (F : DLL args.tys → Option (DLL res.tys)) (hF : ∀ x y, F x = some y → runS FUEL T sc ms args res x = some y) : PureSpec P f (SFn.M ⟨f, args, [], res, F⟩) ∧ chkFun P f = true := by
  refine ⟨?_, chkS_fun hc⟩
  unfold chkS at hc
  split at hc
  · rename_i fn hf
    split at hc
    · rename_i c hb
      simp only [Bool.and_eq_true, decide_eq_true_eq] at hc
      refine pure_of_den (T := tabOf T) hT.tok hm hf hb hc.1.1.1 hc.1.1.2 fun ds rs hM => ?_
      obtain ⟨x, y, h1, h2, h3⟩ := SFn.M_some hM
      subst h1 h3
      exact ⟨by rw [erA_len]; exact hc.1.2, runS_ok (hF x y h2)⟩
    · cases hc
  · cases hc

end Go.Am
