/- S3: typed functions, and one operation of the typed evaluator. No condition. -/
import Derived.Test.YtbogogbogdafiaaS2
set_option linter.unusedVariables false
set_option linter.unusedSimpArgs false
namespace Go.Am
def DLL : List (List Ty) → Type
 | [] => Unit
 | ts :: l => match l with
  | [] => Ty.DL ts
  | us :: l' => Ty.DL ts × DLL (us :: l')
abbrev Sig := List (K × List Ty)
abbrev Sig.tys (s : Sig) : List (List Ty) := s.map (·.2)
def erA : (as : Sig) → DLL as.tys → List Dv
 | [], _ => []
 | [a], x => [(a.1, Ty.erL a.2 x)]
 | a :: b :: as, x => (a.1, Ty.erL a.2 x.1) :: erA (b :: as) x.2
def datsA : (as : Sig) → DLL as.tys → List SDv
 | [], _ => []
 | [a], x => [(a.1, Ty.dats a.2 x)]
 | a :: b :: as, x => (a.1, Ty.dats a.2 x.1) :: datsA (b :: as) x.2
theorem datsA_er : ∀ (as : Sig) (x : DLL as.tys), (datsA as x).map SDv.er = erA as x
 | [], _ => rfl
 | [a], x => congrArg (fun l => [((a.1, l) : Dv)]) (Ty.dats_er a.2 x)
 | a :: b :: as, x => by
  have := datsA_er (b :: as) x.2
  simp only [datsA, erA, List.map_cons, SDv.er, Ty.dats_er, this]
def K.beq : K → K → Bool
 | .one, .one => true
 | .agg, .agg => true
 | .ptr, .ptr => true
 | _, _ => false
theorem K.beq_eq {a b : K} (h : K.beq a b = true) : a = b := by cases a <;> cases b <;> first | rfl | cases h
def consDLL (ts : List Ty) : (l : List (List Ty)) → Ty.DL ts → DLL l → DLL (ts :: l)
 | [], x, _ => x
 | _ :: _, x, y => (x, y)
theorem erA_cons (a : K × List Ty) : ∀ (as : Sig) (x : Ty.DL a.2) (y : DLL (Sig.tys as)), erA (a :: as) (consDLL a.2 (Sig.tys as) x y) = (a.1, Ty.erL a.2 x) :: erA as y
 | [], _, _ => rfl
 | _ :: _, _, _ => rfl
def mkDLL : (as : Sig) → List SDv → Option (DLL as.tys)
 | [], [] => some ()
 | a :: as, d :: ds => onB (K.beq a.1 d.1) (match mkDL a.2 d.2, mkDLL as ds with
  | some x, some y => some (consDLL a.2 (Sig.tys as) x y)
  | _, _ => none)
 | _, _ => none
theorem mkDLL_er : ∀ {as : Sig} {ds : List SDv} {x : DLL as.tys}, mkDLL as ds = some x → ds.map SDv.er = erA as x
 | [], [], x, h => rfl
 | a :: as, d :: ds, x, h => by
  simp only [mkDLL] at h
  have h1 := (onB_some h).1; replace h2 := (onB_some h).2
  split at h2
  ·rename_i y z e1 e2
   injection h2 with h2
   subst h2
   rw [erA_cons, List.map_cons, mkDLL_er e2, SDv.er, ← K.beq_eq h1, ← mkDL_er e1]
  ·cases h2
 | [], _ :: _, x, h => by simp [mkDLL] at h
 | a :: as, [], x, h => by simp [mkDLL] at h
mutual
theorem Ty.er_inj : ∀ (t : Ty) (x y : t.D), t.er x = t.er y → x = y
 | .int k, x, y, h => by simp only [Ty.er] at h; injection h
 | .bool, x, y, h => by simp only [Ty.er] at h; injection h
 | .list ts, x, y, h => by simp only [Ty.er] at h; injection h with _ h; exact Ty.erLs_inj ts x y h
theorem Ty.erLs_inj : ∀ (ts : List Ty) (xs ys : List (Ty.DL ts)), List.map (Ty.erL ts) xs = List.map (Ty.erL ts) ys → xs = ys
 | ts, [], [], h => rfl
 | ts, x :: xs, y :: ys, h => by
  simp only [List.map_cons, List.cons.injEq] at h
  rw [Ty.erL_inj ts x y h.1, Ty.erLs_inj ts xs ys h.2]
 | ts, [], _ :: _, h => by simp at h
 | ts, _ :: _, [], h => by simp at h
theorem Ty.erL_inj : ∀ (ts : List Ty) (x y : Ty.DL ts), Ty.erL ts x = Ty.erL ts y → x = y
 | [], x, y, h => rfl
 | [t], x, y, h => by simp only [Ty.erL, List.cons.injEq, and_true] at h; exact Ty.er_inj t x y h
 | t :: u :: ts, x, y, h => by
  simp only [Ty.erL, List.cons.injEq] at h
  exact Prod.ext (Ty.er_inj t x.1 y.1 h.1) (Ty.erL_inj (u :: ts) x.2 y.2 h.2)
end
theorem erA_inj : ∀ (as : Sig) (x y : DLL as.tys), erA as x = erA as y → x = y
 | [], x, y, h => rfl
 | [a], x, y, h => by simp [erA] at h; exact Ty.erL_inj a.2 x y h
 | a :: b :: as, x, y, h => by
  simp only [erA, List.cons.injEq, Prod.mk.injEq, true_and] at h
  exact Prod.ext (Ty.erL_inj a.2 x.1 y.1 h.1) (erA_inj (b :: as) x.2 y.2 h.2)
structure SFn where
 id : FuncId
 args : Sig
 mu : MSig
 res : Sig
 F : DLL args.tys → Option (DLL res.tys)
open Classical in
noncomputable def SFn.M (fn : SFn) (ds : List Dv) : Option (List Dv) :=
 if h : ∃ x, erA fn.args x = ds then (fn.F h.choose).map (erA fn.res) else none
theorem SFn.M_er (fn : SFn) (x : DLL fn.args.tys) : fn.M (erA fn.args x) = (fn.F x).map (erA fn.res) := by
 have h : ∃ y, erA fn.args y = erA fn.args x := ⟨x, rfl⟩
 unfold SFn.M
 rw [dif_pos h, erA_inj _ _ _ h.choose_spec]
theorem SFn.M_some {fn : SFn} {ds rs : List Dv} (h : fn.M ds = some rs) : ∃ x y, ds = erA fn.args x ∧ fn.F x = some y ∧ rs = erA fn.res y := by
 unfold SFn.M at h
 split at h
 ·rename_i e
  rw [Option.map_eq_some_iff] at h
  obtain ⟨y, h1, h2⟩ := h
  exact ⟨_, y, e.choose_spec.symm, h1, h2.symm⟩
 ·cases h
def MSig.cnt : MSig → Nat
 | [] => 0
 | s :: l => (s.filter Option.isSome).length + MSig.cnt l
def splitO (k : Nat) (rs : List Dv) : List Dv × List C := (rs.take k, (rs.drop k).flatMap (·.2))
noncomputable def SFn.MM (fn : SFn) (ds : List Dv) : Option (List Dv × List C) := (fn.M ds).map (splitO (fn.res.length - fn.mu.cnt))
def MSig.knd : MSig → Nat
 | [] => 0
 | [[some .bor]] => 2
 | [some .bor, some .bor] :: _ => 3
 | _ => 1
def hasPtr : Sig → Bool
 | [] => false
 | (.ptr, _) :: _ => true
 | _ :: as => hasPtr as
def ncur (as : Sig) : Nat := match hasPtr as with
 | true => 1
 | false => 0
noncomputable def SFn.MV (fn : SFn) (ds : List Dv) : Option (List Dv × List C) := (fn.M ds).map (splitO (fn.res.length - ncur fn.args))
def wPair : List Dv → Option (Nat × Nat)
 | [(.one, [.int _ a]), (.one, [.int _ b])] => some (a.toNat, (b - a).toNat)
 | _ => none
noncomputable def SFn.MW (fn : SFn) (ds : List Dv) : Option (Nat × Nat) := (fn.M ds).bind wPair
noncomputable def tabOf (T : List SFn) : Tab :=
 ⟨T.filterMap fun fn => match fn.mu.knd with | 0 => some (fn.id, fn.M) | _ => none, T.filterMap fun fn => match fn.mu.knd with | 1 => some (fn.id, fn.mu, fn.MM) | _ => none,
  T.filterMap fun fn => match fn.mu.knd with | 2 => some (fn.id, fn.MV) | _ => none, T.filterMap fun fn => match fn.mu.knd with | 3 => some (fn.id, fn.mu.tl, fn.MW) | _ => none⟩
def SFn.find : List SFn → FuncId → Option SFn
 | [], _ => none
 | fn :: l, f => match Nat.beq f fn.id with
  | true => some fn
  | false => SFn.find l f
theorem SFn.find_some : ∀ {T : List SFn} {f : FuncId} {fn : SFn}, SFn.find T f = some fn → fn.mu.knd = 0 → Tab.find (tabOf T).pure f = some fn.M
 | [], f, fn, h, _ => by simp [SFn.find] at h
 | g :: l, f, fn, h, hm => by
  simp only [SFn.find] at h
  split at h
  ·rename_i e
   injection h with h
   subst h
   simp only [tabOf, List.filterMap_cons, hm, Tab.find]
   rw [if_pos (Nat.eq_of_beq_eq_true e)]
  ·rename_i e
   have ih : Tab.find (tabOf l).pure f = some fn.M := SFn.find_some h hm
   simp only [tabOf, List.filterMap_cons] at ih ⊢
   by_cases hg : g.mu.knd = 0
   ·simp only [hg, Tab.find]
    rw [if_neg (fun he => by rw [he, Nat.beq_refl] at e; cases e)]
    exact ih
   ·split
    ·exact ih
    ·rename_i z hz
     split at hz
     ·rename_i h0; exact absurd h0 hg
     ·cases hz
theorem SFn.findM_some : ∀ {T : List SFn} {f : FuncId} {fn : SFn}, SFn.find T f = some fn → fn.mu.knd = 1 → Tab.findM (tabOf T).muts f = some (fn.mu, fn.MM)
 | [], f, fn, h, _ => by simp [SFn.find] at h
 | g :: l, f, fn, h, hm => by
  simp only [SFn.find] at h
  split at h
  ·rename_i e
   injection h with h
   subst h
   simp only [tabOf, List.filterMap_cons, hm, Tab.findM]
   rw [if_pos (Nat.eq_of_beq_eq_true e)]
  ·rename_i e
   have ih : Tab.findM (tabOf l).muts f = some (fn.mu, fn.MM) := SFn.findM_some h hm
   simp only [tabOf, List.filterMap_cons] at ih ⊢
   by_cases hg : g.mu.knd = 1
   ·simp only [hg, Tab.findM]
    rw [if_neg (fun he => by rw [he, Nat.beq_refl] at e; cases e)]
    exact ih
   ·split
    ·exact ih
    ·rename_i z hz
     split at hz
     ·rename_i h0; exact absurd h0 hg
     ·cases hz
theorem SFn.findV_some : ∀ {T : List SFn} {f : FuncId} {fn : SFn}, SFn.find T f = some fn → fn.mu.knd = 2 → Tab.findV (tabOf T).vs f = some fn.MV
 | [], f, fn, h, _ => by simp [SFn.find] at h
 | g :: l, f, fn, h, hm => by
  simp only [SFn.find] at h
  split at h
  ·rename_i e
   injection h with h
   subst h
   simp only [tabOf, List.filterMap_cons, hm, Tab.findV]
   rw [if_pos (Nat.eq_of_beq_eq_true e)]
  ·rename_i e
   have ih : Tab.findV (tabOf l).vs f = some fn.MV := SFn.findV_some h hm
   simp only [tabOf, List.filterMap_cons] at ih ⊢
   by_cases hg : g.mu.knd = 2
   ·simp only [hg, Tab.findV]
    rw [if_neg (fun he => by rw [he, Nat.beq_refl] at e; cases e)]
    exact ih
   ·split
    ·exact ih
    ·rename_i z hz
     split at hz
     ·rename_i h0; exact absurd h0 hg
     ·cases hz
theorem SFn.findW_some : ∀ {T : List SFn} {f : FuncId} {fn : SFn}, SFn.find T f = some fn → fn.mu.knd = 3 → Tab.findW (tabOf T).ws f = some (fn.mu.tl, fn.MW)
 | [], f, fn, h, _ => by simp [SFn.find] at h
 | g :: l, f, fn, h, hm => by
  simp only [SFn.find] at h
  split at h
  ·rename_i e
   injection h with h
   subst h
   simp only [tabOf, List.filterMap_cons, hm, Tab.findW]
   rw [if_pos (Nat.eq_of_beq_eq_true e)]
  ·rename_i e
   have ih : Tab.findW (tabOf l).ws f = some (fn.mu.tl, fn.MW) := SFn.findW_some h hm
   simp only [tabOf, List.filterMap_cons] at ih ⊢
   by_cases hg : g.mu.knd = 3
   ·simp only [hg, Tab.findW]
    rw [if_neg (fun he => by rw [he, Nat.beq_refl] at e; cases e)]
    exact ih
   ·split
    ·exact ih
    ·rename_i z hz
     split at hz
     ·rename_i h0; exact absurd h0 hg
     ·cases hz
def simp_ (m : Mode) (σ : SSt) : Nat → List TD → Option (List SC × Nat × SSt)
 | nm, [] => some ([], nm, σ)
 | nm, ⟨t, x⟩ :: cs => match t, x with
  | .list ts, xs => match σ.ins nm (.row true m ts xs) with
   | some σ1 => match simp_ m σ1 (nm + 1) cs with
    | some (l, nm', σ2) => some (.sl nm ts.length 0 (lenN (α := Ty.DL ts) xs) :: l, nm', σ2)
    | none => none
   | none => none
  | .int k, x => match simp_ m σ nm cs with
   | some (l, nm', σ2) => some (.v (.int k) x :: l, nm', σ2)
   | none => none
  | .bool, x => match simp_ m σ nm cs with
   | some (l, nm', σ2) => some (.v .bool x :: l, nm', σ2)
   | none => none
theorem simp_ok (m : Mode) : ∀ {cs : List TD} {σ σ1 : SSt} {nm nm' : Nat} {l : List SC}, simp_ m σ nm cs = some (l, nm', σ1) →
  σ.er.imp m nm (erD cs) = some (l.map SC.er, nm', σ1.er)
 | [], σ, σ1, nm, nm', l, h => by
  simp only [simp_] at h
  injection h with h
  injection h with h1 h2
  injection h2 with h2 h3
  subst h1 h2 h3
  rfl
 | ⟨.list ts, xs⟩ :: cs, σ, σ2, nm, nm', l, h => by
  simp only [simp_] at h
  split at h
  ·rename_i σ1 e1
   split at h
   ·rename_i l' nm2 σ3 e2
    injection h with h
    injection h with h1 h2
    injection h2 with h2 h3
    subst h1 h2 h3
    have i1 : σ.er.ins nm (.row true m ts.length (List.map (Ty.erL ts) xs)) = some σ1.er := SSt.er_ins e1
    have i2 := simp_ok m e2
    simp only [erD] at i2
    simp only [erD, List.map_cons, Ty.er, St.imp, i1, i2, SC.er]
    exact congrArg (fun q => some (ACell.sl nm ts.length 0 q :: List.map SC.er l', nm2, σ3.er)) (List.length_map (Ty.erL ts))
   ·cases h
  ·cases h
 | ⟨.int k, x⟩ :: cs, σ, σ2, nm, nm', l, h => by
  simp only [simp_] at h
  split at h
  ·rename_i l' nm2 σ3 e2
   injection h with h
   injection h with h1 h2
   injection h2 with h2 h3
   subst h1 h2 h3
   have i2 := simp_ok m e2
   simp only [erD] at i2
   simp only [erD, List.map_cons, Ty.er, St.imp, i2, SC.er]
  ·cases h
 | ⟨.bool, x⟩ :: cs, σ, σ2, nm, nm', l, h => by
  simp only [simp_] at h
  split at h
  ·rename_i l' nm2 σ3 e2
   injection h with h
   injection h with h1 h2
   injection h2 with h2 h3
   subst h1 h2 h3
   have i2 := simp_ok m e2
   simp only [erD] at i2
   simp only [erD, List.map_cons, Ty.er, St.imp, i2, SC.er]
  ·cases h
def K.isAgg : K → Bool
 | .agg => true
 | _ => false
def K.isPtr : K → Bool
 | .ptr => true
 | _ => false
def simps (m : Mode) (σ : SSt) : Nat → List SDv → Option (List (Bool × List SC) × SSt)
 | _, [] => some ([], σ)
 | nm, (k, cs) :: ds => match k.isPtr with
  | true => none
  | false => match simp_ m σ nm cs with
   | some (l, nm', σ1) => match simps m σ1 nm' ds with
    | some (ls, σ2) => some ((k.isAgg, l) :: ls, σ2)
    | none => none
   | none => none
theorem simps_ok (m : Mode) : ∀ {ds : List SDv} {σ σ1 : SSt} {nm : Nat} {ls : List (Bool × List SC)}, simps m σ nm ds = some (ls, σ1) →
  σ.er.imps m nm (ds.map SDv.er) = some (ls.map (fun x => (x.1, x.2.map SC.er)), σ1.er)
 | [], σ, σ1, nm, ls, h => by
  simp only [simps] at h
  injection h with h
  injection h with h1 h2
  subst h1 h2
  rfl
 | (k, cs) :: ds, σ, σ2, nm, ls, h => by
  simp only [simps] at h
  split at h
  ·cases h
  ·rename_i hk
   split at h
   ·rename_i l nm' σ1 e1
    split at h
    ·rename_i ls' σ3 e2
     injection h with h
     injection h with h1 h2
     subst h1 h2
     have i1 := simp_ok m e1
     have i2 := simps_ok m e2
     have i2' : σ1.er.imps m nm' (List.map SDv.er ds) = some (ls'.map (fun x => (x.1, x.2.map SC.er)), σ3.er) := i2
     cases k with
     | ptr => cases hk
     | one => simp only [List.map_cons, SDv.er, St.imps, i1, i2']; rfl
     | agg => simp only [List.map_cons, SDv.er, St.imps, i1, i2']; rfl
    ·cases h
   ·cases h
def sres1 : List (Bool × List SC) → SV
 | [(ag, cs)] => toS ag cs
 | l => .tup l
theorem sres1_er (l : List (Bool × List SC)) : (sres1 l).er = res1 (l.map fun x => (x.1, x.2.map SC.er)) := by
 match l with
 | [] => rfl
 | [(ag, cs)] => exact toS_er ag cs
 | _ :: _ :: _ => rfl
section
variable {ρ : Type}
def sdoCall (T : List SFn) (m : Mode) (d : Option Nat) (f : FuncId) (as : List SV) (σ : SSt) (k : SSt → Option ρ) : Option ρ :=
 match SFn.find T f with
 | some fn => match fn.mu.knd with
  | 0 => sviewAs σ.h as fun ds => match mkDLL fn.args ds with
   | some x => (fn.F x).bnd fun rs => match simps m σ (nameOf d) (datsA fn.res rs) with
    | some (ls, σ1) => k (σ1.put d (sres1 ls))
    | none => none
   | none => none
  | _ => none
 | none => none
theorem sdoCall_ok {T : List SFn} {m : Mode} {d : Option Nat} {f : FuncId} {as : List SV} {σ : SSt} {k : SSt → Option ρ} {r : ρ} (h : sdoCall T m d f as σ k = some r) :
  ∃ σ1 : SSt, doCall (tabOf T) m d f (as.map SV.er) σ.er = some σ1.er ∧ k σ1 = some r := by
 unfold sdoCall at h
 split at h
 ·rename_i fn hf
  split at h
  ·rename_i hmu
   obtain ⟨ds, h1, h2⟩ := sviewAs_ok h
   split at h2
   ·rename_i x hx
    rw [bnd_some] at h2
    obtain ⟨rs, hF, h2⟩ := h2
    split at h2
    ·rename_i ls σ1 hs
     refine ⟨_, ?_, h2⟩
     have e := simps_ok m hs
     rw [datsA_er] at e
     have hv : viewAs σ.er.h (as.map SV.er) = some (ds.map SDv.er) := h1
     simp only [doCall, hv, SFn.find_some hf hmu, mkDLL_er hx, SFn.M_er, hF, Option.map_some, e, SSt.er_put, sres1_er]
    ·cases h2
   ·cases h2
  ·cases h
 ·cases h
def sdats : List SDv → Option (List (Bool × List SC))
 | [] => some []
 | (k, cs) :: ds => match k.isPtr with
  | true => none
  | false => match sdats ds with
   | some ls => some ((k.isAgg, cs.map fun x => SC.v x.1 x.2) :: ls)
   | none => none
theorem sdats_ok : ∀ {ds : List SDv} {ls : List (Bool × List SC)}, sdats ds = some ls → datsV (ds.map SDv.er) = some (ls.map fun x => (x.1, x.2.map SC.er))
 | [], ls, h => by simp only [sdats] at h; injection h with h; subst h; rfl
 | (k, cs) :: ds, ls, h => by
  simp only [sdats] at h
  split at h
  ·cases h
  ·rename_i hk
   split at h
   ·rename_i ls' e
    injection h with h
    subst h
    have i2 := sdats_ok e
    have ec : (erD cs).map ACell.c = (cs.map fun x => SC.v x.1 x.2).map SC.er := by simp [erD, SC.er]
    cases k with
    | ptr => cases hk
    | one => simp only [List.map_cons, SDv.er, datsV]; rw [show datsV (List.map SDv.er ds) = _ from i2]; simp only; rw [ec]; rfl
    | agg => simp only [List.map_cons, SDv.er, datsV]; rw [show datsV (List.map SDv.er ds) = _ from i2]; simp only; rw [ec]; rfl
   ·cases h
def sdoCallD (T : List SFn) (d : Option Nat) (f : FuncId) (as : List SV) (σ : SSt) (k : SSt → Option ρ) : Option ρ :=
 match SFn.find T f with
 | some fn => match fn.mu.knd with
  | 0 => sviewAs σ.h as fun ds => match mkDLL fn.args ds with
   | some x => (fn.F x).bnd fun rs => match sdats (datsA fn.res rs) with
    | some ls => k (σ.put d (sres1 ls))
    | none => none
   | none => none
  | _ => none
 | none => none
theorem sdoCallD_ok {T : List SFn} {d : Option Nat} {f : FuncId} {as : List SV} {σ : SSt} {k : SSt → Option ρ} {r : ρ} (h : sdoCallD T d f as σ k = some r) :
  ∃ v : SV, callDB (tabOf T) f (as.map SV.er) σ.er.h = some v.er ∧ k (σ.put d v) = some r := by
 unfold sdoCallD at h
 split at h
 ·rename_i fn hf
  split at h
  ·rename_i hmu
   obtain ⟨ds, h1, h2⟩ := sviewAs_ok h
   split at h2
   ·rename_i x hx
    rw [bnd_some] at h2
    obtain ⟨rs, hF, h2⟩ := h2
    split at h2
    ·rename_i ls hs
     refine ⟨_, ?_, h2⟩
     have e := sdats_ok hs
     rw [datsA_er] at e
     have hv : viewAs σ.er.h (as.map SV.er) = some (ds.map SDv.er) := h1
     simp only [callDB, hv, SFn.find_some hf hmu, mkDLL_er hx, SFn.M_er, hF, Option.map_some, e, sres1_er]
    ·cases h2
   ·cases h2
  ·cases h
 ·cases h
def Ty.dep2 : Ty → Bool
 | .list ts => Ty.scalL ts
 | _ => true
def tyFlat : Mode → List Ty → Bool
 | .froz, ts => Ty.scalL ts
 | .live, ts => ts.all Ty.dep2
 | .bor, _ => false
theorem scalLL_er' (ts : List Ty) (xs : List (Ty.DL ts)) (h : Ty.scalL ts = true) : scalLL (List.map (Ty.erL ts) xs) = true := by
 simp only [scalLL, List.all_eq_true, List.mem_map]
 rintro e ⟨x, _, rfl⟩
 rw [Ty.scalL_er]; exact h
theorem dep2_er (t : Ty) (x : t.D) (h : Ty.dep2 t = true) : C.dep2 (t.er x) = true := by
 cases t with
 | int k => rfl
 | bool => rfl
 | list ts => exact scalLL_er' ts x h
theorem dep2L_er : ∀ (ts : List Ty) (x : Ty.DL ts), ts.all Ty.dep2 = true → (Ty.erL ts x).all C.dep2 = true
 | [], _, _ => rfl
 | [t], x, h => by
  simp only [List.all_cons, List.all_nil, Bool.and_true] at h
  simp only [Ty.erL, List.all_cons, List.all_nil, Bool.and_true]
  exact dep2_er t x h
 | t :: u :: ts, x, h => by
  simp only [List.all_cons (a := t), Bool.and_eq_true] at h
  simp only [Ty.erL, List.all_cons (a := Ty.er t x.1), Bool.and_eq_true]
  exact ⟨dep2_er t x.1 h.1, dep2L_er (u :: ts) x.2 h.2⟩
theorem flatOk_er (m : Mode) (ts : List Ty) (xs : List (Ty.DL ts)) (h : tyFlat m ts = true) : flatOk m (List.map (Ty.erL ts) xs) = true := by
 cases m with
 | bor => cases h
 | froz => exact scalLL_er' ts xs h
 | live =>
  simp only [flatOk, List.all_eq_true, List.mem_map]
  rintro e ⟨x, _, rfl⟩
  have := dep2L_er ts x h
  simpa [List.all_eq_true] using this
def Mode.isLive : Mode → Bool
 | .live => true
 | _ => false
def Mode.isFroz : Mode → Bool
 | .froz => true
 | _ => false
def smitem (h : Nat → Option SB) (md : Mode) (c : SC) (k : MIt → (t : Ty) → t.D → Option ρ) : Option ρ :=
 match c with
 | .nil ts => match ts with
  | [] => none
  | t :: us => onB md.own (k (.nil (us.length + 1)) (.list (t :: us)) ([] : List (Ty.DL (t :: us))))
 | .sl n sz lo len => match h n with
  | some (.row _ m ts xs) => onB (m.own && ((!md.isLive || m.isLive) && tyFlat md ts)) (onEq ts.length sz ((fulI lo len (lenN xs)).bnd fun _ => k (.row n) (.list ts) xs))
  | _ => none
 | .nsl n kk rsz off sz len => match h n with
  | some (.row _ .live ts xs) => onB md.isFroz (onEq ts.length rsz ((getN xs kk).bnd fun e => match (Ty.dats ts e)[off]? with
    | some ⟨.list us, ys⟩ => onB (Ty.scalL us) (k (.nest n kk off) (.list us) ys)
    | _ => none))
  | _ => none
 | _ => none
theorem smitem_ok {h : Nat → Option SB} {md : Mode} {c : SC} {k : MIt → (t : Ty) → t.D → Option ρ} {r : ρ} (hx : smitem h md c k = some r) :
  ∃ (it : MIt) (t : Ty) (x : t.D), mitem (erH h) md c.er = some (it, t.er x) ∧ k it t x = some r := by
 unfold smitem at hx
 split at hx
 ·split at hx
  ·cases hx
  ·rename_i t us
   have hm := (onB_some hx).1; replace hx := (onB_some hx).2
   refine ⟨_, .list (t :: us), [], ?_, hx⟩
   have hm' : md ≠ .bor := by rintro rfl; cases hm
   simp [SC.er, mitem, Ty.er, hm']
 ·rename_i n sz lo len
  split at hx
  ·rename_i gr m ts xs hn
   have hm := (onB_some hx).1; replace hx := (onB_some hx).2
   have he_ := (onEq_some hx).1; replace hx := (onEq_some hx).2; subst he_
   rw [bnd_some] at hx
   obtain ⟨_, hf, hx⟩ := hx
   have hf2 : lo = 0 ∧ len = lenN xs := by
    unfold fulI at hf
    split at hf
    ·assumption
    ·cases hf
   obtain ⟨rfl, rfl⟩ := hf2
   simp only [Bool.and_eq_true] at hm
   have hm' : m ≠ .bor := by rintro rfl; cases hm.1
   have hlv : md = .live → m = .live := by
    rintro rfl
    have := hm.2.1
    cases m <;> first | rfl | (simp [Mode.isLive] at this)
   refine ⟨_, .list ts, xs, ?_, hx⟩
   simp only [SC.er, mitem, erH, hn, Option.map_some, SB.er, Ty.er]
   rw [if_pos ⟨hm', hlv, trivial, trivial, (List.length_map (Ty.erL ts)).symm, flatOk_er md ts xs hm.2.2⟩]
  ·cases hx
 ·rename_i n kk rsz off sz len
  split at hx
  ·rename_i gr ts xs hn
   have hm := (onB_some hx).1; replace hx := (onB_some hx).2
   have he_ := (onEq_some hx).1; replace hx := (onEq_some hx).2; subst he_
   rw [bnd_some] at hx
   obtain ⟨e, he, hx⟩ := hx
   replace he : xs[kk]? = some e := he
   split at hx
   ·rename_i us ys hd
    have hs := (onB_some hx).1; replace hx := (onB_some hx).2
    refine ⟨_, .list us, ys, ?_, hx⟩
    have hmd : md = .froz := by cases md <;> first | rfl | (simp [Mode.isFroz] at hm)
    have hget := dats_get hd
    simp only [SC.er, mitem, erH, hn, Option.map_some, SB.er, List.getElem?_map, he, Option.bind_some, hget, Ty.er, hmd, and_self, if_true]
    rw [if_pos (scalLL_er' us ys hs)]
   ·cases hx
  ·cases hx
 ·cases hx
def SC.nm : SC → List Nat
 | .sl n _ _ _ => [n]
 | .nsl n _ _ _ _ _ => [n]
 | _ => []
theorem SC.nm_er (c : SC) : c.er.name?.toList = c.nm := by cases c <;> rfl
def smnames : List (Option Mode) → List SC → List Nat
 | some _ :: fs, c :: cs => c.nm ++ smnames fs cs
 | none :: fs, _ :: cs => smnames fs cs
 | _, _ => []
theorem smnames_er : ∀ (fs : List (Option Mode)) (cs : List SC), mnames fs (cs.map SC.er) = smnames fs cs
 | some m :: fs, c :: cs => by simp only [List.map_cons, mnames, smnames, SC.nm_er, smnames_er fs cs]
 | none :: fs, c :: cs => by simp only [List.map_cons, mnames, smnames, smnames_er fs cs]
 | [], cs => by cases cs <;> rfl
 | some m :: fs, [] => rfl
 | none :: fs, [] => rfl
def smnamesA : MSig → List (Bool × List SC) → List Nat
 | s :: sig, a :: as => smnames s a.2 ++ smnamesA sig as
 | _, _ => []
theorem smnamesA_er : ∀ (sig : MSig) (as : List (Bool × List SC)), mnamesA sig (as.map fun x => (x.1, x.2.map SC.er)) = smnamesA sig as
 | s :: sig, a :: as => by simp only [List.map_cons, mnamesA, smnamesA, smnames_er, smnamesA_er sig as]
 | [], as => by cases as <;> rfl
 | s :: sig, [] => rfl
def shwo (h : Nat → Option SB) (ns : List Nat) : Nat → Option SB := fun n => match ns.contains n with | true => none | false => h n
theorem shwo_er (h : Nat → Option SB) (ns : List Nat) : erH (shwo h ns) = hwo (erH h) ns := by
 funext n
 simp only [erH, shwo, hwo]
 cases hc : ns.contains n <;> simp [hc]
def smcells (h h0 : Nat → Option SB) : List (Option Mode) → List SC → (List TD → List (MIt × Mode) → Option ρ) → Option ρ
 | [], cs, k => sviewL h0 cs fun l => k l []
 | none :: fs, c :: cs, k => sviewC h0 c fun t x => smcells h h0 fs cs fun l its => k (⟨t, x⟩ :: l) its
 | some md :: fs, c :: cs, k => smitem h md c fun it t x => smcells h h0 fs cs fun l its => k (⟨t, x⟩ :: l) ((it, md) :: its)
 | _ :: _, [], _ => none
theorem smcells_ok {h h0 : Nat → Option SB} : ∀ {fs : List (Option Mode)} {cs : List SC} {k : List TD → List (MIt × Mode) → Option ρ} {r : ρ}, smcells h h0 fs cs k = some r →
  ∃ l its, mcells (erH h) (erH h0) fs (cs.map SC.er) = some (erD l, its) ∧ k l its = some r
 | [], cs, k, r, hx => by
  simp only [smcells] at hx
  obtain ⟨l, h1, h2⟩ := sviewL_ok hx
  exact ⟨l, [], by simp only [mcells, h1], h2⟩
 | none :: fs, c :: cs, k, r, hx => by
  simp only [smcells] at hx
  obtain ⟨t, x, h1, h2⟩ := sviewC_ok hx
  obtain ⟨l, its, h3, h4⟩ := smcells_ok h2
  exact ⟨⟨t, x⟩ :: l, its, by simp only [List.map_cons, mcells, h1, h3, erD], h4⟩
 | some md :: fs, c :: cs, k, r, hx => by
  simp only [smcells] at hx
  obtain ⟨it, t, x, h1, h2⟩ := smitem_ok hx
  obtain ⟨l, its, h3, h4⟩ := smcells_ok h2
  exact ⟨⟨t, x⟩ :: l, (it, md) :: its, by simp only [List.map_cons, mcells, h1, h3, erD], h4⟩
 | none :: fs, [], k, r, hx => by simp [smcells] at hx
 | some md :: fs, [], k, r, hx => by simp [smcells] at hx
def kOfB : Bool → K
 | true => .agg
 | false => .one
def smviews (h h0 : Nat → Option SB) : MSig → List (Bool × List SC) → (List SDv → List (MIt × Mode) → Option ρ) → Option ρ
 | _, [], k => k [] []
 | sig, (ag, cs) :: as, k => smcells h h0 sig.hd cs fun l its => smviews h h0 sig.tl as fun ds its' => k ((kOfB ag, l) :: ds) (its ++ its')
theorem smviews_ok {h h0 : Nat → Option SB} : ∀ {as : List (Bool × List SC)} {sig : MSig} {k : List SDv → List (MIt × Mode) → Option ρ} {r : ρ}, smviews h h0 sig as k = some r →
  ∃ ds its, mviews (erH h) (erH h0) sig (as.map fun x => (x.1, x.2.map SC.er)) = some (ds.map SDv.er, its) ∧ k ds its = some r
 | [], sig, k, r, hx => ⟨[], [], by simp only [List.map_nil, mviews], hx⟩
 | (ag, cs) :: as, sig, k, r, hx => by
  simp only [smviews] at hx
  obtain ⟨l, its, h1, h2⟩ := smcells_ok hx
  obtain ⟨ds, its', h3, h4⟩ := smviews_ok h2
  refine ⟨_, _, ?_, h4⟩
  simp only [List.map_cons, mviews, h1, h3, SDv.er]
  cases ag <;> rfl
def smArgs : List SV → Option (List (Bool × List SC))
 | [] => some []
 | v :: vs => match v.cells?, smArgs vs with
  | some x, some xs => some (x :: xs)
  | _, _ => none
theorem smArgs_ok : ∀ {as : List SV} {cas : List (Bool × List SC)}, smArgs as = some cas → mArgs (as.map SV.er) = some (cas.map fun x => (x.1, x.2.map SC.er))
 | [], cas, h => by simp only [smArgs] at h; injection h with h; subst h; rfl
 | v :: vs, cas, h => by
  simp only [smArgs] at h
  split at h
  ·rename_i x xs e1 e2
   injection h with h
   subst h
   obtain ⟨b, cs⟩ := x
   simp only [List.map_cons, mArgs, SV.cells_er e1, smArgs_ok e2]
  ·cases h
def setDL (ts : List Ty) (e : Ty.DL ts) (off : Nat) (x : TD) : Option (Ty.DL ts) := mkDL ts ((Ty.dats ts e).set off x)
theorem setDL_er {ts : List Ty} {e e' : Ty.DL ts} {off : Nat} {x : TD} (h : setDL ts e off x = some e') : Ty.erL ts e' = (Ty.erL ts e).set off (x.1.er x.2) := by
 have := mkDL_er h
 rw [this, erD, List.map_set, ← Ty.dats_er ts e]
 rfl
def sputOut (σ : SSt) (it : MIt) (x : TD) (k : SSt → Option ρ) : Option ρ :=
 match it with
 | .nil _ => k σ
 | .row n => match x with
  | ⟨.list ts, xs⟩ => match σ.h n with
   | some (.row gr m us _) => onEq us.length ts.length (k (σ.setB n (.row gr m ts xs)))
   | _ => none
  | _ => none
 | .nest n kk off => match σ.h n with
  | some (.row gr m us xs) => (getN xs kk).bnd fun e => match setDL us e off x with
   | some e' => k (σ.setB n (.row gr m us (setL xs kk e')))
   | none => none
  | _ => none
theorem sputOut_ok {σ : SSt} {it : MIt} {x : TD} {k : SSt → Option ρ} {r : ρ} (hx : sputOut σ it x k = some r) : ∃ σ1, σ.er.putOut it (x.1.er x.2) = some σ1.er ∧ k σ1 = some r := by
 unfold sputOut at hx
 split at hx
 ·exact ⟨σ, rfl, hx⟩
 ·rename_i n
  split at hx
  ·rename_i ts xs
   split at hx
   ·rename_i gr m us ys hn
    have he_ := (onEq_some hx).1; replace hx := (onEq_some hx).2
    refine ⟨_, ?_, hx⟩
    have hn' : σ.er.h n = some (.row gr m us.length (List.map (Ty.erL us) ys)) := by simp [SSt.er, erH, hn, SB.er]
    simp only [St.putOut, Ty.er, hn', he_, if_true, SSt.er_setB, SB.er]
   ·cases hx
  ·cases hx
 ·rename_i n kk off
  split at hx
  ·rename_i gr m us xs hn
   rw [bnd_some] at hx
   obtain ⟨e, he, hx⟩ := hx
   replace he : xs[kk]? = some e := he
   split at hx
   ·rename_i e' hs
    refine ⟨_, ?_, hx⟩
    have hn' : σ.er.h n = some (.row gr m us.length (List.map (Ty.erL us) xs)) := by simp [SSt.er, erH, hn, SB.er]
    simp only [St.putOut, hn', List.getElem?_map, he, Option.map_some, SSt.er_setB, SB.er, setL, List.map_set, setDL_er hs]
   ·cases hx
  ·cases hx
def sputOuts (σ : SSt) : List (MIt × Mode) → List TD → (SSt → Option ρ) → Option ρ
 | [], [], k => k σ
 | it :: its, x :: xs, k => sputOut σ it.1 x fun σ1 => sputOuts σ1 its xs k
 | _, _, _ => none
theorem sputOuts_ok : ∀ {its : List (MIt × Mode)} {xs : List TD} {σ : SSt} {k : SSt → Option ρ} {r : ρ}, sputOuts σ its xs k = some r → ∃ σ1, σ.er.putOuts its (erD xs) = some σ1.er ∧ k σ1 = some r
 | [], [], σ, k, r, hx => ⟨σ, rfl, hx⟩
 | it :: its, x :: xs, σ, k, r, hx => by
  simp only [sputOuts] at hx
  obtain ⟨σ1, h1, h2⟩ := sputOut_ok hx
  obtain ⟨σ2, h3, h4⟩ := sputOuts_ok h2
  refine ⟨σ2, ?_, h4⟩
  simp only [erD] at h3
  simp only [erD, List.map_cons, St.putOuts, h1, h3]
 | [], _ :: _, σ, k, r, hx => by simp [sputOuts] at hx
 | _ :: _, [], σ, k, r, hx => by simp [sputOuts] at hx
def nodupN : List Nat → Bool
 | [] => true
 | n :: l => !(l.contains n) && nodupN l
theorem nodupN_ok : ∀ {l : List Nat}, nodupN l = true → l.Nodup
 | [], _ => List.nodup_nil
 | n :: l, h => by
  simp only [nodupN, Bool.and_eq_true, Bool.not_eq_true'] at h
  rw [List.nodup_cons]
  refine ⟨fun hm => ?_, nodupN_ok h.2⟩
  have : l.contains n = true := by simpa using hm
  rw [this] at h
  cases h.1
def sdoCallM (T : List SFn) (m : Mode) (d : Option Nat) (f : FuncId) (as : List SV) (σ : SSt) (k : SSt → Option ρ) : Option ρ :=
 match SFn.find T f with
 | some fn => match fn.mu.knd with
  | 1 => match smArgs as with
   | some cas => onB (nodupN (smnamesA fn.mu cas)) (smviews σ.h (shwo σ.h (smnamesA fn.mu cas)) fn.mu cas fun ds its => match mkDLL fn.args ds with
     | some x => (fn.F x).bnd fun y => sputOuts σ its (((datsA fn.res y).drop (fn.res.length - fn.mu.cnt)).flatMap (·.2)) fun σ1 => match simps m σ1 (nameOf d) ((datsA fn.res y).take (fn.res.length - fn.mu.cnt)) with
      | some (ls, σ2) => k (σ2.put d (sres1 ls))
      | none => none
     | none => none)
   | none => none
  | _ => none
 | none => none
theorem splitO_er (k : Nat) (l : List SDv) : splitO k (l.map SDv.er) = ((l.take k).map SDv.er, erD ((l.drop k).flatMap (·.2))) := by
 simp only [splitO, ← List.map_take, ← List.map_drop]
 congr 1
 induction l.drop k with
 | nil => rfl
 | cons d l ih =>
  simp only [List.map_cons, List.flatMap_cons, ih, erD, List.map_append, SDv.er]
theorem sdoCallM_ok {T : List SFn} {m : Mode} {d : Option Nat} {f : FuncId} {as : List SV} {σ : SSt} {k : SSt → Option ρ} {r : ρ} (h : sdoCallM T m d f as σ k = some r) :
  ∃ σ1 : SSt, doCallM (tabOf T) m d f (as.map SV.er) σ.er = some σ1.er ∧ k σ1 = some r := by
 unfold sdoCallM at h
 split at h
 ·rename_i fn hf
  split at h
  ·rename_i hmu
   split at h
   ·rename_i cas hc
    have hnd := nodupN_ok (onB_some h).1; replace h := (onB_some h).2
    obtain ⟨ds, its, h1, h2⟩ := smviews_ok h
    split at h2
    ·rename_i x hx
     rw [bnd_some] at h2
     obtain ⟨y, hF, h2⟩ := h2
     obtain ⟨σ1, h3, h4⟩ := sputOuts_ok h2
     split at h4
     ·rename_i ls σ2 hs
      refine ⟨_, ?_, h4⟩
      have e := simps_ok m hs
      have hM : fn.MM (erA fn.args x) = some (((datsA fn.res y).take (fn.res.length - fn.mu.cnt)).map SDv.er, erD (((datsA fn.res y).drop (fn.res.length - fn.mu.cnt)).flatMap (·.2))) := by
       unfold SFn.MM
       rw [SFn.M_er, hF]
       simp only [Option.map_some]
       rw [← datsA_er, splitO_er]
      have hh : σ.er.h = erH σ.h := rfl
      rw [shwo_er] at h1
      simp only [doCallM, SFn.findM_some hf hmu, smArgs_ok hc, smnamesA_er, if_pos hnd, hh, h1, mkDLL_er hx, hM, h3, e, SSt.er_put, sres1_er]
     ·cases h4
    ·cases h2
   ·cases h
  ·cases h
 ·cases h
def simmL : List SC → Option (List TD)
 | [] => some []
 | .v t x :: cs => match simmL cs with
  | some l => some (⟨t, x⟩ :: l)
  | none => none
 | .nil (t :: us) :: cs => match simmL cs with
  | some l => some (⟨.list (t :: us), ([] : List (Ty.DL (t :: us)))⟩ :: l)
  | none => none
 | _ :: _ => none
theorem simmL_ok : ∀ {cs : List SC} {l : List TD}, simmL cs = some l → immL (cs.map SC.er) = some (erD l)
 | [], l, h => by simp only [simmL] at h; injection h with h; subst h; rfl
 | c :: cs, l, h => by
  unfold simmL at h
  split at h
  ·rename_i e; cases e
  ·rename_i t x cs' e
   injection e with e1 e2
   subst e1 e2
   split at h
   ·rename_i l' e
    injection h with h
    subst h
    simp only [List.map_cons, immL, SC.er, immC, simmL_ok e, erD]
   ·cases h
  ·rename_i t us cs' e
   injection e with e1 e2
   subst e1 e2
   split at h
   ·rename_i l' e
    injection h with h
    subst h
    simp [immL, SC.er, immC, simmL_ok e, erD, Ty.er]
   ·cases h
  ·cases h
def sbPtr (h : Nat → Option SB) (n kk off : Nat) : Option (List TD) :=
 match kk, off with
 | 0, 0 => match h n with
  | some (.box cs) => simmL cs
  | _ => none
 | _, _ => none
theorem sbPtr_ok {h : Nat → Option SB} {n kk sz off : Nat} {l : List TD} (e : sbPtr h n kk off = some l) : bPtr (erH h) (SV.er (.one (.ptr n kk sz off))) = some (n, erD l) := by
 unfold sbPtr at e
 split at e
 ·split at e
  ·rename_i cs hn
   simp [SV.er, SC.er, bPtr, erH, hn, SB.er, simmL_ok e]
  ·cases e
 ·cases e
def SV.ptr? : SV → Option (Nat × Nat × Nat)
 | .one (.ptr n kk _ off) => some (n, kk, off)
 | _ => none
theorem ptr?_none {v : SV} (h : v.ptr? = none) (hh : Nat → Option Blk) : bPtr hh v.er = none := by
 cases v with
 | one c => cases c <;> first | rfl | (simp [SV.ptr?] at h)
 | agg cs => rfl
 | tup xs => rfl
theorem ptr?_some {v : SV} {n kk off : Nat} (h : v.ptr? = some (n, kk, off)) : ∃ sz, v = .one (.ptr n kk sz off) := by
 cases v with
 | one c => cases c <;> simp [SV.ptr?] at h; obtain ⟨rfl, rfl, rfl⟩ := h; exact ⟨_, rfl⟩
 | agg cs => simp [SV.ptr?] at h
 | tup xs => simp [SV.ptr?] at h
def sbArgs (σ : SSt) : List SV → (List SDv → List Nat → SSt → Option ρ) → Option ρ
 | [], k => k [] [] σ
 | v :: vs, k => match v.ptr? with
  | some (n, kk, off) => match sbPtr σ.h n kk off with
   | some l => sbArgs σ vs fun ds ns σ1 => k ((.ptr, l) :: ds) (n :: ns) σ1
   | none => none
  | none => match v.cells? with
   | some (ag, cs) => stakeL σ cs fun l _ σ1 => sbArgs σ1 vs fun ds ns σ2 => k ((kOfB ag, l) :: ds) ns σ2
   | none => none
theorem sbArgs_ok : ∀ {vs : List SV} {σ : SSt} {k : List SDv → List Nat → SSt → Option ρ} {r : ρ}, sbArgs σ vs k = some r →
  ∃ ds ns σ1, σ.er.bArgs (vs.map SV.er) = some (ds.map SDv.er, ns, σ1.er) ∧ k ds ns σ1 = some r
 | [], σ, k, r, h => ⟨[], [], σ, rfl, h⟩
 | v :: vs, σ, k, r, h => by
  simp only [sbArgs] at h
  split at h
  ·rename_i n kk off hv
   obtain ⟨sz, rfl⟩ := ptr?_some hv
   split at h
   ·rename_i l hl
    obtain ⟨ds, ns, σ1, h1, h2⟩ := sbArgs_ok h
    refine ⟨_, _, σ1, ?_, h2⟩
    have := sbPtr_ok (sz := sz) hl
    have hh : σ.er.h = erH σ.h := rfl
    simp only [List.map_cons, St.bArgs, hh, this, h1, SDv.er]
   ·cases h
  ·rename_i hv
   split at h
   ·rename_i ag cs hc
    obtain ⟨l, o, σ1, h1, h2⟩ := stakeL_ok h
    obtain ⟨ds, ns, σ2, h3, h4⟩ := sbArgs_ok h2
    refine ⟨_, _, σ2, ?_, h4⟩
    simp only [List.map_cons, St.bArgs, ptr?_none hv, SV.cells_er hc, h1, h3, SDv.er]
    cases ag <;> rfl
   ·cases h
def sputB (σ : SSt) (ns : List Nat) (out : List TD) (k : SSt → Option ρ) : Option ρ :=
 match ns, out with
 | [], [] => k σ
 | [n], out => match σ.h n with
  | some (.box cs) => onEq cs.length out.length (k (σ.setB n (.box (out.map fun x => .v x.1 x.2))))
  | _ => none
 | _, _ => none
theorem vcells_er (out : List TD) : (out.map fun x => SC.v x.1 x.2).map SC.er = (erD out).map .c := by simp [erD, SC.er]
theorem sputB_ok {σ : SSt} {ns : List Nat} {out : List TD} {k : SSt → Option ρ} {r : ρ} (h : sputB σ ns out k = some r) : ∃ σ1, σ.er.putB ns (erD out) = some σ1.er ∧ k σ1 = some r := by
 unfold sputB at h
 split at h
 ·exact ⟨σ, rfl, h⟩
 ·rename_i n
  split at h
  ·rename_i cs hn
   have he := (onEq_some h).1; replace h := (onEq_some h).2
   refine ⟨_, ?_, h⟩
   have hn' : σ.er.h n = some (.box (cs.map SC.er)) := by simp [SSt.er, erH, hn, SB.er]
   simp only [St.putB, hn', List.length_map]
   rw [if_pos (by rw [he, erD, List.length_map]), SSt.er_setB, SB.er, vcells_er]
  ·cases h
 ·cases h
def SDv.ptr? : List SDv → Option (List TD)
 | [(.ptr, cs)] => some cs
 | _ => none
theorem sdvptr_some {rs : List SDv} {cs : List TD} (h : SDv.ptr? rs = some cs) : rs = [(.ptr, cs)] := by
 unfold SDv.ptr? at h
 split at h
 ·injection h with h; rw [h]
 ·cases h
def sbRes (σ : SSt) (d : Option Nat) (rs : List SDv) (k : SSt → Option ρ) : Option ρ :=
 match SDv.ptr? rs with
 | some cs => match d with
  | some q => match σ.ins q (.box (cs.map fun x => .v x.1 x.2)) with
   | some σ1 => k (σ1.put d (.one (.ptr q 0 0 0)))
   | none => none
  | none => none
 | none => match sdats rs with
  | some ls => k (σ.put d (sres1 ls))
  | none => none
theorem sbRes_ok {σ : SSt} {d : Option Nat} {rs : List SDv} {k : SSt → Option ρ} {r : ρ} (h : sbRes σ d rs k = some r) : ∃ σ1, bRes σ.er d (rs.map SDv.er) = some σ1.er ∧ k σ1 = some r := by
 unfold sbRes at h
 split at h
 ·rename_i cs hp
  have := sdvptr_some hp
  subst this
  split at h
  ·rename_i q
   split at h
   ·rename_i σ1 hi
    refine ⟨_, ?_, h⟩
    have e := SSt.er_ins hi
    rw [SB.er, vcells_er] at e
    simp only [List.map_cons, List.map_nil, SDv.er, bRes, e, SSt.er_put]
    rfl
   ·cases h
  ·cases h
 ·split at h
  ·rename_i ls hs
   refine ⟨_, ?_, h⟩
   have e := sdats_ok hs
   have hb : bRes σ.er d (rs.map SDv.er) = match datsV (rs.map SDv.er) with
     | some ls => some (σ.er.put d (res1 ls))
     | none => none := by
    unfold bRes
    split
    ·rename_i cs he
     rw [he] at e
     simp [datsV] at e
    ·rfl
   rw [hb, e, SSt.er_put, sres1_er]
  ·cases h
def sdoCallB (T : List SFn) (d : Option Nat) (f : FuncId) (as : List SV) (σ : SSt) (k : SSt → Option ρ) : Option ρ :=
 match SFn.find T f with
 | some fn => match fn.mu.knd with
  | 2 => sbArgs σ as fun ds ns σ1 => match mkDLL fn.args ds with
   | some x => (fn.F x).bnd fun y => sputB σ1 ns (((datsA fn.res y).drop (fn.res.length - ncur fn.args)).flatMap (·.2)) fun σ2 => sbRes σ2 d ((datsA fn.res y).take (fn.res.length - ncur fn.args)) k
   | none => none
  | _ => none
 | none => none
theorem sdoCallB_ok {T : List SFn} {d : Option Nat} {f : FuncId} {as : List SV} {σ : SSt} {k : SSt → Option ρ} {r : ρ} (h : sdoCallB T d f as σ k = some r) :
  ∃ σ1 : SSt, doCallB (tabOf T) d f (as.map SV.er) σ.er = some σ1.er ∧ k σ1 = some r := by
 unfold sdoCallB at h
 split at h
 ·rename_i fn hf
  split at h
  ·rename_i hmu
   obtain ⟨ds, ns, σ1, h1, h2⟩ := sbArgs_ok h
   split at h2
   ·rename_i x hx
    rw [bnd_some] at h2
    obtain ⟨y, hF, h2⟩ := h2
    obtain ⟨σ2, h3, h4⟩ := sputB_ok h2
    obtain ⟨σ3, h5, h6⟩ := sbRes_ok h4
    refine ⟨σ3, ?_, h6⟩
    have hM : fn.MV (erA fn.args x) = some (((datsA fn.res y).take (fn.res.length - ncur fn.args)).map SDv.er, erD (((datsA fn.res y).drop (fn.res.length - ncur fn.args)).flatMap (·.2))) := by
     unfold SFn.MV
     rw [SFn.M_er, hF]
     simp only [Option.map_some]
     rw [← datsA_er, splitO_er]
    simp only [doCallB, h1, SFn.findV_some hf hmu, mkDLL_er hx, hM, h3, h5]
   ·cases h2
  ·cases h
 ·cases h
def sdoCallW (T : List SFn) (d : Option Nat) (f : FuncId) (as : List SV) (σ : SSt) (k : SSt → Option ρ) : Option ρ :=
 match SFn.find T f with
 | some fn => match fn.mu.knd with
  | 3 => match smArgs as with
   | some cas => match smnamesA fn.mu.tl cas with
    | [n] => smviews σ.h (shwo σ.h [n]) fn.mu.tl cas fun ds its => match its with
     | [(.row n', _)] => onEq n' n (match σ.h n with
      | some (.row _ _ ts xs) => match mkDLL fn.args ds with
       | some x => (fn.F x).bnd fun y => match datsA fn.res y with
        | [(.one, [⟨.int _, a⟩]), (.one, [⟨.int _, b⟩])] => (sliI a b (lenN xs)).bnd fun p => k (σ.put d (.one (.sl n ts.length p.1 p.2)))
        | _ => none
       | none => none
      | _ => none)
     | _ => none
    | _ => none
   | none => none
  | _ => none
 | none => none
theorem sdoCallW_ok {T : List SFn} {d : Option Nat} {f : FuncId} {as : List SV} {σ : SSt} {k : SSt → Option ρ} {r : ρ} (h : sdoCallW T d f as σ k = some r) :
  ∃ v : SV, doCallW (tabOf T) f (as.map SV.er) σ.er.h = some v.er ∧ k (σ.put d v) = some r := by
 unfold sdoCallW at h
 split at h
 ·rename_i fn hf
  split at h
  ·rename_i hmu
   split at h
   ·rename_i cas hc
    split at h
    ·rename_i n hn
     obtain ⟨ds, its, h1, h2⟩ := smviews_ok h
     split at h2
     ·rename_i n' md
      have he := (onEq_some h2).1; replace h2 := (onEq_some h2).2
      subst he
      split at h2
      ·rename_i gr mo ts xs hrow
       split at h2
       ·rename_i x hx
        rw [bnd_some] at h2
        obtain ⟨y, hF, h2⟩ := h2
        split at h2
        ·rename_i ka a kb b hy
         rw [bnd_some] at h2
         obtain ⟨p, hs, h2⟩ := h2
         refine ⟨_, ?_, h2⟩
         unfold sliI at hs
         split at hs
         ·rename_i hcond
          injection hs with hs
          subst hs
          have hM : fn.MW (erA fn.args x) = some (Int.toNat a, Int.toNat (@HSub.hSub Int Int Int instHSub b a)) := by
           unfold SFn.MW
           rw [SFn.M_er, hF]
           simp only [Option.map_some, Option.bind_some]
           rw [← datsA_er, hy]
           rfl
          have hh : σ.er.h = erH σ.h := rfl
          have hn' : σ.er.h n' = some (.row gr mo ts.length (List.map (Ty.erL ts) xs)) := by simp [SSt.er, erH, hrow, SB.er]
          rw [shwo_er] at h1
          simp only [doCallW, SFn.findW_some hf hmu, smArgs_ok hc, smnamesA_er, hn, hh, h1, mkDLL_er hx, hM]
          rw [hh] at hn'
          simp only [hn', if_true]
          rfl
         ·cases hs
        ·cases h2
       ·cases h2
      ·cases h2
     ·cases h2
    ·cases h
   ·cases h
  ·cases h
 ·cases h
def sfrz (σ : SSt) (p : SC) (k : SSt → Option ρ) : Option ρ :=
 match p with
 | .ptr n _ _ _ => match σ.h n with
  | some (.box cs) => stakeL σ cs fun l _ σ1 => k (σ1.setB n (.box (l.map fun x => .v x.1 x.2)))
  | _ => none
 | _ => none
theorem sfrz_ok {σ : SSt} {p : SC} {k : SSt → Option ρ} {r : ρ} (h : sfrz σ p k = some r) : ∃ σ1, σ.er.frz p.er = some σ1.er ∧ k σ1 = some r := by
 unfold sfrz at h
 split at h
 ·rename_i n kk sz off
  split at h
  ·rename_i cs hn
   obtain ⟨l, o, σ1, h1, h2⟩ := stakeL_ok h
   refine ⟨_, ?_, h2⟩
   have hn' : σ.er.h n = some (.box (cs.map SC.er)) := by simp [SSt.er, erH, hn, SB.er]
   simp only [SC.er, St.frz, hn', h1]
   rw [SSt.er_setB, SB.er, vcells_er]
  ·cases h
 ·cases h
inductive SOp where
 | mv (x : SMO)
 | pick (c x y : SMO)
 | alloc (zs : List SC)
 | box (sz : Nat) (x : SMO)
 | build (zs : List SC) (parts : List (Nat × Nat × SMO))
 | bslice (ts : List Ty) (parts : List SMO)
 | load (ag : Bool) (sz : Nat) (x : SMO)
 | store (sz : Nat) (x v : SMO)
 | nilchk (x : SMO)
 | bin (op : BinOp) (x y : SMO)
 | binb (op : BinOp) (x y : SMO)
 | un (op : UnOp) (x : SMO)
 | conv (k : IntKind) (x : SMO)
 | mkslice (m : Mode) (ts : List Ty) (by_ : Nat) (z : Ty.DL ts) (l c : SMO)
 | slice (sz : Nat) (x : SMO) (lo hi : Option SMO)
 | tail (sz : Nat) (x lo : SMO)
 | loadd (ag : Bool) (sz : Nat) (x : SMO)
 | fieldA (off : Nat) (x : SMO)
 | idxA (sz : Nat) (x i : SMO)
 | ext (i : Nat) (x : SMO)
 | fld (ag : Bool) (off sz : Nat) (x : SMO)
 | rowm (f : FuncId) (col : Bool) (x : SMO)
 | len (x : SMO)
 | append (fl : Bool) (ts : List Ty) (by_ : Nat) (x y : SMO)
 | mm (mx : Bool) (x y : SMO)
 | call (m : Mode) (f : FuncId) (xs : List SMO)
 | calld (f : FuncId) (xs : List SMO)
 | copy (x y : SMO)
 | clr (t : Ty) (z : t.D) (x : SMO)
 | mkfn (f : FuncId) (xs : List SMO)
 | callv (m : Mode) (x : SMO) (xs : List SMO)
 | callm (m : Mode) (f : FuncId) (xs : List SMO)
 | callb (f : FuncId) (xs : List SMO)
 | callw (f : FuncId) (xs : List SMO)
def SOp.er : SOp → MOp
 | .mv x => .mv x.er
 | .pick c x y => .pick c.er x.er y.er
 | .alloc zs => .alloc (zs.map SC.er)
 | .box sz x => .box sz x.er
 | .build zs ps => .build (zs.map SC.er) (ps.map fun p => (p.1, p.2.1, p.2.2.er))
 | .bslice ts ps => .bslice ts.length (ps.map SMO.er)
 | .load ag sz x => .load ag sz x.er
 | .loadd ag sz x => .loadd ag sz x.er
 | .store sz x v => .store sz x.er v.er
 | .nilchk x => .nilchk x.er
 | .bin op x y => .bin op x.er y.er
 | .binb op x y => .binb op x.er y.er
 | .un op x => .un op x.er
 | .conv k x => .conv k x.er
 | .mkslice m ts by_ z l c => .mkslice m ts.length by_ (Ty.erL ts z) l.er c.er
 | .slice sz x lo hi => .slice sz x.er (lo.map SMO.er) (hi.map SMO.er)
 | .tail sz x lo => .tail sz x.er lo.er
 | .fieldA off x => .fieldA off x.er
 | .idxA sz x i => .idxA sz x.er i.er
 | .ext i x => .ext i x.er
 | .fld ag off sz x => .fld ag off sz x.er
 | .rowm f col x => .rowm f col x.er
 | .len x => .len x.er
 | .append fl ts by_ x y => .append fl ts.length by_ x.er y.er
 | .mm b x y => .mm b x.er y.er
 | .call m f xs => .call m f (xs.map SMO.er)
 | .calld f xs => .calld f (xs.map SMO.er)
 | .copy x y => .copy 1 x.er y.er
 | .clr t z x => .clr (t.er z) x.er
 | .mkfn f xs => .mkfn f (xs.map SMO.er)
 | .callv m x xs => .callv m x.er (xs.map SMO.er)
 | .callm m f xs => .callm m f (xs.map SMO.er)
 | .callb f xs => .callb f (xs.map SMO.er)
 | .callw f xs => .callw f (xs.map SMO.er)
theorem evs_er (σ : SSt) (xs : List SMO) : (xs.map SMO.er).map σ.er.ev = (xs.map σ.ev).map SV.er := by
 simp [SSt.er_ev]
def ssetParts (ev : SMO → SV) : List SC → List (Nat × Nat × SMO) → Option (List SC)
 | zs, [] => some zs
 | zs, (off, sz, x) :: ps => match (ev x).cells? with
  | some (_, cs) => onEq cs.length sz (onB (Nat.ble (off + sz) zs.length) (ssetParts ev (splice zs off cs) ps))
  | none => none
theorem ssetParts_ok {σ : SSt} : ∀ {ps : List (Nat × Nat × SMO)} {zs cs : List SC}, ssetParts σ.ev zs ps = some cs →
  setParts σ.er.ev (zs.map SC.er) (ps.map fun p => (p.1, p.2.1, p.2.2.er)) = some (cs.map SC.er)
 | [], zs, cs, h => by simp only [ssetParts] at h; injection h with h; subst h; rfl
 | (off, sz, x) :: ps, zs, cs, h => by
  simp only [ssetParts] at h
  split at h
  ·rename_i b cs1 hc
   have he_ := (onEq_some h).1; replace h := (onEq_some h).2; subst he_
   have hb := (onB_some h).1; replace h := (onB_some h).2
   have ih := ssetParts_ok h
   rw [splice_map] at ih
   have hle := Nat.le_of_ble_eq_true hb
   simp only [List.map_cons, setParts, SSt.er_ev, SV.cells_er hc, List.length_map, hle, and_self, if_true, ih]
  ·cases h
def scalD (l : List TD) : Bool := l.all fun x => x.1.scal
theorem scalD_er (l : List TD) : scalL (erD l) = scalD l := by
 simp [scalL, erD, scalD, List.all_map, Function.comp_def, Ty.scal_er]
def sstoreRow (σ : SSt) (n : Nat) (gr : Bool) (m : Mode) (ts : List Ty) (xs : List (Ty.DL ts)) (kk off : Nat) (e : Ty.DL ts) (vs : List SC) (k : SSt → Option ρ) : Option ρ :=
 match sub (Ty.dats ts e) off vs.length with
 | none => none
 | some old => stakeL σ vs fun cs o σ1 => match mkDL ts (splice (Ty.dats ts e) off cs) with
  | none => none
  | some e' => match m with
   | .live => onB (scalD cs && scalD old && (σ1.h n).isSome) (k (σ1.setB n (.row gr .live ts (setL xs kk e'))))
   | .froz => onB (σ1.h n).isSome (k (σ1.setB n (.row gr (match o with | true => .froz | false => .bor) ts (setL xs kk e'))))
   | .bor => onB (σ1.h n).isSome (k (σ1.setB n (.row gr .bor ts (setL xs kk e'))))
theorem erH_isSome (h : Nat → Option SB) (n : Nat) : (erH h n).isSome = (h n).isSome := by
 unfold erH; cases h n <;> rfl
theorem sstoreRow_ok {σ : SSt} {n : Nat} {gr : Bool} {m : Mode} {ts : List Ty} {xs : List (Ty.DL ts)} {kk off : Nat} {e : Ty.DL ts} {vs : List SC} {k : SSt → Option ρ} {r : ρ}
  (h : sstoreRow σ n gr m ts xs kk off e vs k = some r) :
  ∃ σ1 : SSt, storeRow σ.er n gr m ts.length (List.map (Ty.erL ts) xs) kk off (Ty.erL ts e) (vs.map SC.er) = some σ1.er ∧ k σ1 = some r := by
 unfold sstoreRow at h
 split at h
 ·cases h
 ·rename_i old ho
  obtain ⟨cs, o, σ1, h1, h2⟩ := stakeL_ok h
  have hold : sub (Ty.erL ts e) off (vs.map SC.er).length = some (erD old) := by
   rw [← Ty.dats_er]
   simp only [erD]
   rw [sub_map, List.length_map, ho]
   rfl
  split at h2
  ·cases h2
  ·rename_i e' he
   have hse : splice (Ty.erL ts e) off (erD cs) = Ty.erL ts e' := by
    rw [mkDL_er he, ← Ty.dats_er]
    simp only [erD]
    rw [← splice_map]
   have hset : (List.map (Ty.erL ts) xs).set kk (Ty.erL ts e') = List.map (Ty.erL ts) (setL xs kk e') := by
    show _ = List.map (Ty.erL ts) (xs.set kk e')
    rw [List.map_set]
   have hsome : σ1.er.h n = (σ1.h n).map SB.er := rfl
   split at h2
   ·have hb := (onB_some h2).1; replace h2 := (onB_some h2).2
    simp only [Bool.and_eq_true] at hb
    refine ⟨_, ?_, h2⟩
    simp only [storeRow, hold, h1, if_true, scalD_er, hb.1.1, hb.1.2, hsome, Option.isSome_map, hb.2, and_self, hse, hset, SSt.er_setB, SB.er]
   ·have hb := (onB_some h2).1; replace h2 := (onB_some h2).2
    refine ⟨_, ?_, h2⟩
    cases o <;> simp only [storeRow, hold, h1, hsome, Option.isSome_map, hb, hse, hset, SSt.er_setB, SB.er, reduceCtorEq, if_false, if_true, Bool.false_eq_true, cond_true, cond_false, ite_self]
   ·have hb := (onB_some h2).1; replace h2 := (onB_some h2).2
    refine ⟨_, ?_, h2⟩
    cases o <;> simp only [storeRow, hold, h1, hsome, Option.isSome_map, hb, hse, hset, SSt.er_setB, SB.er, reduceCtorEq, if_false, if_true, Bool.false_eq_true, cond_true, cond_false, ite_self]
def castRow (us ts : List Ty) (xs : List (Ty.DL us)) : Option (List (Ty.DL ts)) := if h : Ty.beqL us ts = true then some (Ty.beqL_eq h ▸ xs) else none
theorem castRow_some {us ts : List Ty} {xs : List (Ty.DL us)} {ys : List (Ty.DL ts)} (h : castRow us ts xs = some ys) : us.length = ts.length ∧ List.map (Ty.erL us) xs = List.map (Ty.erL ts) ys ∧ xs.length = ys.length := by
 unfold castRow at h
 split at h
 ·rename_i he
  have := Ty.beqL_eq he
  subst this
  injection h with h
  rw [← h]
  exact ⟨rfl, rfl, rfl⟩
 ·cases h
def sappLeft (σ : SSt) (ts : List Ty) (v : SV) (k : List (Ty.DL ts) → Mode → SSt → Option ρ) : Option ρ :=
 match v with
 | .one (.nil _) => k [] .froz σ
 | .one (.sl a s lo len) => match σ.h a with
  | some (.row true m us xs) => onEq s ts.length (onEq lo 0 (match castRow us ts xs with
    | some ys => (fulI lo len (lenN ys)).bnd fun _ => k ys m (σ.del a)
    | none => none))
  | _ => none
 | _ => none
theorem fulI_some {lo len l : Nat} {u : Unit} (h : fulI lo len l = some u) : lo = 0 ∧ len = l := by
 unfold fulI at h
 split at h
 ·rename_i hc; exact hc
 ·cases h
theorem sappLeft_ok {σ : SSt} {ts : List Ty} {v : SV} {k : List (Ty.DL ts) → Mode → SSt → Option ρ} {r : ρ} (h : sappLeft σ ts v k = some r) :
  ∃ (xs : List (Ty.DL ts)) (m : Mode) (σ1 : SSt), appLeft σ.er ts.length v.er = some (List.map (Ty.erL ts) xs, m, σ1.er) ∧ k xs m σ1 = some r := by
 unfold sappLeft at h
 split at h
 ·exact ⟨[], .froz, σ, rfl, h⟩
 ·rename_i a s lo len
  split at h
  ·rename_i m us xs hn
   have he_ := (onEq_some h).1; replace h := (onEq_some h).2; subst he_
   have he_ := (onEq_some h).1; replace h := (onEq_some h).2; subst he_
   split at h
   ·rename_i ys hc
    obtain ⟨c1, c2, c3⟩ := castRow_some hc
    rw [bnd_some] at h
    obtain ⟨_, hf, h⟩ := h
    obtain ⟨_, hlen⟩ := fulI_some hf
    replace hlen : len = ys.length := hlen
    refine ⟨ys, m, σ.del a, ?_, h⟩
    have hn' : σ.er.h a = some (.row true m ts.length (List.map (Ty.erL ts) ys)) := by simp [SSt.er, erH, hn, SB.er, c1, c2]
    subst hlen
    simp only [SV.er, SC.er, appLeft, hn', List.length_map, and_self, if_true, SSt.er_del]
   ·cases h
  ·cases h
 ·cases h
theorem scalLL_er (ts : List Ty) (xs : List (Ty.DL ts)) (h : Ty.scalL ts = true) : scalLL (List.map (Ty.erL ts) xs) = true := by
 simp only [scalLL, List.all_eq_true, List.mem_map]
 rintro _ ⟨e, _, rfl⟩
 rw [Ty.scalL_er]
 exact h
def sappRight (fl : Bool) (σ : SSt) (ts : List Ty) (m : Mode) (v : SV) (k : List (Ty.DL ts) → Mode → SSt → Option ρ) : Option ρ :=
 match v with
 | .one (.nil _) => k [] m σ
 | .one (.v (.list us) ys) => match castRow us ts ys with
  | some zs => match fl with
   | true => onB (Ty.scalL ts) (k zs m σ)
   | false => match m with
    | .live => none
    | _ => k zs .bor σ
  | none => none
 | .one (.sl b s lo len) => match σ.h b with
  | some (.row _ m' us ys) => onEq s ts.length (match castRow us ts ys with
   | some zs => match fl with
    | true => onB (Ty.scalL ts) ((winI zs lo len).bnd fun ws => k ws m σ)
    | false => (fulI lo len (lenN zs)).bnd fun _ => match m, m' with
     | .froz, .froz => k zs .froz (σ.del b)
     | .live, .live => k zs .live (σ.del b)
     | .bor, .bor => k zs .bor (σ.del b)
     | .froz, .bor => k zs .bor (σ.del b)
     | .bor, .froz => k zs .bor (σ.del b)
     | _, _ => none
   | none => none)
  | _ => none
 | _ => none
theorem sappRight_ok {fl : Bool} {σ : SSt} {ts : List Ty} {m : Mode} {v : SV} {k : List (Ty.DL ts) → Mode → SSt → Option ρ} {r : ρ} (h : sappRight fl σ ts m v k = some r) :
  ∃ (ys : List (Ty.DL ts)) (m2 : Mode) (σ1 : SSt), appRight fl σ.er ts.length m v.er = some (List.map (Ty.erL ts) ys, m2, σ1.er) ∧ k ys m2 σ1 = some r := by
 unfold sappRight at h
 split at h
 ·exact ⟨[], m, σ, rfl, h⟩
 ·rename_i us ys
  split at h
  ·rename_i zs hc
   obtain ⟨e1, e2, e3⟩ := castRow_some hc
   have e2' : Ty.er (.list us) ys = .list ts.length (List.map (Ty.erL ts) zs) := by rw [← e1, ← e2]; rfl
   split at h
   ·have hs := (onB_some h).1; replace h := (onB_some h).2
    refine ⟨zs, m, σ, ?_, h⟩
    simp only [SV.er, SC.er, e2', appRight, if_true, Bool.true_and, scalLL_er ts zs hs]
   ·split at h
    ·cases h
    ·rename_i hm
     refine ⟨zs, .bor, σ, ?_, h⟩
     have hm' : m ≠ .live := fun e => hm e
     simp only [SV.er, SC.er, e2', appRight, if_true, Bool.false_and, Bool.false_eq_true, if_false, if_neg hm']
  ·cases h
 ·rename_i b s lo len
  split at h
  ·rename_i gr m' us ys hn
   have he_ := (onEq_some h).1; replace h := (onEq_some h).2; subst he_
   split at h
   ·rename_i zs hc
    obtain ⟨e1, e2, e3⟩ := castRow_some hc
    have hn' : σ.er.h b = some (.row gr m' ts.length (List.map (Ty.erL ts) zs)) := by simp [SSt.er, erH, hn, SB.er, e1, e2]
    split at h
    ·have hs := (onB_some h).1; replace h := (onB_some h).2
     rw [bnd_some] at h
     obtain ⟨ws, hw, h⟩ := h
     obtain ⟨w1, w2⟩ := win_er hw
     refine ⟨ws, m, σ, ?_, h⟩
     simp only [SV.er, SC.er, appRight, hn', List.length_map, w1, w2, and_self, if_true, Bool.true_and, scalLL_er ts ws hs]
    ·rw [bnd_some] at h
     obtain ⟨_, hf, h⟩ := h
     obtain ⟨rfl, hlen⟩ := fulI_some hf
     replace hlen : len = zs.length := hlen
     subst hlen
     have htk : List.take zs.length (List.map (Ty.erL ts) zs) = List.map (Ty.erL ts) zs := by
      rw [List.take_of_length_le]; simp
     cases m <;> cases m' <;> first
      | (cases h; done)
      | exact ⟨zs, _, σ.del b, by simp [SV.er, SC.er, appRight, hn', SSt.er_del], h⟩
   ·cases h
  ·cases h
 ·cases h
def SC.fnOk : SC → Bool
 | .fn _ _ => false
 | .junk => false
 | _ => true
def smkfn : List SV → Option (List SC)
 | [] => some []
 | .one c :: vs => match c.fnOk, smkfn vs with
  | true, some cs => some (c :: cs)
  | _, _ => none
 | _ :: _ => none
theorem smkfn_ok : ∀ {vs : List SV} {cs : List SC}, smkfn vs = some cs →
  (vs.map SV.er).mapM (fun v => match v with | .one c => if c.isFn = true then none else some c | _ => none) = some (cs.map SC.er) ∧ (cs.map SC.er).all ACell.notJunk = true
 | [], cs, h => by simp only [smkfn] at h; injection h with h; subst h; exact ⟨rfl, rfl⟩
 | .one c :: vs, cs, h => by
  simp only [smkfn] at h
  split at h
  ·rename_i cs' e1 e2
   injection h with h
   subst h
   obtain ⟨i1, i2⟩ := smkfn_ok e2
   have hc : c.er.isFn = false ∧ c.er.notJunk = true := by cases c <;> first | exact ⟨rfl, rfl⟩ | (simp [SC.fnOk] at e1)
   refine ⟨?_, by simp [hc.2]; simpa using i2⟩
   simp only [List.map_cons, List.mapM_cons, SV.er, hc.1]
   rw [i1]
   rfl
  ·cases h
 | .agg _ :: _, cs, h => by simp [smkfn] at h
 | .tup _ :: _, cs, h => by simp [smkfn] at h
end
end Go.Am