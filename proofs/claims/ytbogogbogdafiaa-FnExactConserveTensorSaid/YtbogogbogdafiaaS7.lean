/- S7: typed functions as a whole. No condition. -/
import Derived.Test.YtbogogbogdafiaaS6
import Derived.Test.YtbogogbogdafiaaAmY
set_option linter.unusedVariables false
namespace Go.Am
def sargV (k : K) (ts : List Ty) (x : Ty.DL ts) : SV :=
 match k with
 | .one => match Ty.cells ts x with
  | [c] => .one c
  | _ => .one .junk
 | .agg => .agg (Ty.cells ts x)
 | .ptr => .one (.dptr ts x 0)
theorem sargV_er (k : K) (ts : List Ty) (x : Ty.DL ts) : (sargV k ts x).er = argV (k, Ty.erL ts x) := by
 cases k with
 | one =>
  match ts, x with
  | [], x => rfl
  | [t], x => rfl
  | t :: u :: [], x => rfl
  | t :: u :: v :: ts, x => rfl
 | agg => simp only [sargV, SV.er, argV, Ty.cells_er]
 | ptr => rfl
def sinitE : Nat → (as : Sig) → DLL as.tys → (Nat → SV)
 | _, [], _ => fun _ => .one .junk
 | k, [a], x => upd (fun _ => .one .junk) k (sargV a.1 a.2 x)
 | k, a :: b :: as, x => upd (sinitE (k + 1) (b :: as) x.2) k (sargV a.1 a.2 x.1)
theorem sinitE_er : ∀ (k : Nat) (as : Sig) (x : DLL as.tys), erE (sinitE k as x) = initE k (erA as x)
 | k, [], x => rfl
 | k, [a], x => by
  have e : (sargV a.1 a.2 x).er = argV (a.1, Ty.erL a.2 x) := sargV_er a.1 a.2 x
  simp only [sinitE, erA, initE, erE_upd]
  rw [e]
  rfl
 | k, a :: b :: as, x => by
  have ih := sinitE_er (k + 1) (b :: as) x.2
  simp only [sinitE, erA, erE_upd, sargV_er, ih]
  rw [initE]
def sinit (as : Sig) (x : DLL as.tys) : SSt := { env := sinitE 0 as x, h := fun _ => none, used := fun n => Nat.ble PIN n }
theorem sinit_er (as : Sig) (x : DLL as.tys) : (sinit as x).er = initS (erA as x) := by
 simp only [sinit, SSt.er, initS, sinitE_er]
 rfl
section
variable {ρ : Type}
def sresV (σ : SSt) : List MRes → (List SV → Option ρ) → Option ρ
 | [], k => k []
 | .tmp t :: ms, k => sresV σ ms fun vs => k (σ.env t :: vs)
 | .cell t sz ag :: ms, k => match σ.env t with
  | .one p => sload σ.h p sz fun cs => sresV σ ms fun vs => k (toS ag cs :: vs)
  | _ => none
theorem sresV_ok {σ : SSt} : ∀ {ms : List MRes} {k : List SV → Option ρ} {r : ρ}, sresV σ ms k = some r → ∃ vs, σ.er.resV ms = some (vs.map SV.er) ∧ k vs = some r
 | [], k, r, h => ⟨[], rfl, h⟩
 | .tmp t :: ms, k, r, h => by
  simp only [sresV] at h
  obtain ⟨vs, h1, h2⟩ := sresV_ok h
  exact ⟨_, by simp only [St.resV, h1]; rfl, h2⟩
 | .cell t sz ag :: ms, k, r, h => by
  simp only [sresV] at h
  split at h
  ·rename_i p hp
   obtain ⟨cs, h1, h2⟩ := sload_ok h
   obtain ⟨vs, h3, h4⟩ := sresV_ok h2
   have hp' : σ.er.env t = .one p.er := by show (σ.env t).er = _; rw [hp]; rfl
   have h1' : loadAt σ.er.h p.er sz = some (cs.map SC.er) := h1
   exact ⟨_, by simp only [St.resV, hp', h1', h3, List.map_cons, toS_er], h4⟩
  ·cases h
def sretC (h : Nat → Option SB) (c : SC) (k : (t : Ty) → t.D → List Nat → Option ρ) : Option ρ :=
 match c with
 | .v t x => onB t.scal (k t x [])
 | .nil ts => match ts with
  | [] => none
  | t :: us => k (.list (t :: us)) ([] : List (Ty.DL (t :: us))) []
 | .sl n sz lo len => match h n with
  | some (.row true m ts xs) => onEq ts.length sz (onB m.own (onEq lo 0 ((takI xs len).bnd fun ys => k (.list ts) ys [n])))
  | _ => none
 | _ => none
theorem sretC_ok {h : Nat → Option SB} {c : SC} {k : (t : Ty) → t.D → List Nat → Option ρ} {r : ρ} (hx : sretC h c k = some r) :
  ∃ (t : Ty) (x : t.D) (ns : List Nat), retC (erH h) c.er = some (t.er x, ns) ∧ k t x ns = some r := by
 unfold sretC at hx
 split at hx
 ·rename_i t x
  have h1 := (onB_some hx).1; replace hx := (onB_some hx).2
  exact ⟨t, x, [], by simp only [SC.er, retC, Ty.scal_er, h1, if_true], hx⟩
 ·split at hx
  ·cases hx
  ·rename_i t us
   exact ⟨.list (t :: us), [], [], by simp [SC.er, retC, Ty.er], hx⟩
 ·rename_i n sz lo len
  split at hx
  ·rename_i m ts xs hn
   have he_ := (onEq_some hx).1; replace hx := (onEq_some hx).2; subst he_
   have hm := (onB_some hx).1; replace hx := (onB_some hx).2
   have he_ := (onEq_some hx).1; replace hx := (onEq_some hx).2; subst he_
   rw [bnd_some] at hx
   obtain ⟨ys, hw, hx⟩ := hx
   obtain ⟨w1, w2⟩ := tak_er hw
   refine ⟨.list ts, ys, [n], ?_, hx⟩
   have hm' : m ≠ .bor := by rintro rfl; cases hm
   simp only [SC.er, retC, erH, hn, Option.map_some, SB.er, List.length_map, w1, w2, ne_eq, hm', not_false_eq_true, and_self, if_true, Ty.er]
  ·cases hx
 ·cases hx
def sretL (h : Nat → Option SB) : List SC → (List TD → List Nat → Option ρ) → Option ρ
 | [], k => k [] []
 | c :: cs, k => sretC h c fun t x ns => sretL h cs fun l ns' => k (⟨t, x⟩ :: l) (ns ++ ns')
theorem sretL_ok {h : Nat → Option SB} : ∀ {cs : List SC} {k : List TD → List Nat → Option ρ} {r : ρ}, sretL h cs k = some r →
  ∃ l ns, retL (erH h) (cs.map SC.er) = some (erD l, ns) ∧ k l ns = some r
 | [], k, r, hx => ⟨[], [], rfl, hx⟩
 | c :: cs, k, r, hx => by
  simp only [sretL] at hx
  obtain ⟨t, x, ns, h1, h2⟩ := sretC_ok hx
  obtain ⟨l, ns', h3, h4⟩ := sretL_ok h2
  exact ⟨⟨t, x⟩ :: l, ns ++ ns', by simp [retL, h1, h3, erD], h4⟩
def kOf : Bool → K
 | true => .agg
 | false => .one
def sretDs (h : Nat → Option SB) : List SV → (List SDv → List Nat → Option ρ) → Option ρ
 | [], k => k [] []
 | v :: vs, k => match v.cells? with
  | some (ag, cs) => sretL h cs fun l ns => sretDs h vs fun ds ns' => k ((kOf ag, l) :: ds) (ns ++ ns')
  | none => none
theorem sretDs_ok {h : Nat → Option SB} : ∀ {vs : List SV} {k : List SDv → List Nat → Option ρ} {r : ρ}, sretDs h vs k = some r →
  ∃ ds ns, retDs (erH h) (vs.map SV.er) = some (ds.map SDv.er, ns) ∧ k ds ns = some r
 | [], k, r, hx => ⟨[], [], rfl, hx⟩
 | v :: vs, k, r, hx => by
  simp only [sretDs] at hx
  split at hx
  ·rename_i ag cs hc
   obtain ⟨l, ns, h1, h2⟩ := sretL_ok hx
   obtain ⟨ds, ns', h3, h4⟩ := sretDs_ok h2
   refine ⟨_, _, ?_, h4⟩
   simp only [List.map_cons, retDs, SV.cells_er hc, h1, h3]
   cases ag <;> rfl
  ·cases hx
end
def nodupB : List Nat → Bool
 | [] => true
 | n :: l => !(l.contains n) && nodupB l
theorem nodupB_ok : ∀ {l : List Nat}, nodupB l = true → l.Nodup
 | [], _ => List.nodup_nil
 | n :: l, h => by
  simp only [nodupB, Bool.and_eq_true, Bool.not_eq_true'] at h
  rw [List.nodup_cons]
  refine ⟨fun hm => ?_, nodupB_ok h.2⟩
  have : l.contains n = true := by simpa using hm
  rw [this] at h
  cases h.1
def sretF (σ : SSt) (ms : List MRes) (res : Sig) : Option (DLL res.tys) :=
 sresV σ ms fun vs => sretDs σ.h vs fun ds ns => onB (nodupB ns) (mkDLL res ds)
theorem sretF_ok {σ : SSt} {ms : List MRes} {res : Sig} {y : DLL res.tys} (h : sretF σ ms res = some y) : σ.er.retF ms = some (erA res y) := by
 unfold sretF at h
 obtain ⟨vs, h1, h2⟩ := sresV_ok h
 obtain ⟨ds, ns, h3, h4⟩ := sretDs_ok h2
 have h5 := (onB_some h4).1; replace h6 := (onB_some h4).2
 have h3' : retDs σ.er.h (vs.map SV.er) = some (ds.map SDv.er, ns) := h3
 simp only [St.retF, h1, h3', if_pos (nodupB_ok h5), mkDLL_er h6]
def runS (N : Nat) (T : List SFn) (sc : SCode) (ms : List MRes) (args res : Sig) (x : DLL args.tys) : Option (DLL res.tys) :=
 sden N T sc (sinit args x) (fun σ => sretF σ ms res) (fun _ _ => none) (fun σ => sretF σ ms res)
theorem runS_ok {T : List SFn} {sc : SCode} {ms : List MRes} {args res : Sig} {x : DLL args.tys} {y : DLL res.tys} (h : runS FUEL T sc ms args res x = some y) :
  runF (tabOf T) sc.er ms (erA args x) = some (erA res y) := by
 obtain ⟨o, h1, h2⟩ := sden_ok sc h
 rw [sinit_er] at h1
 unfold runF
 rw [h1]
 cases o with
 | nrm τ =>
  obtain ⟨τs, rfl, h2⟩ := h2
  exact sretF_ok h2
 | ret τ =>
  obtain ⟨τs, rfl, h2⟩ := h2
  exact sretF_ok h2
 | ext i τ =>
  obtain ⟨τs, rfl, h2⟩ := h2
  cases h2
theorem erA_len : ∀ (as : Sig) (x : DLL as.tys), (erA as x).length = as.length
 | [], _ => rfl
 | [a], _ => rfl
 | a :: b :: as, x => by simp only [erA, List.length_cons, erA_len (b :: as) x.2]
def sargCells : Nat → List (Option Mode) → List TD → List SC
 | c, some _ :: fs, ⟨.list ts, xs⟩ :: l => .sl (PIN + c) ts.length 0 (lenN (α := Ty.DL ts) xs) :: sargCells (c + 1) fs l
 | c, some _ :: fs, ⟨.int _, _⟩ :: l => .junk :: sargCells (c + 1) fs l
 | c, some _ :: fs, ⟨.bool, _⟩ :: l => .junk :: sargCells (c + 1) fs l
 | c, none :: fs, x :: l => .v x.1 x.2 :: sargCells c fs l
 | c, [], l => l.map fun x => .v x.1 x.2
 | c, _ :: _, [] => []
theorem sargCells_er : ∀ (c : Nat) (fs : List (Option Mode)) (l : List TD), (sargCells c fs l).map SC.er = argCells c fs (erD l)
 | c, some m :: fs, ⟨.list ts, xs⟩ :: l => by
  simp only [sargCells, erD, List.map_cons, Ty.er, argCells, SC.er]
  have := sargCells_er (c + 1) fs l
  simp only [erD] at this
  rw [this]
  exact congrArg (fun q => ACell.sl (PIN + c) ts.length 0 q :: _) (List.length_map (Ty.erL ts)).symm
 | c, some m :: fs, ⟨.int k, x⟩ :: l => by
  simp only [sargCells, erD, List.map_cons, Ty.er, argCells, SC.er]
  exact congrArg _ (sargCells_er (c + 1) fs l)
 | c, some m :: fs, ⟨.bool, x⟩ :: l => by
  simp only [sargCells, erD, List.map_cons, Ty.er, argCells, SC.er]
  exact congrArg _ (sargCells_er (c + 1) fs l)
 | c, none :: fs, ⟨t, x⟩ :: l => by
  simp only [sargCells, erD, List.map_cons, argCells, SC.er]
  exact congrArg _ (sargCells_er c fs l)
 | c, [], l => by
  cases l <;> simp [sargCells, erD, argCells, SC.er]
 | c, some m :: fs, [] => rfl
 | c, none :: fs, [] => rfl
def sargM (c : Nat) (s : List (Option Mode)) (d : K × List Ty) (x : Ty.DL d.2) : SV :=
 match d.1 with
 | .one => match sargCells c s (Ty.dats d.2 x) with
  | [y] => .one y
  | _ => .one .junk
 | .agg => .agg (sargCells c s (Ty.dats d.2 x))
 | .ptr => .one (.dptr d.2 x 0)
theorem sargM_er (c : Nat) (s : List (Option Mode)) (d : K × List Ty) (x : Ty.DL d.2) : (sargM c s d x).er = argM c s (d.1, Ty.erL d.2 x) := by
 obtain ⟨k, ts⟩ := d
 have h := sargCells_er c s (Ty.dats ts x)
 rw [Ty.dats_er] at h
 cases k with
 | one =>
  simp only [sargM, argM, ← h]
  generalize sargCells c s (Ty.dats ts x) = l
  match l with
  | [] => rfl
  | [y] => rfl
  | _ :: _ :: _ => rfl
 | agg => simp only [sargM, argM, ← h, SV.er]
 | ptr => rfl
def sinitEM : Nat → Nat → MSig → (as : Sig) → DLL as.tys → (Nat → SV)
 | _, _, _, [], _ => fun _ => .one .junk
 | k, c, sig, [a], x => upd (fun _ => .one .junk) k (sargM c sig.hd a x)
 | k, c, sig, a :: b :: as, x => upd (sinitEM (k + 1) (c + (fCells sig.hd (Ty.dats a.2 x.1)).length) sig.tl (b :: as) x.2) k (sargM c sig.hd a x.1)
theorem fCells_len {α β : Type} : ∀ (s : List (Option Mode)) (l : List α) (l' : List β), l.length = l'.length → (fCells s l).length = (fCells s l').length
 | some m :: fs, x :: xs, y :: ys, h => by simp only [fCells, List.length_cons, fCells_len fs xs ys (by simpa using h)]
 | none :: fs, x :: xs, y :: ys, h => by simp only [fCells]; exact fCells_len fs xs ys (by simpa using h)
 | [], l, l', h => by cases l <;> cases l' <;> rfl
 | some m :: fs, [], [], h => rfl
 | none :: fs, [], [], h => rfl
 | _ :: _, [], _ :: _, h => by simp at h
 | _ :: _, _ :: _, [], h => by simp at h
theorem dats_len (ts : List Ty) (x : Ty.DL ts) : (Ty.dats ts x).length = (Ty.erL ts x).length := by
 rw [← Ty.dats_er, erD, List.length_map]
theorem initEM_hd (k c : Nat) (sig : MSig) (d : Dv) (ds : List Dv) : initEM k c sig (d :: ds) = upd (initEM (k + 1) (c + (fCells sig.hd d.2).length) sig.tl ds) k (argM c sig.hd d) := by
 cases sig with
 | nil =>
  have : (fCells (MSig.hd []) d.2).length = 0 := rfl
  rw [this]
  simp only [initEM, Nat.add_zero, MSig.tl, MSig.hd]
 | cons s sig => rfl
theorem sinitEM_er : ∀ (k c : Nat) (sig : MSig) (as : Sig) (x : DLL as.tys), erE (sinitEM k c sig as x) = initEM k c sig (erA as x)
 | k, c, sig, [], x => by cases sig <;> rfl
 | k, c, sig, [a], x => by
  simp only [sinitEM, erA, erE_upd]
  have h := sargM_er c sig.hd a x
  rw [initEM_hd]
  have e : initEM (k + 1) (c + (fCells sig.hd (Ty.erL a.2 x)).length) sig.tl [] = emptyEnv := by
   simp only [initEM]
  rw [e]
  exact congrArg (fun v => upd (erE fun _ => SV.one SC.junk) k v) h
 | k, c, sig, a :: b :: as, x => by
  have ih := sinitEM_er (k + 1) (c + (fCells sig.hd (Ty.dats a.2 x.1)).length) sig.tl (b :: as) x.2
  simp only [sinitEM, erA, erE_upd, sargM_er, ih, initEM_hd (ds := erA (b :: as) x.2)]
  rw [fCells_len sig.hd (Ty.dats a.2 x.1) (Ty.erL a.2 x.1) (dats_len _ _)]
def sfArgs (sig : MSig) (as : Sig) (x : DLL as.tys) : List (Mode × TD) := fArgs sig ((datsA as x).map (·.2))
theorem sfArgs_er (sig : MSig) (as : Sig) (x : DLL as.tys) : (sfArgs sig as x).map (fun p => (p.1, p.2.1.er p.2.2)) = fArgs sig ((erA as x).map (·.2)) := by
 unfold sfArgs
 rw [← datsA_er, ← fArgs_map (fun p : TD => p.1.er p.2)]
 simp only [List.map_map]
 rfl
def srowOf : Mode × TD → Option SB
 | (m, ⟨.list ts, xs⟩) => some (.row false m ts xs)
 | _ => none
theorem srowOf_er (p : Mode × TD) : (srowOf p).map SB.er = rowOf (p.1, p.2.1.er p.2.2) := by
 obtain ⟨m, t, x⟩ := p
 cases t <;> rfl
def srowAt : List (Mode × TD) → Nat → Option SB
 | [], _ => none
 | p :: _, 0 => srowOf p
 | _ :: l, n + 1 => srowAt l n
theorem srowAt_eq : ∀ (l : List (Mode × TD)) (n : Nat), srowAt l n = (l[n]?).bind srowOf
 | [], n => by simp [srowAt]
 | p :: l, 0 => by simp [srowAt]
 | p :: l, n + 1 => by simp [srowAt, srowAt_eq l n]
def sheapM (fl : List (Mode × TD)) : Nat → Option SB := fun n => match Nat.ble PIN n with
 | true => srowAt fl (Nat.sub n PIN)
 | false => none
def sinitM (sig : MSig) (as : Sig) (x : DLL as.tys) : SSt := { env := sinitEM 0 0 sig as x, h := sheapM (sfArgs sig as x), used := fun n => Nat.ble PIN n }
theorem sinitM_er (sig : MSig) (as : Sig) (x : DLL as.tys) : (sinitM sig as x).er = initSM sig (erA as x) := by
 simp only [sinitM, SSt.er, initSM, sinitEM_er]
 congr 1
 funext n
 simp only [erH, sheapM]
 cases hb : Nat.ble PIN n with
 | true =>
  rw [if_pos (Nat.le_of_ble_eq_true hb), ← sfArgs_er, srowAt_eq]
  simp only [List.getElem?_map]
  cases (sfArgs sig as x)[n - PIN]? with
  | none => simp
  | some p => simp [srowOf_er]
 | false =>
  rw [if_neg (fun h => by rw [Nat.ble_eq_true_of_le h] at hb; cases hb)]
  rfl
def SSt.noPin (σ : SSt) : SSt := { σ with h := fun n => match Nat.ble PIN n with | true => none | false => σ.h n }
theorem SSt.noPin_er (σ : SSt) : σ.noPin.er = σ.er.noPin := by
 simp only [SSt.noPin, SSt.er, St.noPin]
 congr 1
 funext n
 simp only [erH]
 cases hb : Nat.ble PIN n with
 | true => rw [if_pos (Nat.le_of_ble_eq_true hb)]; rfl
 | false => rw [if_neg (fun h => by rw [Nat.ble_eq_true_of_le h] at hb; cases hb)]
section
variable {ρ : Type}
def sout1 (σ : SSt) (q : Nat) (p : Mode × TD) (k : TD → Option ρ) : Option ρ :=
 match p with
 | (m, ⟨.list ts, xs⟩) => match σ.h (PIN + q) with
  | some (.row _ m' us ys) => onB (Mode.beq m' m) (onB (Ty.beqL us ts) (onB (tyFlat m us) ((samI (lenN ys) (lenN (α := Ty.DL ts) xs)).bnd fun _ => k ⟨.list us, ys⟩)))
  | _ => none
 | _ => none
theorem isLB_er (t : Ty) (x : t.D) : (t.er x).isLB = !t.scal := by cases t <;> rfl
theorem isLBL_er : ∀ (ts : List Ty) (x : Ty.DL ts), (Ty.erL ts x).map C.isLB = ts.map fun t => !t.scal
 | [], _ => rfl
 | [t], x => congrArg (fun b => [b]) (isLB_er t x)
 | t :: u :: ts, x => by
  have := isLBL_er (u :: ts) x.2
  simp only [List.map_cons] at this
  simp only [Ty.erL, List.map_cons, isLB_er, this]
theorem isLB_rows (ts : List Ty) (xs : List (Ty.DL ts)) : (List.map (Ty.erL ts) xs).map (fun e => e.map C.isLB) = List.replicate xs.length (ts.map fun t => !t.scal) := by
 induction xs with
 | nil => rfl
 | cons x xs ih => simp only [List.map_cons, isLBL_er, ih, List.length_cons, List.replicate_succ]
theorem sout1_ok {σ : SSt} {q : Nat} {p : Mode × TD} {k : TD → Option ρ} {r : ρ} (h : sout1 σ q p k = some r) : ∃ o : TD, outOne σ.er q (p.1, p.2.1.er p.2.2) = some (o.1.er o.2) ∧ k o = some r := by
 unfold sout1 at h
 split at h
 ·rename_i m ts xs
  split at h
  ·rename_i gr m' us ys hn
   have h1 := (onB_some h).1; replace h := (onB_some h).2
   have h2 := (onB_some h).1; replace h := (onB_some h).2
   have h3 := (onB_some h).1; replace h := (onB_some h).2
   rw [bnd_some] at h
   obtain ⟨_, hs, h⟩ := h
   have hl : lenN ys = lenN (α := Ty.DL ts) xs := by
    unfold samI at hs
    split at hs
    ·assumption
    ·cases hs
   have h1 := Mode.beq_eq h1
   have h2 := Ty.beqL_eq h2
   subst h1 h2
   refine ⟨_, ?_, h⟩
   have hn' : σ.er.h (PIN + q) = some (.row gr m' us.length (List.map (Ty.erL us) ys)) := by simp [SSt.er, erH, hn, SB.er]
   have hl' : List.length ys = List.length (α := Ty.DL us) xs := hl
   have hl1 : (List.map (Ty.erL us) ys).length = (List.map (α := Ty.DL us) (Ty.erL us) xs).length := (List.length_map _).trans (hl'.trans (List.length_map (as := (xs : List (Ty.DL us))) (Ty.erL us)).symm)
   have hl2 : (List.map (Ty.erL us) ys).map (fun e => e.map C.isLB) = (List.map (α := Ty.DL us) (Ty.erL us) xs).map (fun e => e.map C.isLB) :=
    (isLB_rows us ys).trans ((congrArg (fun n => List.replicate n _) hl').trans (isLB_rows us xs).symm)
   simp only [outOne, Ty.er, hn']
   rw [if_pos ⟨trivial, trivial, hl1, flatOk_er _ _ _ h3, hl2⟩]
  ·cases h
 ·cases h
def soutAll (σ : SSt) : Nat → List (Mode × TD) → (List TD → Option ρ) → Option ρ
 | _, [], k => k []
 | q, p :: l, k => sout1 σ q p fun o => soutAll σ (q + 1) l fun os => k (o :: os)
theorem soutAll_ok {σ : SSt} : ∀ {l : List (Mode × TD)} {q : Nat} {k : List TD → Option ρ} {r : ρ}, soutAll σ q l k = some r → ∃ os, outAll σ.er q (l.map fun p => (p.1, p.2.1.er p.2.2)) = some (erD os) ∧ k os = some r
 | [], q, k, r, h => ⟨[], rfl, h⟩
 | p :: l, q, k, r, h => by
  simp only [soutAll] at h
  obtain ⟨o, h1, h2⟩ := sout1_ok h
  obtain ⟨os, h3, h4⟩ := soutAll_ok h2
  exact ⟨o :: os, by simp only [List.map_cons, outAll, h1, h3, erD], h4⟩
end
def sretMF (σ : SSt) (ms : List MRes) (fl : List (Mode × TD)) (kk : Nat) (res : Sig) : Option (DLL res.tys) :=
 sresV σ.noPin ms fun vs => sretDs σ.noPin.h vs fun ds ns => onB (nodupB ns) (onEq ds.length kk (soutAll σ 0 fl fun os => mkDLL res (ds ++ os.map fun o => (.one, [o]))))
theorem sretMF_ok {σ : SSt} {ms : List MRes} {fl : List (Mode × TD)} {kk : Nat} {res : Sig} {y : DLL res.tys} (h : sretMF σ ms fl kk res = some y) :
  σ.er.retM ms (fl.map fun p => (p.1, p.2.1.er p.2.2)) = some (splitO kk (erA res y)) := by
 unfold sretMF at h
 obtain ⟨vs, h1, h2⟩ := sresV_ok h
 obtain ⟨ds, ns, h3, h4⟩ := sretDs_ok h2
 have h5 := (onB_some h4).1; replace h4 := (onB_some h4).2
 have h6 := (onEq_some h4).1; replace h4 := (onEq_some h4).2
 obtain ⟨os, h7, h8⟩ := soutAll_ok h4
 have h3' : retDs σ.noPin.er.h (vs.map SV.er) = some (ds.map SDv.er, ns) := h3
 have hr : σ.er.noPin.retF ms = some (ds.map SDv.er) := by
  rw [← SSt.noPin_er]
  simp only [St.retF, h1, h3', if_pos (nodupB_ok h5)]
 simp only [St.retM, hr, h7, ← mkDLL_er h8, splitO_er, ← h6]
 congr 2
 ·rw [List.take_left]
 ·rw [List.drop_left]
  congr 1
  clear h7 h8
  induction os with
  | nil => rfl
  | cons o os ih => rw [List.map_cons, List.flatMap_cons, ← ih]; rfl
def runMS (N : Nat) (T : List SFn) (sc : SCode) (ms : List MRes) (args : Sig) (mu : MSig) (res : Sig) (x : DLL args.tys) : Option (DLL res.tys) :=
 sden N T sc (sinitM mu args x) (fun σ => sretMF σ ms (sfArgs mu args x) (res.length - mu.cnt) res) (fun _ _ => none) (fun σ => sretMF σ ms (sfArgs mu args x) (res.length - mu.cnt) res)
theorem runMS_ok {T : List SFn} {sc : SCode} {ms : List MRes} {args : Sig} {mu : MSig} {res : Sig} {x : DLL args.tys} {y : DLL res.tys} (h : runMS FUEL T sc ms args mu res x = some y) :
  runM (tabOf T) sc.er ms mu (erA args x) = some (splitO (res.length - mu.cnt) (erA res y)) := by
 obtain ⟨o, h1, h2⟩ := sden_ok sc h
 rw [sinitM_er] at h1
 unfold runM
 rw [h1]
 cases o with
 | nrm τ =>
  obtain ⟨τs, rfl, h2⟩ := h2
  simp only [← sfArgs_er]
  exact sretMF_ok h2
 | ret τ =>
  obtain ⟨τs, rfl, h2⟩ := h2
  simp only [← sfArgs_er]
  exact sretMF_ok h2
 | ext i τ =>
  obtain ⟨τs, rfl, h2⟩ := h2
  cases h2
section
variable {ρ : Type}
end
def wRes : Sig := [(.one, [.int .i64]), (.one, [.int .i64])]
def sretWF (σ : SSt) (ms : List MRes) : Option (DLL (Sig.tys wRes)) :=
 sresV σ ms fun vs => match vs with
  | [.one (.sl n sz lo len)] => onEq n PIN (match σ.h PIN with
   | some (.row _ _ ts xs) => onEq sz ts.length ((chkI (0 : Int) (lenN xs)).bnd fun _ => some (natI lo, natI (addN lo len)))
   | _ => none)
  | _ => none
theorem sretWF_ok {σ : SSt} {ms : List MRes} {y : DLL (Sig.tys wRes)} (h : sretWF σ ms = some y) : ∃ lo len, σ.er.retW ms = some (lo, len) ∧ wPair (erA wRes y) = some (lo, len) := by
 unfold sretWF at h
 obtain ⟨vs, h1, h2⟩ := sresV_ok h
 split at h2
 ·rename_i n sz lo len
  have he := (onEq_some h2).1; replace h2 := (onEq_some h2).2
  split at h2
  ·rename_i gr mo ts xs hrow
   have he2 := (onEq_some h2).1; replace h2 := (onEq_some h2).2
   rw [bnd_some] at h2
   obtain ⟨k, hk, h2⟩ := h2
   injection h2 with h2
   refine ⟨lo, len, ?_, ?_⟩
   ·have hn' : σ.er.h PIN = some (.row gr mo ts.length (List.map (Ty.erL ts) xs)) := by simp only [SSt.er, erH, hrow, SB.er, Option.map_some]
    unfold St.retW
    rw [h1]
    simp only [List.map_cons, List.map_nil, SV.er, SC.er]
    rw [if_pos he, hn']
    cases xs with
    | nil => unfold chkI lenN at hk; simp at hk
    | cons e es => simp only [List.map_cons]; rw [if_pos he2]
   ·subst h2
    show some (((lo : Nat) : Int).toNat, (((lo + len : Nat) : Int) - ((lo : Nat) : Int)).toNat) = some (lo, len)
    congr 2
    omega
  ·cases h2
 ·cases h2
def runWS (N : Nat) (T : List SFn) (sc : SCode) (ms : List MRes) (args : Sig) (mu : MSig) (x : DLL args.tys) : Option (DLL (Sig.tys wRes)) :=
 match sfArgs mu args x with
 | [_] => sden N T sc (sinitM mu args x) (fun σ => sretWF σ ms) (fun _ _ => none) (fun σ => sretWF σ ms)
 | _ => none
theorem runWS_ok {T : List SFn} {sc : SCode} {ms : List MRes} {args : Sig} {mu : MSig} {x : DLL args.tys} {y : DLL (Sig.tys wRes)} (h : runWS FUEL T sc ms args mu x = some y) :
  ∃ lo len, runW (tabOf T) sc.er ms mu (erA args x) = some (lo, len) ∧ wPair (erA wRes y) = some (lo, len) := by
 unfold runWS at h
 split at h
 ·rename_i p hp
  obtain ⟨o, h1, h2⟩ := sden_ok sc h
  rw [sinitM_er] at h1
  unfold runW
  rw [← sfArgs_er, hp]
  simp only [List.map_cons, List.map_nil]
  rw [h1]
  cases o with
  | nrm τ => obtain ⟨τs, rfl, h2⟩ := h2; exact sretWF_ok h2
  | ret τ => obtain ⟨τs, rfl, h2⟩ := h2; exact sretWF_ok h2
  | ext i τ => obtain ⟨τs, rfl, h2⟩ := h2; cases h2
 ·cases h
def SOk1 (P : Program) (fn : SFn) : Prop := (fn.mu.knd = 0 → PureSpec P fn.id fn.M) ∧ (fn.mu.knd = 1 → MutSpec P fn.id fn.mu fn.MM) ∧ (fn.mu.knd = 2 → VSpec P fn.id fn.MV) ∧ (fn.mu.knd = 3 → WSpec P fn.id fn.mu.tl fn.MW) ∧ chkFun P fn.id = true
def SOk (P : Program) (T : List SFn) : Prop := ∀ fn ∈ T, SOk1 P fn
theorem SOk.nil {P : Program} : SOk P [] := fun _ h => by cases h
theorem SOk.cons1 {P : Program} {fn : SFn} {T : List SFn} (h : SOk1 P fn) (hT : SOk P T) : SOk P (fn :: T) := by
 intro g hg
 cases hg with
 | head => exact h
 | tail _ hg => exact hT g hg
theorem SOk.cons {P : Program} {f : FuncId} {args res : Sig} {F : DLL args.tys → Option (DLL res.tys)} {T : List SFn} (h : PureSpec P f (SFn.M ⟨f, args, [], res, F⟩) ∧ chkFun P f = true) (hT : SOk P T) : SOk P (⟨f, args, [], res, F⟩ :: T) :=
 SOk.cons1 ⟨fun _ => h.1, fun hm => (by cases hm), fun hm => (by cases hm), fun hm => (by cases hm), h.2⟩ hT
theorem SOk.consM {P : Program} {f : FuncId} {args : Sig} {s : List (Option Mode)} {mu : MSig} {res : Sig} {F : DLL args.tys → Option (DLL res.tys)} {T : List SFn} (h : MutSpec P f (s :: mu) (SFn.MM ⟨f, args, s :: mu, res, F⟩) ∧ chkFun P f = true) (hT : SOk P T)
  (hk : MSig.knd (s :: mu) = 1 := by rfl) : SOk P (⟨f, args, s :: mu, res, F⟩ :: T) :=
 SOk.cons1 ⟨fun hm => absurd (hk.symm.trans hm) (by decide), fun _ => h.1, fun hm => absurd (hk.symm.trans hm) (by decide), fun hm => absurd (hk.symm.trans hm) (by decide), h.2⟩ hT
theorem SOk.consW {P : Program} {f : FuncId} {args : Sig} {mu : MSig} {res : Sig} {F : DLL args.tys → Option (DLL res.tys)} {T : List SFn} (h : WSpec P f mu (SFn.MW ⟨f, args, [some .bor, some .bor] :: mu, res, F⟩) ∧ chkFun P f = true) (hT : SOk P T) : SOk P (⟨f, args, [some .bor, some .bor] :: mu, res, F⟩ :: T) :=
 SOk.cons1 ⟨fun hm => (by cases hm), fun hm => (by cases hm), fun hm => (by cases hm), fun _ => h.1, h.2⟩ hT
theorem tab_find : ∀ {T : List SFn} {f : FuncId} {M : List Dv → Option (List Dv)}, Tab.find (tabOf T).pure f = some M → ∃ fn ∈ T, fn.id = f ∧ M = fn.M ∧ fn.mu.knd = 0
 | [], f, M, h => by simp [tabOf, Tab.find] at h
 | g :: l, f, M, h => by
  simp only [tabOf, List.filterMap_cons] at h
  by_cases hg : g.mu.knd = 0
  ·simp only [hg, Tab.find] at h
   split at h
   ·rename_i e
    injection h with h
    exact ⟨g, by simp, e.symm, h.symm, hg⟩
   ·obtain ⟨fn, h1, h2, h3⟩ := tab_find (T := l) h
    exact ⟨fn, by simp [h1], h2, h3⟩
  ·split at h
   ·obtain ⟨fn, h1, h2, h3⟩ := tab_find (T := l) h
    exact ⟨fn, by simp [h1], h2, h3⟩
   ·rename_i z hz
    split at hz
    ·rename_i h0; exact absurd h0 hg
    ·cases hz
theorem tab_findM : ∀ {T : List SFn} {f : FuncId} {sig : MSig} {M : List Dv → Option (List Dv × List C)}, Tab.findM (tabOf T).muts f = some (sig, M) → ∃ fn ∈ T, fn.id = f ∧ sig = fn.mu ∧ M = fn.MM ∧ fn.mu.knd = 1
 | [], f, sig, M, h => by simp [tabOf, Tab.findM] at h
 | g :: l, f, sig, M, h => by
  simp only [tabOf, List.filterMap_cons] at h
  by_cases hg : g.mu.knd = 1
  ·simp only [hg, Tab.findM] at h
   split at h
   ·rename_i e
    injection h with h
    injection h with ha hb
    exact ⟨g, by simp, e.symm, ha.symm, hb.symm, hg⟩
   ·obtain ⟨fn, h1, h2, h3⟩ := tab_findM (T := l) h
    exact ⟨fn, by simp [h1], h2, h3⟩
  ·split at h
   ·obtain ⟨fn, h1, h2, h3⟩ := tab_findM (T := l) h
    exact ⟨fn, by simp [h1], h2, h3⟩
   ·rename_i z hz
    split at hz
    ·rename_i h0; exact absurd h0 hg
    ·cases hz
theorem tab_findV : ∀ {T : List SFn} {f : FuncId} {M : List Dv → Option (List Dv × List C)}, Tab.findV (tabOf T).vs f = some M → ∃ fn ∈ T, fn.id = f ∧ M = fn.MV ∧ fn.mu.knd = 2
 | [], f, M, h => by simp [tabOf, Tab.findV] at h
 | g :: l, f, M, h => by
  simp only [tabOf, List.filterMap_cons] at h
  by_cases hg : g.mu.knd = 2
  ·simp only [hg, Tab.findV] at h
   split at h
   ·rename_i e
    injection h with h
    exact ⟨g, by simp, e.symm, h.symm, hg⟩
   ·obtain ⟨fn, h1, h2, h3⟩ := tab_findV (T := l) h
    exact ⟨fn, by simp [h1], h2, h3⟩
  ·split at h
   ·obtain ⟨fn, h1, h2, h3⟩ := tab_findV (T := l) h
    exact ⟨fn, by simp [h1], h2, h3⟩
   ·rename_i z hz
    split at hz
    ·rename_i h0; exact absurd h0 hg
    ·cases hz
theorem tab_findW : ∀ {T : List SFn} {f : FuncId} {sig : MSig} {M : List Dv → Option (Nat × Nat)}, Tab.findW (tabOf T).ws f = some (sig, M) → ∃ fn ∈ T, fn.id = f ∧ sig = fn.mu.tl ∧ M = fn.MW ∧ fn.mu.knd = 3
 | [], f, sig, M, h => by simp [tabOf, Tab.findW] at h
 | g :: l, f, sig, M, h => by
  simp only [tabOf, List.filterMap_cons] at h
  by_cases hg : g.mu.knd = 3
  ·simp only [hg, Tab.findW] at h
   split at h
   ·rename_i e
    injection h with h
    injection h with ha hb
    exact ⟨g, by simp, e.symm, ha.symm, hb.symm, hg⟩
   ·obtain ⟨fn, h1, h2, h3⟩ := tab_findW (T := l) h
    exact ⟨fn, by simp [h1], h2, h3⟩
  ·split at h
   ·obtain ⟨fn, h1, h2, h3⟩ := tab_findW (T := l) h
    exact ⟨fn, by simp [h1], h2, h3⟩
   ·rename_i z hz
    split at hz
    ·rename_i h0; exact absurd h0 hg
    ·cases hz
theorem SOk.tok {P : Program} {T : List SFn} (hT : SOk P T) : TOk P (tabOf T) := by
 refine ⟨fun g M hM => ?_, fun g sig M hM => ?_, fun g M hM => ?_, fun g sig M hM => ?_, fun g M hM => ?_⟩
 ·obtain ⟨fn', h1, h2, h3, h4⟩ := tab_find hM
  subst h2 h3
  exact (hT fn' h1).1 h4
 ·obtain ⟨fn', h1, h2, h3, h4, h5⟩ := tab_findM hM
  subst h2 h3 h4
  exact (hT fn' h1).2.1 h5
 ·obtain ⟨fn', h1, h2, h3, h4⟩ := tab_findV hM
  subst h2 h3
  exact (hT fn' h1).2.2.1 h4
 ·obtain ⟨fn', h1, h2, h3, h4, h5⟩ := tab_findW hM
  subst h2 h3 h4
  exact (hT fn' h1).2.2.2.1 h5
 ·obtain ⟨fn', h1, h2, h3, h4⟩ := tab_find hM
  subst h2
  exact (hT fn' h1).2.2.2.2
def chkS (P : Program) (f : FuncId) (mc : MCode) (ms : List MRes) (n : Nat) : Bool :=
 match P.funcs[f]? with
 | some fn => match fn.body with
  | some c => chkCode P fn.ntmps c mc && chkRes P fn.results.toList ms && decide (n ≤ fn.ntmps) && (fn.name != "runtime.NumGoroutine")
  | none => false
 | none => false
theorem chkS_fun {P : Program} {f : FuncId} {mc : MCode} {ms : List MRes} {n : Nat} (h : chkS P f mc ms n = true) : chkFun P f = true := by
 unfold chkS at h
 unfold chkFun
 split at h
 ·rename_i fn hf
  split at h
  ·rename_i c hb
   simp only [Bool.and_eq_true] at h
   simp [hf, hb, h.2]
  ·cases h
 ·cases h
theorem pure_of_runS {P : Program} {T : List SFn} (hT : SOk P T) (hm : P.follows .mixedOrders = true) {f : FuncId} {sc : SCode} {ms : List MRes} {args res : Sig} (hc : chkS P f sc.er ms args.length = true)
  (F : DLL args.tys → Option (DLL res.tys)) (hF : ∀ x y, F x = some y → runS FUEL T sc ms args res x = some y) : PureSpec P f (SFn.M ⟨f, args, [], res, F⟩) ∧ chkFun P f = true := by
 refine ⟨?_, chkS_fun hc⟩
 unfold chkS at hc
 split at hc
 ·rename_i fn hf
  split at hc
  ·rename_i c hb
   simp only [Bool.and_eq_true, decide_eq_true_eq] at hc
   refine pure_of_den (T := tabOf T) hT.tok hm hf hb hc.1.1.1 hc.1.1.2 fun ds rs hM => ?_
   obtain ⟨x, y, h1, h2, h3⟩ := SFn.M_some hM
   subst h1 h3
   exact ⟨by rw [erA_len]; exact hc.1.2, runS_ok (hF x y h2)⟩
  ·cases hc
 ·cases hc
theorem mut_of_runMS {P : Program} {T : List SFn} (hT : SOk P T) (hm : P.follows .mixedOrders = true) {f : FuncId} {sc : SCode} {ms : List MRes} {args : Sig} {mu : MSig} {res : Sig} (hc : chkS P f sc.er ms args.length = true)
  (F : DLL args.tys → Option (DLL res.tys)) (hF : ∀ x y, F x = some y → runMS FUEL T sc ms args mu res x = some y) : MutSpec P f mu (SFn.MM ⟨f, args, mu, res, F⟩) ∧ chkFun P f = true := by
 refine ⟨?_, chkS_fun hc⟩
 unfold chkS at hc
 split at hc
 ·rename_i fn hf
  split at hc
  ·rename_i c hb
   simp only [Bool.and_eq_true, decide_eq_true_eq] at hc
   refine mut_of_den (T := tabOf T) hT.tok hm hf hb hc.1.1.1 hc.1.1.2 fun ds rs outs hM => ?_
   unfold SFn.MM at hM
   rw [Option.map_eq_some_iff] at hM
   obtain ⟨rs', h0, h00⟩ := hM
   obtain ⟨x, y, h1, h2, h3⟩ := SFn.M_some h0
   subst h1 h3
   refine ⟨by rw [erA_len]; exact hc.1.2, ?_⟩
   rw [← h00]
   exact runMS_ok (hF x y h2)
  ·cases hc
 ·cases hc
theorem w_of_runWS {P : Program} {T : List SFn} (hT : SOk P T) (hm : P.follows .mixedOrders = true) {f : FuncId} {sc : SCode} {ms : List MRes} {args : Sig} {mu : MSig} (hc : chkS P f sc.er ms args.length = true)
  (hro : roC sc.er = true) (F : DLL args.tys → Option (DLL (Sig.tys wRes))) (hF : ∀ x y, F x = some y → runWS FUEL T sc ms args mu x = some y) : WSpec P f mu (SFn.MW ⟨f, args, [some .bor, some .bor] :: mu, wRes, F⟩) ∧ chkFun P f = true := by
 refine ⟨?_, chkS_fun hc⟩
 unfold chkS at hc
 split at hc
 ·rename_i fn hf
  split at hc
  ·rename_i c hb
   simp only [Bool.and_eq_true, decide_eq_true_eq] at hc
   refine w_of_den (T := tabOf T) hT.tok hm hf hb hc.1.1.1 hc.1.1.2 hro fun ds lo len hM => ?_
   unfold SFn.MW at hM
   rw [Option.bind_eq_some_iff] at hM
   obtain ⟨rs', h0, h00⟩ := hM
   obtain ⟨x, y, h1, h2, h3⟩ := SFn.M_some h0
   subst h1 h3
   obtain ⟨lo', len', k1, k2⟩ := runWS_ok (hF x y h2)
   have : (lo', len') = (lo, len) := by
    have := k2.symm.trans h00
    injection this
   injection this with g1 g2
   subst g1 g2
   exact ⟨by rw [erA_len]; exact hc.1.2, k1⟩
  ·cases hc
 ·cases hc
end Go.Am