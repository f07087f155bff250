/- S2: the typed evaluator's helpers. No condition. -/
import Derived.Test.YtbogogbogdafiaaS1
set_option linter.unusedVariables false
namespace Go.Am
def onB {ρ : Type} (b : Bool) (x : Option ρ) : Option ρ := match b with | true => x | false => none
def onEq {ρ : Type} (a b : Nat) (x : Option ρ) : Option ρ := match Nat.beq a b with | true => x | false => none
theorem onB_some {ρ : Type} {b : Bool} {x : Option ρ} {r : ρ} (h : onB b x = some r) : b = true ∧ x = some r := by
 cases b with
 | true => exact ⟨rfl, h⟩
 | false => cases h
theorem onEq_some {ρ : Type} {a b : Nat} {x : Option ρ} {r : ρ} (h : onEq a b x = some r) : a = b ∧ x = some r := by
 unfold onEq at h
 split at h
 ·rename_i e; exact ⟨Nat.eq_of_beq_eq_true e, h⟩
 ·cases h
abbrev TD := (t : Ty) × t.D
inductive SMO where
 | t (n : Nat)
 | k (v : SV)
def SMO.er : SMO → MO
 | .t n => .t n
 | .k v => .k v.er
def SSt.ev (σ : SSt) : SMO → SV
 | .t n => σ.env n
 | .k v => v
theorem SSt.er_ev (σ : SSt) (x : SMO) : σ.er.ev x.er = (σ.ev x).er := by cases x <;> rfl
def SV.cells? : SV → Option (Bool × List SC)
 | .one .junk => none
 | .one c => some (false, [c])
 | .agg cs => some (true, cs)
 | .tup _ => none
theorem SV.cells_er {v : SV} {b : Bool} {cs : List SC} (h : v.cells? = some (b, cs)) : v.er.cells? = some (b, cs.map SC.er) := by
 cases v with
 | one c => cases c <;> simp [SV.cells?] at h <;> (obtain ⟨rfl, rfl⟩ := h; rfl)
 | agg cs' => simp [SV.cells?] at h; obtain ⟨rfl, rfl⟩ := h; rfl
 | tup xs => simp [SV.cells?] at h
def toS : Bool → List SC → SV
 | true, cs => .agg cs
 | false, [c] => .one c
 | false, _ => .one .junk
theorem toS_er (b : Bool) (cs : List SC) : (toS b cs).er = toA b (cs.map SC.er) := by
 cases b with
 | true => rfl
 | false => match cs with
  | [] => rfl
  | [c] => rfl
  | _ :: _ :: _ => rfl
section
variable {ρ : Type}
def binK (op : BinOp) (k : IntKind) (a b : Int) (c : (t : Ty) → t.D → Option ρ) : Option ρ :=
 match op with
 | .add => c (.int k) (addI k a b)
 | .sub => c (.int k) (subI k a b)
 | .mul => c (.int k) (mulI k a b)
 | .quo => (quoI k a b).bnd fun x => c (.int k) x
 | .rem => (remI a b).bnd fun x => c (.int k) x
 | .and => c (.int k) (andI k a b)
 | .or => c (.int k) (orI k a b)
 | .xor => c (.int k) (xorI k a b)
 | .eql => c .bool (eqI a b)
 | .neq => c .bool (neI a b)
 | .lss => c .bool (ltI a b)
 | .leq => c .bool (leI a b)
 | .gtr => c .bool (ltI b a)
 | .geq => c .bool (leI b a)
 | _ => none
theorem binK_ok {op : BinOp} {k : IntKind} {a b : Int} {c : (t : Ty) → t.D → Option ρ} {r : ρ} (h : binK op k a b c = some r) :
    ∃ (t : Ty) (x : t.D), binI op k a b = some (t.er x) ∧ c t x = some r := by
  cases op <;> first
    | exact ⟨.int k, _, rfl, h⟩
    | exact ⟨.bool, _, rfl, h⟩
    | (simp only [binK, quoI, remI, bnd_some] at h
       obtain ⟨x, h1, h2⟩ := h
       split at h1
       · cases h1
       · rename_i hb
         injection h1 with h1
         subst h1
         exact ⟨.int k, _, by simp [binI, hb, Ty.er], h2⟩)
    | (simp [binK] at h)

def shK (op : BinOp) (k : IntKind) (a b : Int) (c : (t : Ty) → t.D → Option ρ) : Option ρ :=
 match op with
 | .shl => (shlI k a b).bnd fun x => c (.int k) x
 | .shr => (shrI k a b).bnd fun x => c (.int k) x
 | _ => none
theorem shK_ok {op : BinOp} {k : IntKind} {a b : Int} {c : (t : Ty) → t.D → Option ρ} {r : ρ} (h : shK op k a b c = some r) :
    ∃ (t : Ty) (x : t.D), shI op k a b = some (t.er x) ∧ c t x = some r := by
  cases op <;> first
    | (simp only [shK, shlI, shrI, bnd_some] at h
       obtain ⟨x, h1, h2⟩ := h
       split at h1
       · cases h1
       · rename_i hb
         injection h1 with h1
         subst h1
         exact ⟨.int k, _, by simp [shI, hb, Ty.er], h2⟩)
    | (simp [shK] at h)

def binS (op : BinOp) (x y : SV) (c : (t : Ty) → t.D → Option ρ) : Option ρ :=
 match x, y with
 | .one (.v (.int k) a), .one (.v (.int k') b) => match BinOp.isSh op with
  | true => shK op k a b c
  | false => match decide (k = k') with
   | true => binK op k a b c
   | false => none
 | _, _ => none
theorem binS_ok {op : BinOp} {x y : SV} {c : (t : Ty) → t.D → Option ρ} {r : ρ} (h : binS op x y c = some r) :
  ∃ (t : Ty) (z : t.D), binA op x.er y.er = some (t.er z) ∧ c t z = some r := by
 unfold binS at h
 split at h
 ·rename_i k a k' b
  split at h
  ·rename_i e
   obtain ⟨t, z, h1, h2⟩ := shK_ok h
   exact ⟨t, z, by simp [SV.er, SC.er, Ty.er, binA, e]; exact h1, h2⟩
  ·rename_i e
   split at h
   ·rename_i hk
    have hk := of_decide_eq_true hk
    obtain ⟨t, z, h1, h2⟩ := binK_ok h
    exact ⟨t, z, by simp [SV.er, SC.er, Ty.er, binA, e, hk]; subst hk; exact h1, h2⟩
   ·cases h
 ·cases h
def binBS (op : BinOp) (x y : SV) (c : (t : Ty) → t.D → Option ρ) : Option ρ :=
 match x, y with
 | .one (.v .bool a), .one (.v .bool b) => match op with
  | .eql => c .bool (eqB a b)
  | .neq => c .bool (neB a b)
  | _ => none
 | _, _ => none
theorem binBS_ok {op : BinOp} {x y : SV} {c : (t : Ty) → t.D → Option ρ} {r : ρ} (h : binBS op x y c = some r) :
  ∃ (t : Ty) (z : t.D), binB op x.er y.er = some (t.er z) ∧ c t z = some r := by
 unfold binBS at h
 split at h
 ·rename_i a b
  split at h
  ·exact ⟨.bool, _, rfl, h⟩
  ·exact ⟨.bool, _, rfl, h⟩
  ·cases h
 ·cases h
def unS (op : UnOp) (x : SV) (c : (t : Ty) → t.D → Option ρ) : Option ρ :=
 match x with
 | .one (.v .bool a) => match op with
  | .not => c .bool (notB a)
  | _ => none
 | .one (.v (.int k) a) => match op with
  | .neg => c (.int k) (negI k a)
  | _ => none
 | _ => none
theorem unS_ok {op : UnOp} {x : SV} {c : (t : Ty) → t.D → Option ρ} {r : ρ} (h : unS op x c = some r) :
  ∃ (t : Ty) (z : t.D), unA op x.er = some (t.er z) ∧ c t z = some r := by
 unfold unS at h
 split at h
 ·rename_i a
  split at h
  ·exact ⟨.bool, _, rfl, h⟩
  ·cases h
 ·rename_i k a
  split at h
  ·exact ⟨.int k, _, rfl, h⟩
  ·cases h
 ·cases h
def SV.int? : SV → Option Int
 | .one (.v (.int k) n) => some n
 | _ => none
theorem SV.int_er {v : SV} {n : Int} (h : v.int? = some n) : v.er.int? = some n := by
 unfold SV.int? at h
 split at h
 ·injection h with h; subst h; rfl
 ·cases h
def sload (h : Nat → Option SB) (p : SC) (sz : Nat) (c : List SC → Option ρ) : Option ρ :=
 match p with
 | .ptr n k rsz off => match h n with
  | some (.box cs) => onEq k 0 (match sub cs off sz with | some l => c l | none => none)
  | some (.row _ m ts xs) => onEq rsz ts.length ((getN xs k).bnd fun e =>
    match sub (match m with | .live => Ty.live n k ts.length 0 ts e | _ => Ty.cells ts e) off sz with
    | some l => c l
    | none => none)
  | none => none
 | .dptr ts x off => match sub (Ty.cells ts x) off sz with | some l => c l | none => none
 | _ => none
theorem sload_ok {h : Nat → Option SB} {p : SC} {sz : Nat} {c : List SC → Option ρ} {r : ρ} (hx : sload h p sz c = some r) :
  ∃ l, loadAt (erH h) p.er sz = some (l.map SC.er) ∧ c l = some r := by
 unfold sload at hx
 split at hx
 ·rename_i n k rsz off
  split at hx
  ·rename_i cs hn
   have he_ := (onEq_some hx).1; replace hx := (onEq_some hx).2; subst he_
   split at hx
   ·rename_i l e
    refine ⟨l, ?_, hx⟩
    simp [SC.er, loadAt, erH, hn, SB.er, sub_map, e]
   ·cases hx
  ·rename_i gr m ts xs hn
   have he_ := (onEq_some hx).1; replace hx := (onEq_some hx).2; subst he_
   rw [bnd_some] at hx
   obtain ⟨e, he, hx⟩ := hx
   replace he : xs[k]? = some e := he
   split at hx
   ·rename_i l hl
    refine ⟨l, ?_, hx⟩
    have hget : (List.map (Ty.erL ts) xs)[k]? = some (Ty.erL ts e) := by rw [List.getElem?_map, he]; rfl
    simp only [SC.er, loadAt, erH, hn, Option.map_some, SB.er, if_true, hget]
    cases m with
    | live =>
     simp only at hl
     have := congrArg (Option.map (List.map SC.er)) hl
     rw [← sub_map, Ty.live_er, sub_live] at this
     cases hs : sub (Ty.erL ts e) off sz with
     | none => rw [hs] at this; cases this
     | some l' => rw [hs] at this; simpa using this
    | froz =>
     simp only at hl
     have := congrArg (Option.map (List.map SC.er)) hl
     rw [← sub_map, Ty.cells_er, sub_map] at this
     cases hs : sub (Ty.erL ts e) off sz with
     | none => rw [hs] at this; cases this
     | some l' => rw [hs] at this; simpa using this
    | bor =>
     simp only at hl
     have := congrArg (Option.map (List.map SC.er)) hl
     rw [← sub_map, Ty.cells_er, sub_map] at this
     cases hs : sub (Ty.erL ts e) off sz with
     | none => rw [hs] at this; cases this
     | some l' => rw [hs] at this; simpa using this
   ·cases hx
  ·cases hx
 ·rename_i ts x off
  split at hx
  ·rename_i l hl
   refine ⟨l, ?_, hx⟩
   have := congrArg (Option.map (List.map SC.er)) hl
   rw [← sub_map, Ty.cells_er, sub_map] at this
   simpa [SC.er, loadAt] using this
  ·cases hx
 ·cases hx
theorem dats_get : ∀ {ts : List Ty} {e : Ty.DL ts} {off : Nat} {x : TD}, (Ty.dats ts e)[off]? = some x → (Ty.erL ts e)[off]? = some (x.1.er x.2) := by
 intro ts e off x h
 rw [← Ty.dats_er, erD, List.getElem?_map, h]
 rfl
def sviewC (h : Nat → Option SB) (c : SC) (k : (t : Ty) → t.D → Option ρ) : Option ρ :=
 match c with
 | .v t x => k t x
 | .nil ts => match ts with
  | [] => none
  | t :: us => k (.list (t :: us)) ([] : List (Ty.DL (t :: us)))
 | .sl n sz lo len => match h n with
  | some (.row _ _ ts xs) => onEq ts.length sz ((winI xs lo len).bnd fun ys => k (.list ts) ys)
  | _ => none
 | .nsl n kk rsz off sz len => match h n with
  | some (.row _ .live ts xs) => onEq ts.length rsz ((getN xs kk).bnd fun e => match (Ty.dats ts e)[off]? with
    | some ⟨t, x⟩ => k t x
    | none => none)
  | _ => none
 | _ => none
theorem win_er {ts : List Ty} {xs ys : List (Ty.DL ts)} {lo len : Nat} (h : winI xs lo len = some ys) : lo + len ≤ xs.length ∧ ((List.map (Ty.erL ts) xs).drop lo).take len = List.map (Ty.erL ts) ys := by
 unfold winI at h
 split at h
 ·rename_i hl
  injection h with h
  subst h
  exact ⟨hl, by simp [List.map_drop, List.map_take]⟩
 ·cases h
theorem sviewC_ok {h : Nat → Option SB} {c : SC} {k : (t : Ty) → t.D → Option ρ} {r : ρ} (hx : sviewC h c k = some r) :
  ∃ (t : Ty) (x : t.D), viewC (erH h) c.er = some (t.er x) ∧ k t x = some r := by
 unfold sviewC at hx
 split at hx
 ·exact ⟨_, _, rfl, hx⟩
 ·split at hx
  ·cases hx
  ·rename_i t us
   exact ⟨.list (t :: us), [], by simp [SC.er, viewC, Ty.er], hx⟩
 ·rename_i n sz lo len
  split at hx
  ·rename_i gr m ts xs hn
   have he_ := (onEq_some hx).1; replace hx := (onEq_some hx).2; subst he_
   rw [bnd_some] at hx
   obtain ⟨ys, hw, hx⟩ := hx
   obtain ⟨w1, w2⟩ := win_er hw
   refine ⟨.list ts, ys, ?_, hx⟩
   simp only [SC.er, viewC, erH, hn, Option.map_some, SB.er, List.length_map, Ty.er, w2, w1, and_self, if_true]
  ·cases hx
 ·rename_i n kk rsz off sz len
  split at hx
  ·rename_i gr ts xs hn
   have he_ := (onEq_some hx).1; replace hx := (onEq_some hx).2; subst he_
   rw [bnd_some] at hx
   obtain ⟨e, he, hx⟩ := hx
   replace he : xs[kk]? = some e := he
   split at hx
   ·rename_i t x hd
    refine ⟨t, x, ?_, hx⟩
    have := dats_get hd
    simp only [SC.er, viewC, erH, hn, Option.map_some, SB.er, if_true, List.getElem?_map, he, Option.bind_some, this]
   ·cases hx
  ·cases hx
 ·cases hx
def sviewL (h : Nat → Option SB) : List SC → (List TD → Option ρ) → Option ρ
 | [], k => k []
 | c :: cs, k => sviewC h c fun t x => sviewL h cs fun l => k (⟨t, x⟩ :: l)
theorem sviewL_ok {h : Nat → Option SB} : ∀ {cs : List SC} {k : List TD → Option ρ} {r : ρ}, sviewL h cs k = some r →
  ∃ l, viewL (erH h) (cs.map SC.er) = some (erD l) ∧ k l = some r
 | [], k, r, hx => ⟨[], rfl, hx⟩
 | c :: cs, k, r, hx => by
  simp only [sviewL] at hx
  obtain ⟨t, x, h1, h2⟩ := sviewC_ok hx
  obtain ⟨l, h3, h4⟩ := sviewL_ok h2
  exact ⟨⟨t, x⟩ :: l, by simp [viewL, h1, h3, erD], h4⟩
abbrev SDv := K × List TD
def SDv.er (d : SDv) : Dv := (d.1, erD d.2)
def sviewA (h : Nat → Option SB) (v : SV) (k : SDv → Option ρ) : Option ρ :=
 match v with
 | .one (.ptr n kk sz off) => match h n with
  | some (.box cs) => onEq kk 0 (onEq off 0 (sviewL h cs fun l => k (.ptr, l)))
  | _ => none
 | .one (.dptr ts x off) => onEq off 0 (k (.ptr, Ty.dats ts x))
 | .one c => sviewC h c fun t x => k (.one, [⟨t, x⟩])
 | .agg cs => sviewL h cs fun l => k (.agg, l)
 | .tup _ => none
theorem sviewA_ok {h : Nat → Option SB} {v : SV} {k : SDv → Option ρ} {r : ρ} (hx : sviewA h v k = some r) :
  ∃ d : SDv, viewA (erH h) v.er = some d.er ∧ k d = some r := by
 unfold sviewA at hx
 split at hx
 ·rename_i n kk sz off
  split at hx
  ·rename_i cs hn
   have he_ := (onEq_some hx).1; replace hx := (onEq_some hx).2; subst he_
   have he_ := (onEq_some hx).1; replace hx := (onEq_some hx).2; subst he_
   obtain ⟨l, h1, h2⟩ := sviewL_ok hx
   exact ⟨(.ptr, l), by simp [SV.er, SC.er, viewA, erH, hn, SB.er]; exact ⟨_, h1, rfl⟩, h2⟩
  ·cases hx
 ·rename_i ts x off
  have he_ := (onEq_some hx).1; replace hx := (onEq_some hx).2; subst he_
  exact ⟨(.ptr, Ty.dats ts x), by simp [SV.er, SC.er, viewA, SDv.er, Ty.dats_er], hx⟩
 ·rename_i c hp hd
  obtain ⟨t, x, h1, h2⟩ := sviewC_ok hx
  refine ⟨(.one, [⟨t, x⟩]), ?_, h2⟩
  cases c with
  | ptr n kk sz off => exact absurd rfl (hp n kk sz off)
  | dptr ts x off => exact absurd rfl (hd ts x off)
  | v t' x' => simp only [SV.er, SC.er, viewA] at h1 ⊢; rw [h1]; rfl
  | nil ts => simp only [SV.er, SC.er, viewA] at h1 ⊢; rw [h1]; rfl
  | sl n sz lo len => simp only [SV.er, SC.er, viewA] at h1 ⊢; rw [h1]; rfl
  | nsl n a b c' d e => simp only [SV.er, SC.er, viewA] at h1 ⊢; rw [h1]; rfl
  | nptr n a b c' d e => simp only [SV.er, SC.er, viewA] at h1 ⊢; rw [h1]; rfl
  | fn f caps => simp only [SV.er, SC.er, viewA] at h1 ⊢; rw [h1]; rfl
  | junk => simp only [SV.er, SC.er, viewA] at h1 ⊢; rw [h1]; rfl
 ·obtain ⟨l, h1, h2⟩ := sviewL_ok hx
  exact ⟨(.agg, l), by simp [SV.er, viewA, h1, SDv.er], h2⟩
 ·cases hx
def sviewAs (h : Nat → Option SB) : List SV → (List SDv → Option ρ) → Option ρ
 | [], k => k []
 | v :: vs, k => sviewA h v fun d => sviewAs h vs fun l => k (d :: l)
theorem sviewAs_ok {h : Nat → Option SB} : ∀ {vs : List SV} {k : List SDv → Option ρ} {r : ρ}, sviewAs h vs k = some r →
  ∃ l, viewAs (erH h) (vs.map SV.er) = some (l.map SDv.er) ∧ k l = some r
 | [], k, r, hx => ⟨[], rfl, hx⟩
 | v :: vs, k, r, hx => by
  simp only [sviewAs] at hx
  obtain ⟨d, h1, h2⟩ := sviewA_ok hx
  obtain ⟨l, h3, h4⟩ := sviewAs_ok h2
  exact ⟨d :: l, by simp [viewAs, h1, h3], h4⟩
def Mode.own : Mode → Bool
 | .bor => false
 | _ => true
theorem Mode.own_eq (m : Mode) : decide (m ≠ .bor) = m.own := by cases m <;> rfl
def stakeC (σ : SSt) (c : SC) (k : (t : Ty) → t.D → Bool → SSt → Option ρ) : Option ρ :=
 match c with
 | .v t x => k t x t.scal σ
 | .nil ts => match ts with
  | [] => none
  | t :: us => k (.list (t :: us)) ([] : List (Ty.DL (t :: us))) true σ
 | .sl n sz lo len => match σ.h n with
  | some (.row _ m ts xs) => onEq ts.length sz (onEq lo 0 ((takI xs len).bnd fun ys => k (.list ts) ys m.own (σ.del n)))
  | _ => none
 | _ => none
theorem tak_er {ts : List Ty} {xs ys : List (Ty.DL ts)} {len : Nat} (h : takI xs len = some ys) : len ≤ xs.length ∧ (List.map (Ty.erL ts) xs).take len = List.map (Ty.erL ts) ys := by
 unfold takI at h
 split at h
 ·rename_i hl
  injection h with h
  subst h
  exact ⟨hl, by simp [List.map_take]⟩
 ·cases h
theorem stakeC_ok {σ : SSt} {c : SC} {k : (t : Ty) → t.D → Bool → SSt → Option ρ} {r : ρ} (hx : stakeC σ c k = some r) :
  ∃ (t : Ty) (x : t.D) (o : Bool) (σ1 : SSt), σ.er.takeC c.er = some (t.er x, o, σ1.er) ∧ k t x o σ1 = some r := by
 unfold stakeC at hx
 split at hx
 ·rename_i t x
  exact ⟨_, _, _, _, by simp only [SC.er, St.takeC, Ty.scal_er], hx⟩
 ·split at hx
  ·cases hx
  ·rename_i t us
   exact ⟨.list (t :: us), [], true, σ, by simp [SC.er, St.takeC, Ty.er], hx⟩
 ·rename_i n sz lo len
  split at hx
  ·rename_i gr m ts xs hn
   have he_ := (onEq_some hx).1; replace hx := (onEq_some hx).2; subst he_
   have he_ := (onEq_some hx).1; replace hx := (onEq_some hx).2; subst he_
   rw [bnd_some] at hx
   obtain ⟨ys, hw, hx⟩ := hx
   obtain ⟨w1, w2⟩ := tak_er hw
   refine ⟨.list ts, ys, m.own, σ.del n, ?_, hx⟩
   have hn' : σ.er.h n = some (.row gr m ts.length (List.map (Ty.erL ts) xs)) := by simp [SSt.er, erH, hn, SB.er]
   simp only [SC.er, St.takeC, hn', List.length_map, w1, w2, and_self, if_true, Ty.er, SSt.er_del, Mode.own_eq]
  ·cases hx
 ·cases hx
def stakeL (σ : SSt) : List SC → (List TD → Bool → SSt → Option ρ) → Option ρ
 | [], k => k [] true σ
 | c :: cs, k => stakeC σ c fun t x o σ1 => stakeL σ1 cs fun l o' σ2 => k (⟨t, x⟩ :: l) (o && o') σ2
theorem stakeL_ok : ∀ {cs : List SC} {σ : SSt} {k : List TD → Bool → SSt → Option ρ} {r : ρ}, stakeL σ cs k = some r →
  ∃ (l : List TD) (o : Bool) (σ1 : SSt), σ.er.takeL (cs.map SC.er) = some (erD l, o, σ1.er) ∧ k l o σ1 = some r
 | [], σ, k, r, hx => ⟨[], true, σ, rfl, hx⟩
 | c :: cs, σ, k, r, hx => by
  simp only [stakeL] at hx
  obtain ⟨t, x, o, σ1, h1, h2⟩ := stakeC_ok hx
  obtain ⟨l, o', σ2, h3, h4⟩ := stakeL_ok h2
  exact ⟨⟨t, x⟩ :: l, o && o', σ2, by simp [St.takeL, h1, h3, erD], h4⟩
def stakeEs (ts : List Ty) (σ : SSt) : List SV → (List (Ty.DL ts) → Bool → SSt → Option ρ) → Option ρ
 | [], k => k [] true σ
 | v :: vs, k => match v.cells? with
  | some (_, cs) => stakeL σ cs fun l o σ1 => match mkDL ts l with
   | some e => stakeEs ts σ1 vs fun es o' σ2 => k (e :: es) (o && o') σ2
   | none => none
  | none => none
theorem takeL_len : ∀ {cs : List ACell} {σ σ1 : St} {l : List C} {o : Bool}, σ.takeL cs = some (l, o, σ1) → l.length = cs.length
 | [], σ, σ1, l, o, h => by simp [St.takeL] at h; rw [h.1]; rfl
 | c :: cs, σ, σ1, l, o, h => by
  simp only [St.takeL] at h
  split at h
  ·split at h
   ·rename_i e2
    injection h with h
    injection h with h h2
    subst h
    simp [takeL_len e2]
   ·cases h
  ·cases h
theorem stakeEs_ok {ts : List Ty} : ∀ {vs : List SV} {σ : SSt} {k : List (Ty.DL ts) → Bool → SSt → Option ρ} {r : ρ}, stakeEs ts σ vs k = some r →
  ∃ (es : List (Ty.DL ts)) (o : Bool) (σ1 : SSt), σ.er.takeEs ts.length (vs.map SV.er) = some (List.map (Ty.erL ts) es, o, σ1.er) ∧ k es o σ1 = some r
 | [], σ, k, r, hx => ⟨[], true, σ, rfl, hx⟩
 | v :: vs, σ, k, r, hx => by
  simp only [stakeEs] at hx
  split at hx
  ·rename_i b cs hc
   obtain ⟨l, o, σ1, h1, h2⟩ := stakeL_ok hx
   split at h2
   ·rename_i e he
    obtain ⟨es, o', σ2, h3, h4⟩ := stakeEs_ok h2
    have hl : (cs.map SC.er).length = ts.length := by
     have a := takeL_len h1
     rw [← mkDL_er he, Ty.erL_len] at a
     exact a.symm
    refine ⟨e :: es, o && o', σ2, ?_, h4⟩
    simp only [List.map_cons, St.takeEs, SV.cells_er hc, hl, if_true, h1, h3, mkDL_er he]
   ·cases h2
  ·cases hx
end
end Go.Am