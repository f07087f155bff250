/- S5: shapes of states; loop heads of the typed evaluator. No condition. -/
import Derived.Test.YtbogogbogdafiaaS4
set_option linter.unusedVariables false
namespace Go.Am
inductive LT where
 | unit
 | ty (t : Ty)
 | dl (ts : List Ty)
 | nat
 | pair (a b : LT)
def LT.D : LT → Type
 | .unit => Unit
 | .ty t => t.D
 | .dl ts => Ty.DL ts
 | .nat => Nat
 | .pair a b => a.D × b.D
def LT.sp2 (a : LT) : LT → LT
 | .unit => a
 | .ty t => .pair a (.ty t)
 | .dl ts => .pair a (.dl ts)
 | .nat => .pair a .nat
 | .pair x y => .pair a (.pair x y)
def LT.sp : LT → LT → LT
 | .unit, b => b
 | .ty t, b => LT.sp2 (.ty t) b
 | .dl ts, b => LT.sp2 (.dl ts) b
 | .nat, b => LT.sp2 .nat b
 | .pair x y, b => LT.sp2 (.pair x y) b
def LT.spl2 (a : LT) : (b : LT) → (LT.sp2 a b).D → a.D × b.D
 | .unit, x => (x, ())
 | .ty _, x => x
 | .dl _, x => x
 | .nat, x => x
 | .pair _ _, x => x
def LT.spl : (a b : LT) → (LT.sp a b).D → a.D × b.D
 | .unit, b, x => ((), x)
 | .ty t, b, x => LT.spl2 (.ty t) b x
 | .dl ts, b, x => LT.spl2 (.dl ts) b x
 | .nat, b, x => LT.spl2 .nat b x
 | .pair x y, b, z => LT.spl2 (.pair x y) b z
def LT.spj2 (a : LT) : (b : LT) → a.D → b.D → (LT.sp2 a b).D
 | .unit, x, _ => x
 | .ty _, x, y => (x, y)
 | .dl _, x, y => (x, y)
 | .nat, x, y => (x, y)
 | .pair _ _, x, y => (x, y)
def LT.spj : (a b : LT) → a.D → b.D → (LT.sp a b).D
 | .unit, b, _, y => y
 | .ty t, b, x, y => LT.spj2 (.ty t) b x y
 | .dl ts, b, x, y => LT.spj2 (.dl ts) b x y
 | .nat, b, x, y => LT.spj2 .nat b x y
 | .pair u v, b, x, y => LT.spj2 (.pair u v) b x y
theorem LT.spl2_spj2 (a b : LT) (x : a.D) (y : b.D) : LT.spl2 a b (LT.spj2 a b x y) = (x, y) := by cases b <;> rfl
theorem LT.spl_spj (a b : LT) (x : a.D) (y : b.D) : LT.spl a b (LT.spj a b x y) = (x, y) := by
 cases a with
 | unit => rfl
 | _ => exact LT.spl2_spj2 _ b x y
section
variable {α β : Type} {ρ : Type} {L : α → LT}
def LL (L : α → LT) : List α → LT
 | [] => .unit
 | a :: l => LT.sp (L a) (LL L l)
def unL (un : (a : α) → (L a).D → β) : (l : List α) → (LL L l).D → List β
 | [], _ => []
 | a :: l, x => un a (LT.spl (L a) (LL L l) x).1 :: unL un l (LT.spl (L a) (LL L l) x).2
def flatL (flat : (a : α) → β → ((L a).D → Option ρ) → Option ρ) : (l : List α) → List β → ((LL L l).D → Option ρ) → Option ρ
 | [], [], k => k ()
 | a :: l, b :: bs, k => flat a b fun x => flatL flat l bs fun y => k (LT.spj (L a) (LL L l) x y)
 | _, _, _ => none
theorem flatL_ok {flat : (a : α) → β → ((L a).D → Option ρ) → Option ρ} {un : (a : α) → (L a).D → β}
  (hf : ∀ a b k r, flat a b k = some r → ∃ x, b = un a x ∧ k x = some r) : ∀ {l : List α} {bs : List β} {k : (LL L l).D → Option ρ} {r : ρ}, flatL flat l bs k = some r →
  ∃ x, bs = unL un l x ∧ k x = some r
 | [], [], k, r, h => ⟨(), rfl, h⟩
 | a :: l, b :: bs, k, r, h => by
  simp only [flatL] at h
  obtain ⟨x, rfl, h2⟩ := hf _ _ _ _ h
  obtain ⟨y, rfl, h4⟩ := flatL_ok hf h2
  exact ⟨LT.spj (L a) (LL L l) x y, by simp only [unL, LT.spl_spj], h4⟩
 | [], _ :: _, k, r, h => by simp [flatL] at h
 | _ :: _, [], k, r, h => by simp [flatL] at h
end
inductive Sh0 where
 | v (t : Ty)
 | nil (ts : List Ty)
 | ptr0 (n off : Nat)
 | ptr (n sz off : Nat)
 | dptr (ts : List Ty) (off : Nat)
 | full (n sz : Nat)
 | sl (n sz : Nat)
 | nsl (n rsz off sz : Nat)
 | junk
inductive ShC where
 | c (s : Sh0)
 | fn (f : FuncId) (caps : List Sh0)
inductive ShV where
 | one (c : ShC)
 | agg (cs : List ShC)
 | tup (xs : List (Bool × List ShC))
inductive ShB where
 | box (cs : List ShC)
 | row (gr : Bool) (m : Mode) (ts : List Ty)
structure Shape where
 env : List (Nat × ShV)
 heap : List (Nat × ShB)
abbrev Shape.ke (sh : Shape) : List Nat := sh.env.map (·.1)
def Sh0.L : Sh0 → LT
 | .v t => .ty t
 | .nil _ => .unit
 | .ptr0 _ _ => .unit
 | .ptr _ _ _ => .nat
 | .dptr ts _ => .dl ts
 | .full _ _ => .unit
 | .sl _ _ => .pair .nat .nat
 | .nsl _ _ _ _ => .pair .nat .nat
 | .junk => .unit
def Sh0.un (ln : Nat → Nat) : (s : Sh0) → s.L.D → SC
 | .v t, x => .v t x
 | .nil ts, _ => .nil ts
 | .ptr0 n off, _ => .ptr n 0 0 off
 | .ptr n sz off, k => .ptr n k sz off
 | .dptr ts off, x => .dptr ts x off
 | .full n sz, _ => .sl n sz 0 (ln n)
 | .sl n sz, x => .sl n sz x.1 x.2
 | .nsl n rsz off sz, x => .nsl n x.1 rsz off sz x.2
 | .junk, _ => .junk
section
variable {ρ : Type}
def Sh0.flat (ln : Nat → Nat) (s : Sh0) (c : SC) (k : s.L.D → Option ρ) : Option ρ :=
 match s, c with
 | .v t, .v u x => match Ty.cast u t x with
  | some y => k y
  | none => none
 | .nil ts, .nil us => onB (Ty.beqL us ts) (k ())
 | .ptr0 n off, .ptr n' kk sz off' => onEq n' n (onEq kk 0 (onEq sz 0 (onEq off' off (k ()))))
 | .ptr n sz off, .ptr n' kk sz' off' => onEq n' n (onEq sz' sz (onEq off' off (k kk)))
 | .dptr ts off, .dptr us x off' => onEq off' off (match Ty.castL us ts x with
  | some y => k y
  | none => none)
 | .full n sz, .sl n' sz' lo len => onEq n' n (onEq sz' sz ((fulI lo len (ln n)).bnd fun _ => k ()))
 | .sl n sz, .sl n' sz' lo len => onEq n' n (onEq sz' sz (k (lo, len)))
 | .nsl n rsz off sz, .nsl n' kk rsz' off' sz' len => onEq n' n (onEq rsz' rsz (onEq off' off (onEq sz' sz (k (kk, len)))))
 | .junk, .junk => k ()
 | _, _ => none
theorem Ty.cast_eq {t u : Ty} {x : t.D} {y : u.D} (h : Ty.cast t u x = some y) : SC.v t x = SC.v u y := by
 unfold Ty.cast at h
 split at h
 ·rename_i he
  have := Ty.beq_eq he
  subst this
  injection h with h
  rw [← h]
 ·cases h
theorem Ty.castL_eq {ts us : List Ty} {x : Ty.DL ts} {y : Ty.DL us} (h : Ty.castL ts us x = some y) (off : Nat) : SC.dptr ts x off = SC.dptr us y off := by
 unfold Ty.castL at h
 split at h
 ·rename_i he
  have := Ty.beqL_eq he
  subst this
  injection h with h
  rw [← h]
 ·cases h
theorem Sh0.flat_ok {ln : Nat → Nat} (s : Sh0) (c : SC) (k : s.L.D → Option ρ) (r : ρ) (h : s.flat ln c k = some r) : ∃ x, c = s.un ln x ∧ k x = some r := by
 cases s with
 | v t =>
  cases c <;> simp only [Sh0.flat] at h <;> first | (cases h; done) | skip
  split at h
  ·rename_i y hy
   exact ⟨y, Ty.cast_eq hy, h⟩
  ·cases h
 | nil ts =>
  cases c <;> simp only [Sh0.flat] at h <;> first | (cases h; done) | skip
  have h1 := (onB_some h).1; replace h := (onB_some h).2
  exact ⟨(), by rw [Ty.beqL_eq h1]; rfl, h⟩
 | ptr0 n off =>
  cases c <;> simp only [Sh0.flat] at h <;> first | (cases h; done) | skip
  have he_ := (onEq_some h).1; replace h := (onEq_some h).2; subst he_
  have he_ := (onEq_some h).1; replace h := (onEq_some h).2; subst he_
  have he_ := (onEq_some h).1; replace h := (onEq_some h).2; subst he_
  have he_ := (onEq_some h).1; replace h := (onEq_some h).2; subst he_
  exact ⟨(), rfl, h⟩
 | ptr n sz off =>
  cases c <;> simp only [Sh0.flat] at h <;> first | (cases h; done) | skip
  have he_ := (onEq_some h).1; replace h := (onEq_some h).2; subst he_
  have he_ := (onEq_some h).1; replace h := (onEq_some h).2; subst he_
  have he_ := (onEq_some h).1; replace h := (onEq_some h).2; subst he_
  exact ⟨_, rfl, h⟩
 | dptr ts off =>
  cases c <;> simp only [Sh0.flat] at h <;> first | (cases h; done) | skip
  have he_ := (onEq_some h).1; replace h := (onEq_some h).2; subst he_
  split at h
  ·rename_i y hy
   exact ⟨y, Ty.castL_eq hy _, h⟩
  ·cases h
 | full n sz =>
  cases c <;> simp only [Sh0.flat] at h <;> first | (cases h; done) | skip
  have he_ := (onEq_some h).1; replace h := (onEq_some h).2; subst he_
  have he_ := (onEq_some h).1; replace h := (onEq_some h).2; subst he_
  rw [bnd_some] at h
  obtain ⟨_, hf, h⟩ := h
  unfold fulI at hf
  split at hf
  ·rename_i hc
   obtain ⟨rfl, rfl⟩ := hc
   exact ⟨(), rfl, h⟩
  ·cases hf
 | sl n sz =>
  cases c <;> simp only [Sh0.flat] at h <;> first | (cases h; done) | skip
  have he_ := (onEq_some h).1; replace h := (onEq_some h).2; subst he_
  have he_ := (onEq_some h).1; replace h := (onEq_some h).2; subst he_
  exact ⟨_, rfl, h⟩
 | nsl n rsz off sz =>
  cases c <;> simp only [Sh0.flat] at h <;> first | (cases h; done) | skip
  have he_ := (onEq_some h).1; replace h := (onEq_some h).2; subst he_
  have he_ := (onEq_some h).1; replace h := (onEq_some h).2; subst he_
  have he_ := (onEq_some h).1; replace h := (onEq_some h).2; subst he_
  have he_ := (onEq_some h).1; replace h := (onEq_some h).2; subst he_
  exact ⟨_, rfl, h⟩
 | junk =>
  cases c <;> simp only [Sh0.flat] at h <;> first | (cases h; done) | skip
  exact ⟨(), rfl, h⟩
def ShC.L : ShC → LT
 | .c s => s.L
 | .fn _ caps => LL Sh0.L caps
def ShC.un (ln : Nat → Nat) : (s : ShC) → s.L.D → SC
 | .c s, x => s.un ln x
 | .fn f caps, x => .fn f (unL (Sh0.un ln) caps x)
def ShC.flat (ln : Nat → Nat) (s : ShC) (c : SC) (k : s.L.D → Option ρ) : Option ρ :=
 match s, c with
 | .c s, c => s.flat ln c k
 | .fn f caps, .fn f' cs => onEq f' f (flatL (Sh0.flat ln) caps cs k)
 | _, _ => none
theorem ShC.flat_ok {ln : Nat → Nat} (s : ShC) (c : SC) (k : s.L.D → Option ρ) (r : ρ) (h : s.flat ln c k = some r) : ∃ x, c = s.un ln x ∧ k x = some r := by
 cases s with
 | c s => exact s.flat_ok c k r (by cases c <;> exact h)
 | fn f caps =>
  cases c <;> simp only [ShC.flat] at h <;> first | (cases h; done) | skip
  have he_ := (onEq_some h).1; replace h := (onEq_some h).2; subst he_
  obtain ⟨x, e_, h_⟩ := flatL_ok (un := Sh0.un ln) (fun a b k r => Sh0.flat_ok a b k r) h; subst e_; replace h := h_
  exact ⟨x, rfl, h⟩
def ShV.L : ShV → LT
 | .one c => c.L
 | .agg cs => LL ShC.L cs
 | .tup xs => LL (fun x : Bool × List ShC => LL ShC.L x.2) xs
def ShV.un (ln : Nat → Nat) : (s : ShV) → s.L.D → SV
 | .one c, x => .one (c.un ln x)
 | .agg cs, x => .agg (unL (ShC.un ln) cs x)
 | .tup xs, x => .tup (unL (L := fun x : Bool × List ShC => LL ShC.L x.2) (fun a y => (a.1, unL (ShC.un ln) a.2 y)) xs x)
def flatT (ln : Nat → Nat) (a : Bool × List ShC) (b : Bool × List SC) (k : (LL ShC.L a.2).D → Option ρ) : Option ρ :=
 onB (a.1 == b.1) (flatL (ShC.flat ln) a.2 b.2 k)
def ShV.flat (ln : Nat → Nat) (s : ShV) (v : SV) (k : s.L.D → Option ρ) : Option ρ :=
 match s, v with
 | .one c, .one v => c.flat ln v k
 | .agg cs, .agg vs => flatL (ShC.flat ln) cs vs k
 | .tup xs, .tup vs => flatL (L := fun x : Bool × List ShC => LL ShC.L x.2) (flatT ln) xs vs k
 | _, _ => none
theorem ShV.flat_ok {ln : Nat → Nat} (s : ShV) (v : SV) (k : s.L.D → Option ρ) (r : ρ) (h : s.flat ln v k = some r) : ∃ x, v = s.un ln x ∧ k x = some r := by
 cases s with
 | one c =>
  cases v <;> simp only [ShV.flat] at h <;> first | (cases h; done) | skip
  obtain ⟨x, e_, h_⟩ := ShC.flat_ok _ _ _ _ h; subst e_; replace h := h_
  exact ⟨x, rfl, h⟩
 | agg cs =>
  cases v <;> simp only [ShV.flat] at h <;> first | (cases h; done) | skip
  obtain ⟨x, e_, h_⟩ := flatL_ok (un := ShC.un ln) (fun a b k r => ShC.flat_ok a b k r) h; subst e_; replace h := h_
  exact ⟨x, rfl, h⟩
 | tup xs =>
  cases v <;> simp only [ShV.flat] at h <;> first | (cases h; done) | skip
  obtain ⟨x, e_, h_⟩ := flatL_ok (L := fun x : Bool × List ShC => LL ShC.L x.2) (un := fun a y => (a.1, unL (ShC.un ln) a.2 y)) (fun a b k r h => by
   unfold flatT at h
   have h1 := (onB_some h).1; replace h := (onB_some h).2
   obtain ⟨x, h2, h⟩ := flatL_ok (un := ShC.un ln) (fun a b k r => ShC.flat_ok a b k r) h
   exact ⟨x, Prod.ext (eq_of_beq h1).symm h2, h⟩) h
  subst e_
  exact ⟨x, rfl, h_⟩
def ShB.L : ShB → LT
 | .box cs => LL ShC.L cs
 | .row _ _ ts => .ty (.list ts)
def ShB.un (ln : Nat → Nat) : (s : ShB) → s.L.D → SB
 | .box cs, x => .box (unL (ShC.un ln) cs x)
 | .row gr m ts, x => .row gr m ts x
def Mode.beq : Mode → Mode → Bool
 | .live, .live => true
 | .froz, .froz => true
 | .bor, .bor => true
 | _, _ => false
theorem Mode.beq_eq {a b : Mode} (h : Mode.beq a b = true) : a = b := by cases a <;> cases b <;> first | rfl | cases h
def ShB.flat (ln : Nat → Nat) (s : ShB) (b : Option SB) (k : s.L.D → Option ρ) : Option ρ :=
 match s, b with
 | .box cs, some (.box vs) => flatL (ShC.flat ln) cs vs k
 | .row gr m ts, some (.row gr' m' us xs) => onB (gr' == gr) (onB (Mode.beq m' m) (match castRow us ts xs with
  | some y => k y
  | none => none))
 | _, _ => none
theorem row_cast {us ts : List Ty} {xs : List (Ty.DL us)} {ys : List (Ty.DL ts)} (h : castRow us ts xs = some ys) (gr : Bool) (m : Mode) : SB.row gr m us xs = SB.row gr m ts ys := by
 unfold castRow at h
 split at h
 ·rename_i he
  have h2 := Ty.beqL_eq he
  subst h2
  injection h with h
  rw [← h]
 ·cases h
theorem ShB.flat_ok {ln : Nat → Nat} (s : ShB) (b : Option SB) (k : s.L.D → Option ρ) (r : ρ) (h : s.flat ln b k = some r) : ∃ x, b = some (s.un ln x) ∧ k x = some r := by
 cases s with
 | box cs =>
  cases b with
  | none => cases h
  | some b =>
   cases b <;> simp only [ShB.flat] at h <;> first | (cases h; done) | skip
   obtain ⟨x, e_, h_⟩ := flatL_ok (un := ShC.un ln) (fun a b k r => ShC.flat_ok a b k r) h; subst e_; replace h := h_
   exact ⟨x, rfl, h⟩
 | row gr m ts =>
  cases b with
  | none => cases h
  | some b =>
   cases b <;> simp only [ShB.flat] at h <;> first | (cases h; done) | skip
   have h1 := (onB_some h).1; replace h := (onB_some h).2
   have h2 := (onB_some h).1; replace h := (onB_some h).2
   split at h
   ·rename_i y hy
    refine ⟨y, ?_, h⟩
    rw [eq_of_beq h1, Mode.beq_eq h2, row_cast hy]
    rfl
   ·cases h
end
def envOf : List (Nat × SV) → Nat → SV
 | [] => fun _ => .one .junk
 | p :: l => upd (envOf l) p.1 p.2
def heapOf : List (Nat × Option SB) → Nat → Option SB
 | [] => fun _ => none
 | p :: l => upd (heapOf l) p.1 p.2
def usedOf : List (Nat × ShB) → Nat → Bool
 | [] => fun _ => false
 | p :: l => upd (usedOf l) p.1 true
def rowLen (h : Nat → Option SB) (n : Nat) : Nat :=
 match h n with
 | some (.row _ _ ts xs) => lenN (α := Ty.DL ts) xs
 | _ => 0
abbrev Shape.eL (sh : Shape) : LT := LL (fun p : Nat × ShV => p.2.L) sh.env
abbrev Shape.hL (sh : Shape) : LT := LL (fun p : Nat × ShB => p.2.L) sh.heap
def Shape.L (sh : Shape) : LT := LT.sp sh.eL sh.hL
def unEnv (ln : Nat → Nat) (l : List (Nat × ShV)) (x : (LL (fun p : Nat × ShV => p.2.L) l).D) : List (Nat × SV) :=
 unL (L := fun p : Nat × ShV => p.2.L) (fun p y => (p.1, p.2.un ln y)) l x
def unHeap (ln : Nat → Nat) (l : List (Nat × ShB)) (x : (LL (fun p : Nat × ShB => p.2.L) l).D) : List (Nat × Option SB) :=
 unL (L := fun p : Nat × ShB => p.2.L) (fun p y => (p.1, some (p.2.un ln y))) l x
def lensOf : (l : List (Nat × ShB)) → (LL (fun p : Nat × ShB => p.2.L) l).D → Nat → Nat
 | [], _ => fun _ => 0
 | (n, .box cs) :: l, x => upd (lensOf l (LT.spl _ _ x).2) n 0
 | (n, .row gr m ts) :: l, x => upd (lensOf l (LT.spl (LT.ty (.list ts)) _ x).2) n (lenN (α := Ty.DL ts) (LT.spl (LT.ty (.list ts)) _ x).1)
theorem lensOf_eq (ln : Nat → Nat) : ∀ (l : List (Nat × ShB)) (x : (LL (fun p : Nat × ShB => p.2.L) l).D), lensOf l x = rowLen (heapOf (unHeap ln l x))
 | [], _ => rfl
 | (n, .box cs) :: l, x => by
  funext m
  simp only [lensOf, unHeap, unL, heapOf, rowLen]
  by_cases hm : m = n
  ·subst hm; simp only [upd_same]; rfl
  ·simp only [upd_ne _ _ _ _ hm]
   exact congrFun (lensOf_eq ln l _) m
 | (n, .row gr mo ts) :: l, x => by
  funext m
  simp only [lensOf, unHeap, unL, heapOf, rowLen]
  by_cases hm : m = n
  ·subst hm; simp only [upd_same]; rfl
  ·simp only [upd_ne _ _ _ _ hm]
   exact congrFun (lensOf_eq ln l _) m
def Shape.un (sh : Shape) (x : sh.L.D) : SSt :=
 {env := envOf (unEnv (lensOf sh.heap (LT.spl sh.eL sh.hL x).2) sh.env (LT.spl sh.eL sh.hL x).1)
  h := heapOf (unHeap (lensOf sh.heap (LT.spl sh.eL sh.hL x).2) sh.heap (LT.spl sh.eL sh.hL x).2)
  used := fun n => Nat.ble PIN n || usedOf sh.heap n }
def hasN (n : Nat) : List (Nat × ShB) → Bool
 | [] => false
 | p :: l => match Nat.beq n p.1 with
  | true => true
  | false => hasN n l
section
variable {ρ : Type}
def flatEnv (ln : Nat → Nat) (p : Nat × ShV) (v : Nat × SV) (k : p.2.L.D → Option ρ) : Option ρ := onEq v.1 p.1 (p.2.flat ln v.2 k)
def flatHeap (ln : Nat → Nat) (p : Nat × ShB) (b : Nat × Option SB) (k : p.2.L.D → Option ρ) : Option ρ := onEq b.1 p.1 (p.2.flat ln b.2 k)
def chkNames (σ : SSt) (hp : List (Nat × ShB)) : List Nat → Bool
 | [] => true
 | n :: kh => (match hasN n hp with | true => σ.used n | false => (match σ.used n with | true => Nat.ble PIN n | false => !(Nat.ble PIN n)) && (σ.h n).isNone) && chkNames σ hp kh
def allIn (kh : List Nat) : List (Nat × ShB) → Bool
 | [] => true
 | p :: l => kh.contains p.1 && allIn kh l
def Shape.flat (sh : Shape) (kh : List Nat) (σ : SSt) (k : sh.L.D → Option ρ) : Option ρ :=
 onB (chkNames σ sh.heap kh && allIn kh sh.heap)
  (flatL (flatEnv (rowLen σ.h)) sh.env (sh.env.map fun p => (p.1, σ.env p.1)) fun xe =>
   flatL (flatHeap (rowLen σ.h)) sh.heap (sh.heap.map fun p => (p.1, σ.h p.1)) fun xh => k (LT.spj sh.eL sh.hL xe xh))
end
theorem envOf_map (l : List (Nat × ShV)) (f : Nat → SV) (hf : ∀ s, s ∉ l.map (·.1) → f s = .one .junk) : envOf (l.map fun p => (p.1, f p.1)) = f := by
 have : ∀ (l : List (Nat × ShV)) s, envOf (l.map fun p => (p.1, f p.1)) s = if s ∈ l.map (·.1) then f s else .one .junk := by
  intro l s
  induction l with
  | nil => rfl
  | cons p l ih =>
   simp only [List.map_cons, envOf, upd_def, ih, List.mem_cons]
   by_cases h : s = p.1
   ·subst h; simp
   ·by_cases h2 : s ∈ l.map (·.1)
    ·rw [if_neg h, if_pos h2, if_pos (Or.inr h2)]
    ·rw [if_neg h, if_neg h2, if_neg (fun e => e.elim h h2)]
 funext s
 rw [this]
 split
 ·rfl
 ·rename_i h; exact (hf s h).symm
theorem heapOf_map (l : List (Nat × ShB)) (f : Nat → Option SB) (hf : ∀ s, s ∉ l.map (·.1) → f s = none) : heapOf (l.map fun p => (p.1, f p.1)) = f := by
 have : ∀ (l : List (Nat × ShB)) s, heapOf (l.map fun p => (p.1, f p.1)) s = if s ∈ l.map (·.1) then f s else none := by
  intro l s
  induction l with
  | nil => rfl
  | cons p l ih =>
   simp only [List.map_cons, heapOf, upd_def, ih, List.mem_cons]
   by_cases h : s = p.1
   ·subst h; simp
   ·by_cases h2 : s ∈ l.map (·.1)
    ·rw [if_neg h, if_pos h2, if_pos (Or.inr h2)]
    ·rw [if_neg h, if_neg h2, if_neg (fun e => e.elim h h2)]
 funext s
 rw [this]
 split
 ·rfl
 ·rename_i h; exact (hf s h).symm
theorem hasN_iff (n : Nat) (l : List (Nat × ShB)) : hasN n l = true ↔ n ∈ l.map (·.1) := by
  induction l with
  | nil => simp [hasN]
  | cons p l ih =>
    simp only [hasN, List.map_cons, List.mem_cons]
    cases h : Nat.beq n p.1 with
    | true => simp [Nat.eq_of_beq_eq_true h]
    | false => simp only [ih]; constructor
               · exact .inr
               · rintro (rfl | h2)
                 · rw [Nat.beq_refl] at h; cases h
                 · exact h2

theorem usedOf_eq (n : Nat) (l : List (Nat × ShB)) : usedOf l n = hasN n l := by
 induction l with
 | nil => rfl
 | cons p l ih =>
  simp only [usedOf, hasN, upd_def, ih]
  by_cases h : n = p.1
  ·subst h; simp [Nat.beq_refl]
  ·have : Nat.beq n p.1 = false := by
    cases hb : Nat.beq n p.1 with
    | true => exact absurd (Nat.eq_of_beq_eq_true hb) h
    | false => rfl
   simp [h, this]
theorem chkNames_ok {σ : SSt} {hp : List (Nat × ShB)} : ∀ {kh : List Nat}, chkNames σ hp kh = true → ∀ n ∈ kh, σ.used n = (Nat.ble PIN n || hasN n hp) ∧ (hasN n hp = false → σ.h n = none)
 | [], _, n, hn => by cases hn
 | m :: kh, h, n, hn => by
  simp only [chkNames, Bool.and_eq_true] at h
  rcases List.mem_cons.1 hn with e_ | hn
  ·subst e_
   cases hh : hasN n hp with
   | true =>
    rw [hh] at h
    have h1 : σ.used n = true := h.1
    exact ⟨by rw [h1, Bool.or_true], fun e => by cases e⟩
   | false =>
    rw [hh] at h
    simp only [Bool.and_eq_true, Option.isNone_iff_eq_none] at h
    refine ⟨?_, fun _ => h.1.2⟩
    have h1 := h.1.1
    rw [Bool.or_false]
    cases hu : σ.used n with
    | true => rw [hu] at h1; exact h1.symm
    | false => rw [hu] at h1; simpa using h1.symm
  ·exact chkNames_ok h.2 n hn
theorem allIn_ok {kh : List Nat} : ∀ {l : List (Nat × ShB)}, allIn kh l = true → ∀ n ∈ l.map (·.1), n ∈ kh
 | [], _, n, hn => by cases hn
 | p :: l, h, n, hn => by
  simp only [allIn, Bool.and_eq_true] at h
  simp only [List.map_cons, List.mem_cons] at hn
  rcases hn with rfl | hn
  ·simpa using h.1
  ·exact allIn_ok h.2 n hn
theorem Shape.flat_ok {ρ : Type} {sh : Shape} {kh : List Nat} {σ : SSt} {k : sh.L.D → Option ρ} {r : ρ} (h : sh.flat kh σ k = some r)
  (he : ∀ s, s ∉ sh.ke → σ.env s = .one .junk) (hh : ∀ n, n ∉ kh → σ.h n = none ∧ σ.used n = Nat.ble PIN n) : ∃ x, σ = sh.un x ∧ k x = some r := by
 unfold Shape.flat at h
 have hc := (onB_some h).1; replace h := (onB_some h).2
 simp only [Bool.and_eq_true] at hc
 obtain ⟨xe, e1, h⟩ := flatL_ok (L := fun p : Nat × ShV => p.2.L) (un := fun p y => (p.1, p.2.un (rowLen σ.h) y)) (fun a b k r h => by
  unfold flatEnv at h
  obtain ⟨h1, h⟩ := onEq_some h
  obtain ⟨x, h2, h⟩ := ShV.flat_ok _ _ _ _ h
  exact ⟨x, Prod.ext h1 h2, h⟩) h
 obtain ⟨xh, e2, h⟩ := flatL_ok (L := fun p : Nat × ShB => p.2.L) (un := fun p y => (p.1, some (p.2.un (rowLen σ.h) y))) (fun a b k r h => by
  unfold flatHeap at h
  obtain ⟨h1, h⟩ := onEq_some h
  obtain ⟨x, h2, h⟩ := ShB.flat_ok _ _ _ _ h
  exact ⟨x, Prod.ext h1 h2, h⟩) h
 have henv : σ.env = envOf (unEnv (rowLen σ.h) sh.env xe) := by
  unfold unEnv
  rw [← e1]
  exact (envOf_map sh.env σ.env he).symm
 have hheap : σ.h = heapOf (unHeap (rowLen σ.h) sh.heap xh) := by
  unfold unHeap
  rw [← e2]
  refine (heapOf_map sh.heap σ.h fun n hn => ?_).symm
  by_cases hk : n ∈ kh
  ·refine (chkNames_ok hc.1 n hk).2 ?_
   cases hb : hasN n sh.heap with
   | true => exact absurd ((hasN_iff n sh.heap).1 hb) hn
   | false => rfl
  ·exact (hh n hk).1
 have hlens : lensOf sh.heap xh = rowLen σ.h := by
  rw [lensOf_eq (rowLen σ.h), ← hheap]
 have hused : σ.used = fun n => Nat.ble PIN n || usedOf sh.heap n := by
  funext n
  rw [usedOf_eq]
  by_cases hk : n ∈ kh
  ·exact (chkNames_ok hc.1 n hk).1
  ·rw [(hh n hk).2]
   cases hb : hasN n sh.heap with
   | true => exact absurd (allIn_ok hc.2 n ((hasN_iff n sh.heap).1 hb)) hk
   | false => rw [Bool.or_false]
 refine ⟨LT.spj sh.eL sh.hL xe xh, ?_, h⟩
 have : sh.un (LT.spj sh.eL sh.hL xe xh) = { env := envOf (unEnv (lensOf sh.heap xh) sh.env xe), h := heapOf (unHeap (lensOf sh.heap xh) sh.heap xh), used := fun n => Nat.ble PIN n || usedOf sh.heap n } := by
  simp only [Shape.un, LT.spl_spj]
 rw [this, hlens, ← henv, ← hheap, ← hused]
end Go.Am