/- Am2: the abstract machine's values, its named blocks, and how they stand for a world. No condition. -/
import Derived.Test.YtbogogbogdafiaaAm1
set_option linter.unusedVariables false
namespace Go.Am
inductive ACell where
 | c (x : C)
 | nil (sz : Nat)
 | ptr (n k sz off : Nat)
 | dptr (xs : List C) (off : Nat)
 | sl (n sz lo len : Nat)
 | nsl (n k rsz off sz len : Nat)
 | nptr (n k rsz off sz i : Nat)
 | fn (f : FuncId) (caps : List ACell)
 | junk
instance : Inhabited ACell := ⟨.junk⟩
inductive Mode where
 | live | froz | bor
 deriving DecidableEq
inductive Blk where
 | box (cs : List ACell)
 | row (gr : Bool) (m : Mode) (sz : Nat) (xs : List (List C))
inductive AVal where
 | one (c : ACell)
 | agg (cs : List ACell)
 | tup (xs : List (Bool × List ACell))
instance : Inhabited AVal := ⟨.one .junk⟩
structure St where
 env : Nat → AVal
 h : Nat → Option Blk
 used : Nat → Bool
def upd {α : Type} (f : Nat → α) (k : Nat) (v : α) : Nat → α := fun n => match Nat.beq n k with
 | true => v
 | false => f n
theorem upd_def {α : Type} (f : Nat → α) (k : Nat) (v : α) (n : Nat) : upd f k v n = if n = k then v else f n := by
 unfold upd
 split
 ·rename_i e; rw [if_pos (Nat.eq_of_beq_eq_true e)]
 ·rename_i e; rw [if_neg (fun h => by rw [h, Nat.beq_refl] at e; cases e)]
theorem upd_same {α : Type} (f : Nat → α) (k : Nat) (v : α) : upd f k v k = v := by simp [upd_def]
theorem upd_ne {α : Type} (f : Nat → α) (k n : Nat) (v : α) (h : n ≠ k) : upd f k v n = f n := by simp [upd_def, h]
def ACell.ref0 : ACell → Nat → Prop
 | .ptr n _ _ _, m => m = n
 | .sl n _ _ _, m => m = n
 | .nsl n _ _ _ _ _, m => m = n
 | .nptr n _ _ _ _ _, m => m = n
 | _, _ => False
def ACell.ref : ACell → Nat → Prop
 | .fn _ caps, m => ∃ x ∈ caps, x.ref0 m
 | x, m => x.ref0 m
def AVal.ref : AVal → Nat → Prop
 | .one c, m => c.ref m
 | .agg cs, m => ∃ c ∈ cs, c.ref m
 | .tup xs, m => ∃ x ∈ xs, ∃ c ∈ x.2, c.ref m
structure PB where
 nl : Bool
 b : Nat
 o : Nat
 cap : Nat
 px : List (List PC)
 na : Option Addr
instance : Inhabited PB := ⟨⟨false, 0, 0, 0, [], none⟩⟩
def PIN : Nat := 1000000
structure Ex where
 e : Nat → Prop
 pin : Nat → Option PB
 lt : ∀ n p, pin n = some p → PIN ≤ n
 a : Nat → Prop
instance : CoeFun Ex (fun _ => Nat → Prop) := ⟨Ex.e⟩
def Ex.no : Ex := ⟨fun _ => False, fun _ => none, fun _ _ h => (by cases h), fun _ => True⟩
structure Gh where
 Im : Nat → Prop
 g : Nat → PB
def PC.isL : PC → Bool
 | .list .. => true
 | _ => false
def SlOk (p : PB) (sz lo len : Nat) (v : Value) : Prop :=
 (p.nl = true ∧ v = .slice p.na 0 p.cap ∧ lo = 0 ∧ len = 0) ∨
 (p.nl = false ∧ ∃ a, v = .slice a len (p.cap - lo) ∧ lo + len ≤ p.cap ∧ ((lo < p.cap ∨ lo = 0) → a = some (ad p.b (p.o + lo * sz))))
def RC0 (w : World) (G : Gh) (h : Nat → Option Blk) : ACell → Value → Prop
 | .c x, v => ∃ pc : PC, pc.er = x ∧ pc.val = v ∧ Good w pc ∧ ∀ b, InF b pc → G.Im b
 | .nil _, v => v = .slice none 0 0
 | .ptr n k sz off, v => h n ≠ none → (G.g n).nl = false ∧ v = .pointer (some (ad (G.g n).b ((G.g n).o + k * sz + off)))
 | .dptr xs off, v => ∃ (b o : Nat) (pe : List PC), v = .pointer (some (ad b (o + off))) ∧ pe.map PC.er = xs ∧ G.Im b ∧
   ∀ j c, pe[j]? = some c → w.cell? (ad b (o + j)) = some c.val ∧ Good w c ∧ ∀ b', InF b' c → G.Im b'
 | .sl n sz lo len, v => h n ≠ none → SlOk (G.g n) sz lo len v
 | .nsl n k rsz off sz len, v => ∀ gr xs, h n = some (.row gr .live rsz xs) → ∃ pc, At (G.g n).px k off pc ∧ pc.val = v ∧ pc.isL = true
 | .nptr n k rsz off sz i, v => ∀ gr xs, h n = some (.row gr .live rsz xs) → ∃ (pc : PC) (b o len cap : Nat), At (G.g n).px k off pc ∧ pc.val = .slice (some (ad b o)) len cap ∧ pc.isL = true ∧ v = .pointer (some (ad b (o + i * sz)))
 | .fn _ _, _ => False
 | .junk, _ => True
def RC (w : World) (G : Gh) (h : Nat → Option Blk) : ACell → Value → Prop
 | .fn f caps, v => ∃ vs : List Value, v = .func (.func f) #[] vs.toArray ∧ vs.length = caps.length ∧ ∀ (j : Nat) (c : ACell) (u : Value), caps[j]? = some c → vs[j]? = some u → u.oneCell' = true ∧ RC0 w G h c u
 | c, v => RC0 w G h c v
def ACell.isFn : ACell → Bool
 | .fn _ _ => true
 | _ => false
theorem RC_eq (w : World) (G : Gh) (h : Nat → Option Blk) (c : ACell) (v : Value) (hc : c.isFn = false) : RC w G h c v = RC0 w G h c v := by
 cases c <;> first | rfl | (simp [ACell.isFn] at hc)
theorem ACell.ref_eq (c : ACell) (m : Nat) (hc : c.isFn = false) : c.ref m = c.ref0 m := by
 cases c <;> first | rfl | (simp [ACell.isFn] at hc)
def RCl (w : World) (G : Gh) (h : Nat → Option Blk) (cs : List ACell) (vs : List Value) : Prop :=
 vs.length = cs.length ∧ ∀ (j : Nat) (c : ACell) (u : Value), cs[j]? = some c → vs[j]? = some u → u.oneCell' = true ∧ RC w G h c u
def RV (w : World) (G : Gh) (h : Nat → Option Blk) (ag : Bool) (cs : List ACell) (v : Value) : Prop :=
 if ag then ∃ vs : List Value, v = .agg vs.toArray ∧ RCl w G h cs vs else RCl w G h cs [v]
def RA (w : World) (G : Gh) (h : Nat → Option Blk) : AVal → Value → Prop
 | .one c, v => c = .junk ∨ RV w G h false [c] v
 | .agg cs, v => RV w G h true cs v
 | .tup xs, v => ∃ vs : List Value, v = .tuple vs.toArray ∧ vs.length = xs.length ∧ ∀ (j : Nat) (x : Bool × List ACell) (u : Value), xs[j]? = some x → vs[j]? = some u → RV w G h x.1 x.2 u
structure Keep (w : World) (G : Gh) (h : Nat → Option Blk) (used : Nat → Prop) (w' : World) (G' : Gh) (h' : Nat → Option Blk) : Prop where
 im : ∀ b, G.Im b → G'.Im b
 cell : ∀ b, G.Im b → ∀ o, w'.cell? (ad b o) = w.cell? (ad b o)
 name : ∀ n, used n → h' n ≠ none → h n ≠ none ∧ (G'.g n).nl = (G.g n).nl ∧ (G'.g n).b = (G.g n).b ∧ (G'.g n).o = (G.g n).o ∧ (G'.g n).cap = (G.g n).cap ∧ (G'.g n).na = (G.g n).na
 live : ∀ n gr sz xs, used n → h' n = some (.row gr .live sz xs) → (∃ gr0 xs0, h n = some (.row gr0 .live sz xs0)) ∧
  ∀ k j pc, At (G.g n).px k j pc → pc.isL = true → ∃ pc', At (G'.g n).px k j pc' ∧ pc'.val = pc.val ∧ pc'.isL = true
section
variable {w w' : World} {G G' : Gh} {h h' : Nat → Option Blk} {used : Nat → Prop}
theorem RC0.keep (K : Keep w G h used w' G' h') {c : ACell} {v : Value} (hr : ∀ m, c.ref0 m → used m) (hc : RC0 w G h c v) : RC0 w' G' h' c v := by
 cases c with
 | c x =>
  obtain ⟨pc, h1, h2, h3, h4⟩ := hc
  exact ⟨pc, h1, h2, h3.congr fun b hb o => K.cell b (h4 b hb) o, fun b hb => K.im b (h4 b hb)⟩
 | nil sz => exact hc
 | ptr n k sz off =>
  intro hn
  obtain ⟨h0, e1, e2, e3, e4, e5⟩ := K.name n (hr n rfl) hn
  rw [e1, e2, e3]
  exact hc h0
 | dptr xs off =>
  obtain ⟨b, o, pe, h1, h2, h3, h4⟩ := hc
  refine ⟨b, o, pe, h1, h2, K.im b h3, fun j c hj => ?_⟩
  obtain ⟨a1, a2, a3⟩ := h4 j c hj
  exact ⟨(K.cell b h3 _).trans a1, a2.congr fun b' hb' o' => K.cell b' (a3 b' hb') o', fun b' hb' => K.im b' (a3 b' hb')⟩
 | sl n sz lo len =>
  intro hn
  obtain ⟨h0, e1, e2, e3, e4, e5⟩ := K.name n (hr n rfl) hn
  have := hc h0
  unfold SlOk at *
  rw [e1, e2, e3, e4, e5]
  exact this
 | nsl n k rsz off sz len =>
  intro gr xs hn
  obtain ⟨⟨gr0, xs0, h0⟩, hl⟩ := K.live n gr rsz xs (hr n rfl) hn
  obtain ⟨pc, p1, p2, p3⟩ := hc gr0 xs0 h0
  obtain ⟨pc', q1, q2, q3⟩ := hl k off pc p1 p3
  exact ⟨pc', q1, q2.trans p2, q3⟩
 | nptr n k rsz off sz i =>
  intro gr xs hn
  obtain ⟨⟨gr0, xs0, h0⟩, hl⟩ := K.live n gr rsz xs (hr n rfl) hn
  obtain ⟨pc, b, o, len, cap, p1, p2, p3, p4⟩ := hc gr0 xs0 h0
  obtain ⟨pc', q1, q2, q3⟩ := hl k off pc p1 p3
  exact ⟨pc', b, o, len, cap, q1, q2.trans p2, q3, p4⟩
 | fn f caps => exact hc
 | junk => trivial
theorem RC.keep (K : Keep w G h used w' G' h') {c : ACell} {v : Value} (hr : ∀ m, c.ref m → used m) (hc : RC w G h c v) : RC w' G' h' c v := by
 by_cases hf : c.isFn = false
 ·rw [RC_eq _ _ _ _ _ hf] at *
  exact hc.keep K fun m hm => hr m (by rw [ACell.ref_eq c m hf]; exact hm)
 ·cases c <;> first | (simp [ACell.isFn] at hf; done) | skip
  obtain ⟨vs, h1, h2, h3⟩ := hc
  exact ⟨vs, h1, h2, fun j c u hj hu => ⟨(h3 j c u hj hu).1, (h3 j c u hj hu).2.keep K fun m hm => hr m ⟨c, List.mem_of_getElem? hj, hm⟩⟩⟩
theorem RCl.keep (K : Keep w G h used w' G' h') {cs : List ACell} {vs : List Value} (hr : ∀ c ∈ cs, ∀ m, c.ref m → used m) (hc : RCl w G h cs vs) : RCl w' G' h' cs vs :=
 ⟨hc.1, fun j c u hj hu => ⟨(hc.2 j c u hj hu).1, (hc.2 j c u hj hu).2.keep K (hr c (List.mem_of_getElem? hj))⟩⟩
theorem RV.keep (K : Keep w G h used w' G' h') {ag : Bool} {cs : List ACell} {v : Value} (hr : ∀ c ∈ cs, ∀ m, c.ref m → used m) (hc : RV w G h ag cs v) : RV w' G' h' ag cs v := by
 unfold RV at *
 split
 ·rename_i h1
  simp only [h1, if_true] at hc
  obtain ⟨vs, e, hv⟩ := hc
  exact ⟨vs, e, hv.keep K hr⟩
 ·rename_i h1
  simp only [h1] at hc
  exact RCl.keep K hr hc
theorem RA.keep (K : Keep w G h used w' G' h') {x : AVal} {v : Value} (hr : ∀ m, x.ref m → used m) (hc : RA w G h x v) : RA w' G' h' x v := by
 cases x with
 | one c => exact hc.imp id fun hv => hv.keep K fun c' hc' m hm => hr m (by simp at hc'; subst hc'; exact hm)
 | agg cs => exact RV.keep K (fun c' hc' m hm => hr m ⟨c', hc', hm⟩) hc
 | tup xs =>
  obtain ⟨vs, e, hl, hv⟩ := hc
  exact ⟨vs, e, hl, fun j x u hj hu => (hv j x u hj hu).keep K fun c' hc' m hm => hr m ⟨x, List.mem_of_getElem? hj, c', hc', hm⟩⟩
end
def Room (w : World) (p : PB) (sz : Nat) : Prop := p.cap ≤ maxLen ∧ ∃ cur e, w.heap[p.b]? = some (.cells cur e (0, 0)) ∧ cur.size = p.o + p.cap * sz
def ModeOk (B : Nat) (E : Ex) (w : World) (G : Gh) (px : List (List PC)) : Mode → Prop
 | .bor => ∀ b, RowF b px → G.Im b
 | .froz => (∀ b, RowF b px → G.Im b ∧ Unf w b ∧ (B ≤ b ∨ E b)) ∧ RowSep px
 | .live => (∀ b, RowF b px → ¬ G.Im b ∧ Unf w b ∧ (B ≤ b ∨ E b)) ∧ RowSep px
structure RowOk (B : Nat) (E : Ex) (w : World) (G : Gh) (gr : Bool) (m : Mode) (sz : Nat) (xs : List (List C)) (p : PB) : Prop where
 pos : 0 < sz
 er : xs = p.px.map (fun e => e.map PC.er)
 nl : p.nl = true → p.px = [] ∧ (gr = true → p.cap = 0)
 lies : p.nl = false → Unf w p.b ∧ RowAt w p.b p.o sz p.px ∧ p.px.length ≤ p.cap
 room : p.nl = false → gr = true → Room w p sz
 mode : ModeOk B E w G p.px m
structure HR (B : Nat) (E : Ex) (w : World) (G : Gh) (h : Nat → Option Blk) (used : Nat → Bool) (tk : List PC) : Prop where
 dom : ∀ n, h n ≠ none → used n = true
 wfh : ∀ m cs c n, h m = some (.box cs) → c ∈ cs → c.ref n → used n = true
 box : ∀ n cs, h n = some (.box cs) → (G.g n).nl = false ∧ Unf w (G.g n).b ∧
  ∀ (j : Nat) (c : ACell), cs[j]? = some c → ∃ v, w.cell? (ad (G.g n).b ((G.g n).o + j)) = some v ∧ v.oneCell' = true ∧ RC w G h c v
 row : ∀ n gr m sz xs, h n = some (.row gr m sz xs) → RowOk B E w G gr m sz xs (G.g n)
 own : ∀ n, h n ≠ none → (G.g n).nl = false → ¬ G.Im (G.g n).b ∧ (B ≤ (G.g n).b ∨ E (G.g n).b) ∧ (G.g n).b < w.heap.size
 inj : ∀ n n', h n ≠ none → h n' ≠ none → n ≠ n' → (G.g n).nl = false → (G.g n').nl = false → (G.g n).b ≠ (G.g n').b
 imlt : ∀ b, G.Im b → b < w.heap.size
 img : ∀ b, G.Im b → B ≤ b ∨ E b ∨ E.a b
 cross : ∀ n n' gr m sz xs gr' m' sz' xs', h n = some (.row gr m sz xs) → h n' = some (.row gr' m' sz' xs') → m ≠ .bor → m' ≠ .bor → n ≠ n' →
  ∀ b, RowF b (G.g n).px → ¬ RowF b (G.g n').px
 live : ∀ n gr sz xs, h n = some (.row gr .live sz xs) → ∀ b, RowF b (G.g n).px → ∀ n', h n' ≠ none → (G.g n').nl = false → b ≠ (G.g n').b
 tkok : ∀ (i : Nat) (pc : PC), tk[i]? = some pc → Sep pc ∧ ∀ b, InF b pc → G.Im b ∧ Unf w b ∧ (B ≤ b ∨ E b)
 tkdis : ∀ (i j : Nat) (pc pc' : PC) (b : Nat), i ≠ j → tk[i]? = some pc → tk[j]? = some pc' → InF b pc → ¬ InF b pc'
 tkrow : ∀ (i : Nat) (pc : PC) (n : Nat) (gr : Bool) (m : Mode) (sz : Nat) (xs : List (List C)) (b : Nat), tk[i]? = some pc → h n = some (.row gr m sz xs) → m ≠ .bor → InF b pc → ¬ RowF b (G.g n).px
def Cz (w w' : World) (b : Nat) : Prop := ∀ arr e, w.heap[b]? = some (.cells arr e (0, 0)) → ∃ arr', w'.heap[b]? = some (.cells arr' e (0, 0)) ∧ arr'.size = arr.size
theorem Cz.refl (w : World) (b : Nat) : Cz w w b := fun arr _ h => ⟨arr, h, rfl⟩
theorem Cz.of_eq {w w' : World} {b : Nat} (h : w'.heap[b]? = w.heap[b]?) : Cz w w' b := fun arr _ h1 => ⟨arr, h.trans h1, rfl⟩
theorem Cz.trans {w w1 w2 : World} {b : Nat} (h1 : Cz w w1 b) (h2 : Cz w1 w2 b) : Cz w w2 b := fun arr e h => by
 obtain ⟨a1, e1, s1⟩ := h1 arr e h
 obtain ⟨a2, e2, s2⟩ := h2 a1 e e1
 exact ⟨a2, e2, s2.trans s1⟩
theorem Cz.unf {w w' : World} {b : Nat} (h : Cz w w' b) (hu : Unf w b) : Unf w' b := by
 obtain ⟨arr, e, hu⟩ := hu
 obtain ⟨a, e1, _⟩ := h arr e hu
 exact ⟨a, e, e1⟩
structure Fr (B : Nat) (E : Ex) (w0 w : World) : Prop where
 os : w.os = w0.os
 tape : w.tape = w0.tape
 output : w.output = w0.output
 size : B ≤ w.heap.size
 block : ∀ b, b < B → ¬ E b → w.heap[b]? = w0.heap[b]?
 unf : ∀ b, b < B → Cz w0 w b
def PinOk (p q : PB) (b : Blk) : Prop :=
 q.nl = p.nl ∧ q.b = p.b ∧ q.o = p.o ∧ q.cap = p.cap ∧ q.na = p.na ∧
  ∀ gr sz xs, b = .row gr .live sz xs → ∀ k j pc, At p.px k j pc → pc.isL = true → ∃ pc', At q.px k j pc' ∧ pc'.val = pc.val ∧ pc'.isL = true
structure R (B : Nat) (E : Ex) (w0 : World) (N : Nat) (σ : St) (a : Act) (w : World) (G : Gh) : Prop where
 defers : a.defers = []
 size : a.tmps.size = N
 env : ∀ s, RA w G σ.h (σ.env s) (a.tmps.getD s undef)
 wfe : ∀ s n, (σ.env s).ref n → σ.used n = true
 hr : HR B E w G σ.h σ.used []
 fr : Fr B E w0 w
 pin : ∀ n p b, E.pin n = some p → σ.h n = some b → PinOk p (G.g n) b
 pinu : ∀ n, PIN ≤ n → σ.used n = true
end Go.Am