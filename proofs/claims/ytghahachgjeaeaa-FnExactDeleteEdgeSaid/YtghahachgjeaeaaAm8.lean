/- Am8: new names; what a step needs of the relation. No condition. -/
import Derived.Test.YtghahachgjeaeaaAm7
set_option linter.unusedVariables false
namespace Go.Am

section
variable {B : Nat} {E : Ex} {w0 w w' : World} {G G' : Gh} {h h' : Nat → Option Blk} {used used' : Nat → Bool} {tk : List PC} {N : Nat}

/-- Nobody stands for block b. -/
def Lone (G : Gh) (h : Nat → Option Blk) (b : Nat) : Prop :=
  ¬ G.Im b ∧ (∀ n, h n ≠ none → (G.g n).nl = false → (G.g n).b ≠ b) ∧ ∀ n gr m sz xs, h n = some (.row gr m sz xs) → ¬ RowF b (G.g n).px

theorem HR.lone_new (H : HR B E w G h used tk) : Lone G h w.heap.size :=
  ⟨fun hi => Nat.lt_irrefl _ (H.imlt _ hi), fun n hn hl he => by have := (H.own n hn hl).2.2; omega, fun n gr m sz xs hn hb => Nat.lt_irrefl _ (H.rowF_lt hn hb)⟩

/-- A block as it is named, its cells' references being to what was there before. -/
def NewOk (B : Nat) (E : Ex) (w w' : World) (G : Gh) (h : Nat → Option Blk) (p : PB) : Blk → Prop
  | .box cs => p.nl = false ∧ Unf w' p.b ∧ ∀ (j : Nat) (c : ACell), cs[j]? = some c → ∃ v, w'.cell? (ad p.b (p.o + j)) = some v ∧ v.oneCell' = true ∧ RC w G h c v
  | .row gr m sz xs => RowOk B E w' G gr m sz xs p

theorem Keep.insert (H : HR B E w G h used tk) {n : Nat} {blk : Blk} {p : PB} (hn : used n = false) (hw : ∀ b, b < w.heap.size → w'.heap[b]? = w.heap[b]?) :
    Keep w G h (fun n => used n = true) w' ⟨G.Im, upd G.g n p⟩ (upd h n (some blk)) := by
  have ne : ∀ m, used m = true → m ≠ n := fun m hm e => by subst e; rw [hn] at hm; cases hm
  refine ⟨fun _ h => h, fun b hb o => cell_congr (hw b (H.imlt b hb)) o, fun m hm h0 => ?_, fun m gr sz xs hm h0 => ?_⟩
  · rw [upd_ne _ _ _ _ (ne m hm)] at h0
    simp only [upd_ne _ _ _ _ (ne m hm)]
    exact ⟨h0, trivial, trivial, trivial, trivial, trivial⟩
  · rw [upd_ne _ _ _ _ (ne m hm)] at h0
    simp only [upd_ne _ _ _ _ (ne m hm)]
    exact ⟨⟨gr, xs, h0⟩, fun k j pc h1 h2 => ⟨pc, h1, rfl, h2⟩⟩

theorem HR.insert (H : HR B E w G h used tk) {n : Nat} {blk : Blk} {p : PB} (hn : used n = false) (hw : ∀ b, b < w.heap.size → w'.heap[b]? = w.heap[b]?) (hsz : w.heap.size ≤ w'.heap.size)
    (hl : p.nl = false → Lone G h p.b ∧ (B ≤ p.b ∨ E p.b) ∧ p.b < w'.heap.size)
    (hwf : ∀ cs c m, blk = .box cs → c ∈ cs → c.ref m → used m = true)
    (hblk : NewOk B E w w' G h p blk)
    (hcross : ∀ gr m sz xs, blk = .row gr m sz xs → m ≠ .bor → ∀ n' gr' m' sz' xs', h n' = some (.row gr' m' sz' xs') → m' ≠ .bor → ∀ b, RowF b p.px → ¬ RowF b (G.g n').px)
    (hlive : ∀ gr sz xs, blk = .row gr .live sz xs → ∀ b, RowF b p.px → (p.nl = false → b ≠ p.b) ∧ ∀ n', h n' ≠ none → (G.g n').nl = false → b ≠ (G.g n').b)
    (htk : ∀ gr m sz xs, blk = .row gr m sz xs → m ≠ .bor → ∀ (i : Nat) (pc : PC) (b : Nat), tk[i]? = some pc → InF b pc → ¬ RowF b p.px) :
    HR B E w' ⟨G.Im, upd G.g n p⟩ (upd h n (some blk)) (upd used n true) tk := by
  have K := Keep.insert H (blk := blk) (p := p) hn hw
  have hdom : h n = none := by
    cases hh : h n with
    | none => rfl
    | some b => have := H.dom n (by rw [hh]; simp); rw [hn] at this; cases this
  have hne : ∀ m, h m ≠ none → m ≠ n := fun m hm e => by subst e; exact hm hdom
  have hu : ∀ m, used m = true → upd used n true m = true := fun m hm => by
    unfold upd; split
    · rfl
    · exact hm
  refine H.put (fun b hb _ => hw b hb) hsz (fun b hb hU => hU.congr (hw b hb)) hu (upd_same _ _ _) (fun hp => ⟨(hl hp).1.1, (hl hp).2⟩) (fun hp m hm h0 hl0 => (hl hp).1.2.1 m h0 hl0)
    (fun hp m gr sz xs hm h0 b hb he => (hl hp).1.2.2 m gr _ sz xs h0 (he ▸ hb)) (fun cs c m hb hc hr => hu m (hwf cs c m hb hc hr)) K ?_
    (fun gr m sz xs hb hm n' gr' m' sz' xs' _ h0 => hcross gr m sz xs hb hm n' gr' m' sz' xs' h0) (fun gr sz xs hb b hbF => ⟨(hlive gr sz xs hb b hbF).1, fun n' _ => (hlive gr sz xs hb b hbF).2 n'⟩) htk
    (fun hp _ b hb he => by obtain ⟨m, gr, mo, sz, xs, _, h0, hbF⟩ := hb; exact (hl hp).1.2.2 m gr mo sz xs h0 (he ▸ hbF))
  cases blk with
  | box cs =>
    obtain ⟨a1, a2, a3⟩ := hblk
    refine ⟨a1, a2, fun j c hj => ?_⟩
    obtain ⟨v, b1, b2, b3⟩ := a3 j c hj
    exact ⟨v, b1, b2, b3.keep K fun m hm => hwf cs c m rfl (List.mem_of_getElem? hj) hm⟩
  | row gr m sz xs =>
    have hr : RowOk B E w' G gr m sz xs p := hblk
    exact ⟨hr.pos, hr.er, hr.nl, hr.lies, hr.room, by
      have := hr.mode
      cases m <;> exact this⟩

/-! ### the relation R -/

theorem R.put {σ : St} {a : Act} (r : R B E w0 N σ a w G) {x : AVal} {v : Value} (hv : RA w G σ.h x v) (hr : ∀ m, x.ref m → σ.used m = true) {d : Option Nat} (hd : ∀ n, d = some n → n < N) :
    R B E w0 N (σ.put d x) (a.put d v) w G := by
  cases d with
  | none => exact r
  | some n =>
    have hn := hd n rfl
    refine ⟨r.defers, by simp [Act.put, r.size], fun s => ?_, fun s m hm => ?_, r.hr, r.fr, r.pin, r.pinu⟩
    · simp only [St.put, Act.put]
      by_cases hs : s = n
      · subst hs
        rw [upd_same]
        have : (a.tmps.setIfInBounds s v).getD s undef = v := by
          simp [Array.getD_eq_getD_getElem?, r.size, hn]
        rw [this]
        exact hv
      · rw [upd_ne _ _ _ _ hs]
        have : (a.tmps.setIfInBounds n v).getD s undef = a.tmps.getD s undef := by
          simp [Array.getD_eq_getD_getElem?, Array.getElem?_setIfInBounds_ne (Ne.symm hs)]
        rw [this]
        exact r.env s
    · simp only [St.put] at hm ⊢
      by_cases hs : s = n
      · subst hs; rw [upd_same] at hm; exact hr m hm
      · rw [upd_ne _ _ _ _ hs] at hm; exact r.wfe s m hm

theorem R.step {σ : St} {a : Act} (r : R B E w0 N σ a w G) {σ' : St} (he : σ'.env = σ.env) (hu : ∀ m, σ.used m = true → σ'.used m = true) (K : Keep w G σ.h (fun n => σ.used n = true) w' G' σ'.h)
    (H : HR B E w' G' σ'.h σ'.used []) (F : Fr B E w0 w') : R B E w0 N σ' a w' G' :=
  ⟨r.defers, r.size, fun s => by rw [he]; exact (r.env s).keep K (fun m hm => r.wfe s m hm), fun s m hm => by rw [he] at hm; exact hu m (r.wfe s m hm), H, F,
    fun n p b hp hb => by
      have hun := r.pinu n (E.lt n p hp)
      obtain ⟨k0, k1, k2, k3, k4, k6⟩ := K.name n hun (by rw [hb]; simp)
      cases h0 : σ.h n with
      | none => exact absurd h0 k0
      | some b0 =>
        obtain ⟨p1, p2, p3, p4, p6, p5⟩ := r.pin n p b0 hp h0
        refine ⟨k1.trans p1, k2.trans p2, k3.trans p3, k4.trans p4, k6.trans p6, fun gr sz xs hbr k j pc hk hL => ?_⟩
        subst hbr
        obtain ⟨⟨gr0, xs0, e0⟩, hl⟩ := K.live n gr sz xs hun hb
        rw [h0] at e0
        injection e0 with e0
        obtain ⟨pc1, q1, q2, q3⟩ := p5 gr0 sz xs0 e0 k j pc hk hL
        obtain ⟨pc2, q4, q5, q6⟩ := hl k j pc1 q1 q3
        exact ⟨pc2, q4, q5.trans q2, q6⟩,
    fun n hn => hu n (r.pinu n hn)⟩

end

/-! ### constants and operands -/

def chkC : Value → ACell → Bool
  | .int k n, .c (.int k' n') => decide (k = k') && decide (n = n')
  | .bool b, .c (.bool b') => decide (b = b')
  | .slice none 0 0, .nil sz => true
  | _, _ => false

def chkCs : List Value → List ACell → Bool
  | [], [] => true
  | v :: vs, c :: cs => chkC v c && chkCs vs cs
  | _, _ => false

def chkMO : Operand → MO → Bool
  | .tmp n, .t m => n == m
  | .const (.agg vs), .k (.agg cs) => chkCs vs.toList cs
  | .const v, .k (.one c) => chkC v c
  | _, _ => false

section
variable {B : Nat} {E : Ex} {w0 w w' : World} {G G' : Gh} {h h' : Nat → Option Blk} {used used' : Nat → Bool} {tk : List PC} {N : Nat}

theorem chkC_ok {v : Value} {c : ACell} (hc : chkC v c = true) : RC w G h c v ∧ v.oneCell' = true ∧ ∀ m, ¬ c.ref m := by
  unfold chkC at hc
  split at hc
  · simp at hc
    obtain ⟨rfl, rfl⟩ := hc
    exact ⟨⟨.int _ _, rfl, rfl, .int _ _, fun b hb => by cases hb⟩, rfl, fun m hm => hm⟩
  · simp at hc
    subst hc
    exact ⟨⟨.bool _, rfl, rfl, .bool _, fun b hb => by cases hb⟩, rfl, fun m hm => hm⟩
  · exact ⟨rfl, rfl, fun m hm => hm⟩
  · cases hc

theorem chkCs_ok : ∀ {vs : List Value} {cs : List ACell}, chkCs vs cs = true → RCl w G h cs vs ∧ ∀ c ∈ cs, ∀ m, ¬ c.ref m
  | [], [], _ => ⟨⟨rfl, by simp⟩, by simp⟩
  | v :: vs, c :: cs, hc => by
    simp only [chkCs, Bool.and_eq_true] at hc
    obtain ⟨a1, a2, a3⟩ := chkC_ok (w := w) (G := G) (h := h) hc.1
    obtain ⟨⟨b1, b2⟩, b3⟩ := chkCs_ok hc.2
    refine ⟨⟨by simp [b1], fun j c' u hj hu => ?_⟩, fun c' hc' => ?_⟩
    · cases j with
      | zero => simp at hj hu; subst hj; subst hu; exact ⟨a2, a1⟩
      | succ j => exact b2 j c' u (by simpa using hj) (by simpa using hu)
    · cases hc' with
      | head => exact a3
      | tail _ hc' => exact b3 c' hc'
  | [], _ :: _, hc => by simp [chkCs] at hc
  | _ :: _, [], hc => by simp [chkCs] at hc

theorem RV.of_one {c : ACell} {v : Value} (h1 : v.oneCell' = true) (h2 : RC w G h c v) : RV w G h false [c] v := by
  show RCl w G h [c] [v]
  exact ⟨rfl, fun j c' u hj hu => by
    cases j with
    | zero => simp at hj hu; subst hj; subst hu; exact ⟨h1, h2⟩
    | succ j => simp at hj⟩

theorem RA.of_one {c : ACell} {v : Value} (h1 : v.oneCell' = true) (h2 : RC w G h c v) : RA w G h (.one c) v := .inr (RV.of_one h1 h2)

theorem R.ev {σ : St} {a : Act} (r : R B E w0 N σ a w G) {x : Operand} {m : MO} (hc : chkMO x m = true) : RA w G σ.h (σ.ev m) (a.eval x) ∧ ∀ n, (σ.ev m).ref n → σ.used n = true := by
  unfold chkMO at hc
  split at hc
  · simp at hc
    subst hc
    exact ⟨r.env _, fun n hn => r.wfe _ n hn⟩
  · rename_i vs cs
    obtain ⟨b1, b2⟩ := chkCs_ok (w := w) (G := G) (h := σ.h) hc
    exact ⟨⟨vs.toList, by simp [Act.eval], b1⟩, fun n hn => by obtain ⟨c, hc, hm⟩ := hn; exact absurd hm (b2 c hc n)⟩
  · obtain ⟨a1, a2, a3⟩ := chkC_ok (w := w) (G := G) (h := σ.h) hc
    exact ⟨RA.of_one a2 a1, fun n hn => absurd hn (a3 n)⟩
  · cases hc

/-- What an operation that only computes comes to. -/
theorem wp_value {P : Program} {o : Oper} {a : Act} {v : Value} {K : Act → World → Prop} {Q : Exit → Act → World → Prop} (hr : (execOp a.eval o).run P w = .ok (.value v) w') (hK : K (a.put o.dst v) w') : o.wp P a w K Q := by
  unfold Oper.wp
  rw [hr]
  exact hK

theorem wp_skipped {P : Program} {o : Oper} {a : Act} {K : Act → World → Prop} {Q : Exit → Act → World → Prop} (hr : (execOp a.eval o).run P w = .ok .skip w') (hK : K (a.put o.dst undef) w') : o.wp P a w K Q := by
  unfold Oper.wp
  rw [hr]
  exact hK

end
end Go.Am
