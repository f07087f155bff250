/- Am9: the operations that make a new block, and loads. No condition. -/
import Derived.Test.YtghahachgjeaeaaAm8
set_option linter.unusedVariables false
namespace Go.Am

section
variable {B : Nat} {E : Ex} {w0 w w' : World} {G G' : Gh} {h h' : Nat → Option Blk} {used used' : Nat → Bool} {tk : List PC} {N : Nat}
variable {P : Program} {o : Oper} {a : Act} {σ σ' : St} {Q : Exit → Act → World → Prop}

/-- What is left to show behind a step. -/
def Nx (B : Nat) (E : Ex) (w0 : World) (N : Nat) (σ : St) : Act → World → Prop := fun a w => ∃ G, R B E w0 N σ a w G

theorem alloc_block (w : World) (ob : Obj) (b : Nat) (hb : b < w.heap.size) : (w.alloc ob).heap[b]? = w.heap[b]? := heap_alloc_old w ob b hb

theorem Unf.alloc (w : World) (arr : Array Value) (e : TypeId) : Unf (w.alloc (.cells arr e)) w.heap.size := ⟨arr, e, heap_alloc_new w _⟩

theorem ins_some {σ1 : St} {n : Nat} {b : Blk} (hx : σ.ins n b = some σ1) : σ.used n = false ∧ σ1 = { σ with h := upd σ.h n (some b), used := upd σ.used n true } := by
  unfold St.ins at hx
  split at hx
  · cases hx
  · rename_i hu
    injection hx with hx
    exact ⟨by simpa using hu, hx.symm⟩

theorem upd_used (n m : Nat) (hm : used m = true) : upd used n true m = true := by
  unfold upd; split
  · rfl
  · exact hm

/-- A box in new memory. -/
theorem R.newBox (r : R B E w0 N σ a w G) {n : Nat} {cs : List ACell} {vs : List Value} {e : TypeId} (hn : σ.used n = false) (hc : RCl w G σ.h cs vs) (href : ∀ c ∈ cs, ∀ m, c.ref m → σ.used m = true) :
    ∃ G', R B E w0 N { σ with h := upd σ.h n (some (.box cs)), used := upd σ.used n true } a (w.alloc (.cells vs.toArray e)) G' ∧
      RA (w.alloc (.cells vs.toArray e)) G' (upd σ.h n (some (.box cs))) (.one (.ptr n 0 0 0)) (.pointer (some (ad w.heap.size 0))) := by
  have H := r.hr
  have hB := r.fr.size
  have hw := alloc_block w (.cells vs.toArray e)
  refine ⟨⟨G.Im, upd G.g n ⟨false, w.heap.size, 0, 0, [], none⟩⟩, r.step rfl (fun m hm => upd_used n m hm) (Keep.insert H hn hw) ?_ (r.fr.grow hw (by simp) rfl rfl rfl), ?_⟩
  · refine H.insert hn hw (by simp) (fun _ => ⟨H.lone_new, .inl hB, by simp⟩) (fun cs' c m hb hc' hm => ?_) ⟨rfl, Unf.alloc _ _ _, fun j c hj => ?_⟩ (fun gr m sz xs hb => by cases hb) (fun gr sz xs hb => by cases hb) (fun gr m sz xs hb => by cases hb)
    · injection hb with hb; subst hb; exact href c hc' m hm
    · have hjl : j < vs.length := by rw [hc.1]; exact (List.getElem?_eq_some_iff.1 hj).1
      have hv : vs[j]? = some vs[j] := List.getElem?_eq_getElem hjl
      obtain ⟨q1, q2⟩ := hc.2 j c _ hj hv
      refine ⟨vs[j], ?_, q1, q2⟩
      simp only [Nat.zero_add]
      unfold ad
      rw [World.cell?_alloc_new]
      simp only [List.getElem?_toArray]; exact hv
  · exact RA.of_one rfl fun _ => by simp [upd_same]

theorem run_newVar (t : TypeId) (v : Value) : (newVar t v).run P w = .ok (ad w.heap.size 0) (w.alloc (.cells v.cells t)) := by
  simp [newVar, newRow, ad]

theorem ex_alloc (r : R B E w0 N σ a w G) {n : Nat} {e : TypeId} {i : TypeInfo} {z : Value} {zs : List ACell} {σ1 : St} (ho : o.op = .alloc e) (hd : o.dst = some n) (hN : n < N)
    (hi : P.info? e = some i) (hz : i.zero = some z) (hc : chkCs z.cells.toList zs = true) (hx : σ.ins n (.box zs) = some σ1) :
    o.wp P a w (Nx B E w0 N (σ1.put o.dst (.one (.ptr n 0 0 0)))) Q := by
  obtain ⟨hn, rfl⟩ := ins_some hx
  obtain ⟨hcl, href⟩ := chkCs_ok (w := w) (G := G) (h := σ.h) hc
  obtain ⟨G', r', hv⟩ := r.newBox (e := e) hn hcl (fun c hc m hm => absurd hm (href c hc m))
  have hrun : (execOp a.eval o).run P w = .ok (.value (.pointer (some (ad w.heap.size 0)))) (w.alloc (.cells z.cells.toList.toArray e)) := by
    simp [execOp, ho, Instr.alloc, zeroValue, typeInfo, hi, hz, newVar, newRow, ad]
  exact wp_value hrun ⟨G', r'.put hv (fun m hm => by have hm' : m = n := hm; subst hm'; exact upd_same _ _ _) (fun m hm => by rw [hd] at hm; injection hm with hm; omega)⟩

theorem ex_box (r : R B E w0 N σ a w G) {n : Nat} {e : TypeId} {x : Operand} {m : MO} {ag : Bool} {cs : List ACell} {σ1 : St} (ho : o.op = .box e x) (hd : o.dst = some n) (hN : n < N)
    (hm : chkMO x m = true) (hcs : (σ.ev m).cells? = some (ag, cs)) (hx : σ.ins n (.box cs) = some σ1) :
    o.wp P a w (Nx B E w0 N (σ1.put o.dst (.one (.ptr n 0 0 0)))) Q := by
  obtain ⟨hn, rfl⟩ := ins_some hx
  obtain ⟨hv, href⟩ := r.ev hm
  obtain ⟨G', r', hv'⟩ := r.newBox (e := e) hn (hv.cells hcs) (fun c hc q hq => href q (AVal.cells_ref hcs hc hq))
  have hrun : (execOp a.eval o).run P w = .ok (.value (.pointer (some (ad w.heap.size 0)))) (w.alloc (.cells (a.eval x).cells.toList.toArray e)) := by
    simp [execOp, ho, Instr.box, newVar, newRow, ad]
  exact wp_value hrun ⟨G', r'.put hv' (fun q hq => by have hq' : q = n := hq; subst hq'; exact upd_same _ _ _) (fun q hq => by rw [hd] at hq; injection hq with hq; omega)⟩

/-! ### rows in new memory -/

/-- Cells of rows laid one behind the other. -/
theorem at_flat {α : Type} {sz : Nat} : ∀ {px : List (List α)} (_ : ∀ e ∈ px, e.length = sz) {k j : Nat} {c : α}, At px k j c → px.flatten[k * sz + j]? = some c
  | [], _, k, j, c, hk => by obtain ⟨e, he, _⟩ := hk; simp at he
  | e :: px, hl, k, j, c, hk => by
    obtain ⟨e', he, hj⟩ := hk
    have h0 := hl e (by simp)
    cases k with
    | zero =>
      simp at he
      subst he
      have hjl := (List.getElem?_eq_some_iff.1 hj).1
      simp only [List.flatten_cons, Nat.zero_mul, Nat.zero_add]
      rw [List.getElem?_append_left hjl]
      exact hj
    | succ k =>
      have ih := at_flat (px := px) (fun e he => hl e (by simp [he])) (k := k) (j := j) (c := c) ⟨e', by simpa using he, hj⟩
      simp only [List.flatten_cons]
      rw [List.getElem?_append_right (by rw [h0, Nat.add_mul]; omega)]
      rw [show (k + 1) * sz + j - e.length = k * sz + j by rw [h0, Nat.add_mul]; omega]
      exact ih

/-- What makes a row of cells 'pes' an owned one. -/
structure OwnRow (B : Nat) (E : Ex) (w : World) (G : Gh) (h : Nat → Option Blk) (m : Mode) (pes : List (List PC)) : Prop where
  foot : ∀ b, RowF b pes → G.Im b ∧ Unf w b ∧ (B ≤ b ∨ E b)
  sep : RowSep pes
  cross : ∀ n gr m sz xs, h n = some (.row gr m sz xs) → m ≠ .bor → ∀ b, RowF b pes → ¬ RowF b (G.g n).px
  kind : m = .froz ∨ ∀ b, ¬ RowF b pes

theorem at_inj {α : Type} {sz : Nat} (hsz : 0 < sz) {pes : List (List α)} (hl : ∀ e ∈ pes, e.length = sz) {k j k' j' : Nat} {c c' : α} (h1 : At pes k j c) (h2 : At pes k' j' c') (hne : (k, j) ≠ (k', j')) : k * sz + j ≠ k' * sz + j' := by
  intro heq
  have hj : j < sz := by obtain ⟨e1, he, hj⟩ := h1; rw [← hl e1 (List.mem_of_getElem? he)]; exact (List.getElem?_eq_some_iff.1 hj).1
  have hj' : j' < sz := by obtain ⟨e1, he, hj⟩ := h2; rw [← hl e1 (List.mem_of_getElem? he)]; exact (List.getElem?_eq_some_iff.1 hj).1
  have hk : k = k' := by
    have h3 : (k * sz + j) / sz = k := by rw [Nat.mul_comm, Nat.mul_add_div hsz, Nat.div_eq_of_lt hj]; omega
    have h4 : (k' * sz + j') / sz = k' := by rw [Nat.mul_comm, Nat.mul_add_div hsz, Nat.div_eq_of_lt hj']; omega
    rw [heq] at h3
    omega
  subst hk
  exact hne (by rw [show j = j' by omega])

theorem HR.ownTk {pes : List (List PC)} {sz : Nat} (hsz : 0 < sz) (hl : ∀ e ∈ pes, e.length = sz) (H : HR B E w G h used pes.flatten) : OwnRow B E w G h .froz pes := by
  refine ⟨?_, ⟨fun k j c hk => (H.tkok _ c (at_flat hl hk)).1, fun k j c k' j' c' b hk hk' hne hb => H.tkdis _ _ c c' b (at_inj hsz hl hk hk' hne) (at_flat hl hk) (at_flat hl hk') hb⟩, ?_, .inl rfl⟩
  · rintro b ⟨k, j, c, hk, hb⟩
    exact (H.tkok _ c (at_flat hl hk)).2 b hb
  · rintro n gr m sz xs hn hm b ⟨k, j, c, hk, hb⟩
    exact H.tkrow _ c n gr m sz xs b (at_flat hl hk) hn hm hb

theorem Sep.of_noF {w : World} {q : PC} (hq : ∀ b, ¬ InF b q) (hg : Good w q) : Sep q := by
  induction hg with
  | int k n => exact .int k n
  | bool b => exact .bool b
  | nil sz a cap h => exact .list _ _ _ _ (by rintro k j c ⟨e, he, _⟩; simp at he) (by rintro b o k j c _ ⟨e, he, _⟩; simp at he) (by rintro k j c k' j' c' b ⟨e, he, _⟩; simp at he)
  | cons sz b o cap xs h1 h2 h3 h4 h5 h6 ih => exact absurd (.here _ _ _ _ h1) (hq b)

theorem OwnRow.of_noF {m : Mode} {pes : List (List PC)} (hno : ∀ b, ¬ RowF b pes) (hg : ∀ k j c, At pes k j c → Good w c) : OwnRow B E w G h m pes :=
  ⟨fun b hb => absurd hb (hno b), ⟨fun k j c hk => Sep.of_noF (fun b hb => hno b ⟨k, j, c, hk, hb⟩) (hg k j c hk), fun k j c k' j' c' b hk _ _ hb => absurd ⟨k, j, c, hk, hb⟩ (hno b)⟩, fun n gr m sz xs _ _ b hb => absurd hb (hno b), .inr hno⟩

/-- A row in new memory: its cells are 'pes', spare ones behind them. -/
theorem R.newRow (r : R B E w0 N σ a w G) {Im' : Nat → Prop} {σ1 : St} (H : HR B E w ⟨Im', G.g⟩ σ1.h σ.used []) (K : Keep w G σ.h (fun n => σ.used n = true) w ⟨Im', G.g⟩ σ1.h)
    (henv : σ1.env = σ.env) (hus : σ1.used = σ.used)
    {n : Nat} {m : Mode} {sz cap : Nat} {pes : List (List PC)} {arr : Array Value} {e : TypeId} (hn : σ.used n = false) (hsz : 0 < sz) (hl : ∀ e ∈ pes, e.length = sz)
    (hgood : ∀ k j c, At pes k j c → Good w c ∧ ∀ b, InF b c → Im' b) (harr : ∀ k j c, At pes k j c → arr[k * sz + j]? = some c.val) (hcap : pes.length ≤ cap) (hmax : cap ≤ maxLen) (hsize : arr.size = cap * sz)
    (hm : m = .bor ∨ OwnRow B E w ⟨Im', G.g⟩ σ1.h m pes) :
    ∃ G', R B E w0 N { σ1 with h := upd σ1.h n (some (.row true m sz (pes.map fun e => e.map PC.er))), used := upd σ1.used n true } a (w.alloc (.cells arr e)) G' ∧
      RA (w.alloc (.cells arr e)) G' (upd σ1.h n (some (.row true m sz (pes.map fun e => e.map PC.er)))) (.one (.sl n sz 0 pes.length)) (.slice (some (ad w.heap.size 0)) pes.length cap) := by
  have hB := r.fr.size
  have hw := alloc_block w (.cells arr e)
  have Hnew : HR B E (w.alloc (.cells arr e)) ⟨Im', upd G.g n ⟨false, w.heap.size, 0, cap, pes, none⟩⟩ (upd σ1.h n (some (.row true m sz (pes.map fun e => e.map PC.er)))) (upd σ.used n true) [] := by
    refine H.insert (p := ⟨false, w.heap.size, 0, cap, pes, none⟩) hn hw (by simp) (fun _ => ⟨H.lone_new, .inl hB, by simp⟩) (fun cs c m hb => by cases hb) ?_ ?_ ?_ (fun gr m sz xs _ _ i pc b hi => by simp at hi)
    · refine ⟨hsz, rfl, (fun hl => by cases hl), fun _ => ⟨Unf.alloc _ _ _, ⟨hl, fun k j c hk => ?_, fun k j c hk => ?_⟩, hcap⟩, fun _ _ => ⟨rfl, hmax, arr, e, heap_alloc_new w _, hsize⟩, ?_⟩
      · simp only [Nat.zero_add]
        unfold ad
        rw [World.cell?_alloc_new]
        exact harr k j c hk
      · exact (hgood k j c hk).1.congr fun b hb o => cell_congr (hw b (H.imlt b ((hgood k j c hk).2 b hb))) o
      · have hfoot : m ≠ .bor → (∀ b, RowF b pes → Im' b ∧ Unf (w.alloc (.cells arr e)) b ∧ (B ≤ b ∨ E b)) ∧ RowSep pes := fun hmb =>
          ⟨fun b hb => by
            have hO := hm.resolve_left hmb
            obtain ⟨q1, q2, q3⟩ := hO.foot b hb
            exact ⟨q1, q2.congr (hw b (H.imlt b q1)), q3⟩, (hm.resolve_left hmb).sep⟩
        cases m with
        | bor =>
          rintro b ⟨k, j, c, hk, hb⟩
          exact (hgood k j c hk).2 b hb
        | froz => exact hfoot (by simp)
        | live =>
          have hO := hm.resolve_left (by simp)
          have hno := hO.kind.resolve_left (by simp)
          exact ⟨fun b hb => absurd hb (hno b), hO.sep⟩
    · intro gr m' sz' xs' hb hmb n' gr' mo' sz2 xs2 h0 hmo b hbF
      injection hb with _ hb _ _
      subst hb
      exact (hm.resolve_left hmb).cross n' gr' mo' sz2 xs2 h0 hmo b hbF
    · intro gr sz' xs' hb b hbF
      injection hb with _ hb _ _
      subst hb
      exact absurd hbF ((hm.resolve_left (by simp)).kind.resolve_left (by simp) b)
  have K2 := Keep.trans (u2 := fun n => σ.used n = true) (fun _ h => h) K (Keep.insert H (blk := .row true m sz (pes.map fun e => e.map PC.er)) (p := ⟨false, w.heap.size, 0, cap, pes, none⟩) hn hw)
  refine ⟨⟨Im', upd G.g n ⟨false, w.heap.size, 0, cap, pes, none⟩⟩, r.step henv (fun m hm => by rw [hus]; exact upd_used n m hm) K2 (by rw [hus]; exact Hnew) (r.fr.grow hw (by simp) rfl rfl rfl), ?_⟩
  refine RA.of_one rfl fun _ => .inr ⟨by simp [upd_same], some (ad w.heap.size 0), ?_, ?_, ?_⟩
  · simp [upd_same]
  · simp [upd_same]; omega
  · simp [upd_same]

end
end Go.Am
