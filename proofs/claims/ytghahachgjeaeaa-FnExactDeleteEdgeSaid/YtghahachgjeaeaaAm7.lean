/- Am7: takes of lists of cells; results of calls. No condition. -/
import Derived.Test.YtghahachgjeaeaaAm6
set_option linter.unusedVariables false
namespace Go.Am

section
variable {B : Nat} {E : Ex} {w0 w w' : World} {G G' : Gh} {h h' : Nat → Option Blk} {used used' : Nat → Bool} {tk : List PC}

theorem HR.takeL : ∀ {cs : List ACell} {σ σ1 : St} {G : Gh} {tk : List PC} {xs : List C} {o : Bool} {vs : List Value}, HR B E w G σ.h σ.used tk → σ.takeL cs = some (xs, o, σ1) → RCl w G σ.h cs vs →
    (∀ c ∈ cs, ∀ m, c.ref m → σ.used m = true) →
    ∃ (Im' : Nat → Prop) (pcs : List PC), pcs.map PC.er = xs ∧ pcs.map PC.val = vs ∧ (∀ pc ∈ pcs, Good w pc ∧ ∀ b, InF b pc → Im' b) ∧
      HR B E w ⟨Im', G.g⟩ σ1.h σ.used (if o = true then tk ++ pcs else tk) ∧ Keep w G σ.h (fun n => σ.used n = true) w ⟨Im', G.g⟩ σ1.h ∧ σ1.env = σ.env ∧ σ1.used = σ.used ∧
      (∀ n b, σ1.h n = some b → σ.h n = some b)
  | [], σ, σ1, G, tk, xs, o, vs, H, hx, hc, hr => by
    simp only [St.takeL] at hx
    injection hx with hx
    injection hx with hx1 hx2
    injection hx2 with hx2 hx3
    subst hx1 hx2 hx3
    have : vs = [] := List.eq_nil_of_length_eq_zero (by simpa using hc.1)
    subst this
    exact ⟨G.Im, [], rfl, rfl, by simp, by simpa using H, Keep.refl _ _ _ _, rfl, rfl, fun _ _ h => h⟩
  | c :: cs, σ, σ2, G, tk, xs, o, vs, H, hx, hc, hr => by
    simp only [St.takeL] at hx
    split at hx
    · rename_i x o1 σ1 e1
      split at hx
      · rename_i xs' o2 σ2' e2
        injection hx with hx
        injection hx with hx1 hx2
        injection hx2 with hx2 hx3
        subst hx1 hx2 hx3
        obtain ⟨hlen, hat⟩ := hc
        match vs, hlen with
        | v :: vs, hlen =>
          obtain ⟨Im1, pc, a1, a2, a3, a4, a5, a6, a7, a8, a9⟩ := H.takeC e1 (hat 0 c v rfl rfl).2
          have hc2 : RCl w ⟨Im1, G.g⟩ σ1.h cs vs := RCl.keep a6 (fun c' hc' m hm => hr c' (by simp [hc']) m hm) ⟨by simpa using hlen, fun j c u h1 h2 => hat (j + 1) c u h1 h2⟩
          rw [← a8] at a5
          obtain ⟨Im2, pcs, b1, b2, b3, b4, b5, b6, b7, b8⟩ := HR.takeL a5 e2 hc2 (fun c' hc' m hm => by rw [a8]; exact hr c' (by simp [hc']) m hm)
          refine ⟨Im2, pc :: pcs, by simp [a1, b1], by simp [a2, b2], fun q hq => ?_, ?_, Keep.trans (fun n hn => by rw [a8]; exact hn) a6 b5, b6.trans a7, b7.trans a8, fun n b hb => a9 n b (b8 n b hb)⟩
          · cases hq with
            | head => exact ⟨a3, fun b hb => b5.im b (a4 b hb)⟩
            | tail _ hq => exact b3 q hq
          · rw [a8] at b4
            cases o1 <;> cases o2 <;> simp at b4 ⊢
            · exact b4
            · exact b4.tkTake
            · exact b4.tkTake
            · exact b4
      · cases hx
    · cases hx

theorem RA.cells {x : AVal} {ag : Bool} {cs : List ACell} {v : Value} (hx : x.cells? = some (ag, cs)) (hc : RA w G h x v) : RCl w G h cs v.cells.toList := by
  cases x with
  | one c =>
    have hj : c ≠ .junk ∧ ag = false ∧ cs = [c] := by
      cases c <;> simp [AVal.cells?] at hx <;> (obtain ⟨rfl, rfl⟩ := hx; simp)
    obtain ⟨h1, rfl, rfl⟩ := hj
    rcases hc with rfl | hc
    · exact absurd rfl h1
    · have hc' : RCl w G h [c] [v] := hc
      have h1 := (hc'.2 0 c v rfl rfl).1
      cases v <;> first | exact hc' | (simp [Value.oneCell'] at h1)
  | agg cs' =>
    simp [AVal.cells?] at hx
    obtain ⟨rfl, rfl⟩ := hx
    obtain ⟨vs, e, hl⟩ : ∃ vs : List Value, v = .agg vs.toArray ∧ RCl w G h cs' vs := hc
    subst e
    exact hl
  | tup xs => simp [AVal.cells?] at hx

theorem AVal.cells_ref {x : AVal} {ag : Bool} {cs : List ACell} (hx : x.cells? = some (ag, cs)) {c : ACell} (hc : c ∈ cs) {m : Nat} (hm : c.ref m) : x.ref m := by
  cases x with
  | one c' =>
    have hj : cs = [c'] := by
      cases c' <;> simp [AVal.cells?] at hx <;> exact hx.2.symm
    subst hj
    simp at hc
    subst hc
    exact hm
  | agg cs' =>
    simp [AVal.cells?] at hx
    obtain ⟨_, rfl⟩ := hx
    exact ⟨c, hc, hm⟩
  | tup xs => simp [AVal.cells?] at hx

theorem HR.takeEs {sz : Nat} : ∀ {xs : List AVal} {σ σ1 : St} {G : Gh} {tk : List PC} {es : List (List C)} {o : Bool} {vs : List Value}, HR B E w G σ.h σ.used tk → σ.takeEs sz xs = some (es, o, σ1) →
    vs.length = xs.length → (∀ (j : Nat) (x : AVal) (v : Value), xs[j]? = some x → vs[j]? = some v → RA w G σ.h x v) → (∀ x ∈ xs, ∀ m, x.ref m → σ.used m = true) →
    ∃ (Im' : Nat → Prop) (pes : List (List PC)), pes.map (fun e => e.map PC.er) = es ∧ pes.map (fun e => e.map PC.val) = vs.map (fun v => v.cells.toList) ∧ (∀ e ∈ pes, e.length = sz) ∧
      (∀ e ∈ pes, ∀ pc ∈ e, Good w pc ∧ ∀ b, InF b pc → Im' b) ∧
      HR B E w ⟨Im', G.g⟩ σ1.h σ.used (if o = true then tk ++ pes.flatten else tk) ∧ Keep w G σ.h (fun n => σ.used n = true) w ⟨Im', G.g⟩ σ1.h ∧ σ1.env = σ.env ∧ σ1.used = σ.used ∧
      (∀ n b, σ1.h n = some b → σ.h n = some b)
  | [], σ, σ1, G, tk, es, o, vs, H, hx, hl, hc, hr => by
    simp only [St.takeEs] at hx
    injection hx with hx
    injection hx with hx1 hx2
    injection hx2 with hx2 hx3
    subst hx1 hx2 hx3
    have : vs = [] := List.eq_nil_of_length_eq_zero (by simpa using hl)
    subst this
    exact ⟨G.Im, [], rfl, rfl, by simp, by simp, by simpa using H, Keep.refl _ _ _ _, rfl, rfl, fun _ _ h => h⟩
  | x :: xs, σ, σ2, G, tk, es, o, vs, H, hx, hl, hc, hr => by
    simp only [St.takeEs] at hx
    split at hx
    · rename_i ag cs ecs
      split at hx
      · rename_i hsz
        split at hx
        · rename_i e o1 σ1 e1
          split at hx
          · rename_i es' o2 σ2' e2
            injection hx with hx
            injection hx with hx1 hx2
            injection hx2 with hx2 hx3
            subst hx1 hx2 hx3
            match vs, hl with
            | v :: vs, hl =>
              have hcl := (hc 0 x v rfl rfl).cells ecs
              obtain ⟨Im1, pcs, a1, a2, a3, a5, a6, a7, a8, a9⟩ := H.takeL e1 hcl (fun c' hc' m hm => hr x (by simp) m (AVal.cells_ref ecs hc' hm))
              rw [← a8] at a5
              obtain ⟨Im2, pes, b1, b2, b3, b3', b4, b5, b6, b7, b8⟩ := HR.takeEs (xs := xs) (vs := vs) a5 e2 (by simpa using hl)
                (fun j x v h1 h2 => (hc (j + 1) x v h1 h2).keep a6 (fun m hm => hr x (by simp [List.mem_of_getElem? h1]) m hm)) (fun x' hx' m hm => by rw [a8]; exact hr x' (by simp [hx']) m hm)
              refine ⟨Im2, pcs :: pes, by simp [a1, b1], by simp [a2, b2], fun q hq => ?_, fun q hq pc hpc => ?_, ?_, Keep.trans (fun n hn => by rw [a8]; exact hn) a6 b5, b6.trans a7, b7.trans a8, fun n b hb => a9 n b (b8 n b hb)⟩
              · cases hq with
                | head =>
                  have : (pcs.map PC.er).length = (v.cells.toList).length := by rw [← a2]; simp
                  have h2 := hcl.1
                  simp at this
                  simp at h2
                  omega
                | tail _ hq => exact b3 q hq
              · cases hq with
                | head => exact ⟨(a3 pc hpc).1, fun b hb => b5.im b ((a3 pc hpc).2 b hb)⟩
                | tail _ hq => exact b3' q hq pc hpc
              · rw [a8] at b4
                cases o1 <;> cases o2 <;> simp at b4 ⊢
                · exact b4
                · exact b4.tkTake
                · exact b4.tkTake
                · exact b4
          · cases hx
        · cases hx
      · cases hx
    · cases hx

/-! ### results -/

/-- Block b is a cell's own, empty lists' blocks among them. -/
def InT (b : Nat) (pc : PC) : Prop := InF b pc ∨ ∃ sz o cap xs, pc = .list sz (some (ad b o)) cap xs

def TopOk (w : World) : PC → Prop
  | .list sz a cap xs => 0 < sz ∧ xs.length ≤ cap ∧ ((a = none ∧ cap = 0) ∨ ∃ b cur e, a = some (ad b 0) ∧ w.heap[b]? = some (.cells cur e (0, 0)) ∧ cur.size = cap * sz ∧ cap ≤ maxLen ∧ ∀ k j c, At xs k j c → ¬ InF b c)
  | _ => True

/-- What is asked of all the cells of a call's results together. -/
structure RetAll (w : World) (B' : Nat) (ps : List PC) : Prop where
  good : ∀ pc ∈ ps, Good w pc ∧ Sep pc ∧ TopOk w pc
  new : ∀ pc ∈ ps, ∀ b, InT b pc → B' ≤ b ∧ Unf w b
  dis : ∀ (i j : Nat) (pc pc' : PC) (b : Nat), i ≠ j → ps[i]? = some pc → ps[j]? = some pc' → InT b pc → ¬ InT b pc'

def retOne : K × List PC → Value
  | (.one, [pc]) => pc.val
  | (_, pcs) => .agg (pcs.map PC.val).toArray

def retVal : List (K × List PC) → Value
  | [p] => retOne p
  | l => .tuple (l.map retOne).toArray

/-- What the pure model of a function says of its calls. -/
def PureSpec (P : Program) (f : FuncId) (M : List Dv → Option (List Dv)) : Prop :=
  ∀ ds rs, M ds = some rs → ∀ (w : World) (vals : List Value), ArgsOk w ds vals → Calls P f vals.toArray w fun e w' =>
    ∃ prs : List (K × List PC), prs.map (fun p => (p.1, p.2.map PC.er)) = rs ∧ e = .returned (retVal prs) ∧ (∀ p ∈ prs, p.1 ≠ .ptr ∧ (p.1 = .one → p.2.length = 1)) ∧
      RetAll w' w.heap.size (prs.flatMap (·.2)) ∧ Fr w.heap.size Ex.no w w'

end
end Go.Am
