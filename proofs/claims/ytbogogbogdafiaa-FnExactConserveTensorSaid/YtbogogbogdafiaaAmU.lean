/- AmU: the builtins copy and clear on lists of ints. No condition. -/
import Derived.Test.YtbogogbogdafiaaAmT
set_option linter.unusedVariables false
namespace Go.Am
section
variable {B : Nat} {E : Ex} {w0 w w' : World} {G G' : Gh} {N : Nat} {h h' : Nat → Option Blk} {used : Nat → Bool}
variable {P : Program} {o : Oper} {a : Act} {σ σ' : St} {Q : Exit → Act → World → Prop}
theorem one_flat {α : Type} : ∀ {py : List (List α)}, (∀ e ∈ py, e.length = 1) → py = py.flatten.map fun c => [c]
 | [], _ => rfl
 | e :: py, h => by
  have h1 := h e (by simp)
  match e, h1 with
  | [c], _ =>
   rw [List.flatten_cons, List.map_append, ← one_flat (py := py) fun e he => h e (by simp [he])]
   rfl
theorem setB_self {n : Nat} {b : Blk} (hn : σ.h n = some b) : σ.setB n b = σ := by
 unfold St.setB
 rw [← hn, upd_self]
theorem splice_nil {α : Type} (xs : List α) (lo : Nat) (h : lo ≤ xs.length) : splice xs lo [] = xs := by simp [splice]
theorem run_copy {t t' ty e e' : TypeId} {i : TypeInfo} (ht : P.underlying t = some (.slice e)) (hi : P.info? e = some i) (hsz : i.size = 1) (g og dLen dCap : Nat) (cur : Array Value) (hg : w.heap[g]? = some (.cells cur e' (0, 0)))
  (a : Addr) (m c : Nat) (news : List Value) (hl : news.length = Nat.min m dLen) (hnews : ∀ j u, news[j]? = some u → w.cell? (a.add j) = some u) (h1 : ∀ u ∈ news, u.oneCell' = true) (hfit : og + news.length ≤ cur.size) :
  (Builtin.copy_ #[t, t'] ty #[.slice (some (ad g og)) dLen dCap, .slice (some a) m c]).run P w = .ok (.int .i64 (Nat.min m dLen : Nat)) (wSet w g og news cur) := by
 have hf := run_firstCells_some (P := P) w i.size (Nat.min m dLen) a m c news (by rw [hl, hsz, Nat.mul_one]) hnews
 have hst := run_storeCells_at P g og e' news 0 cur w hg (by simpa using hfit) h1
 simp only [Nat.add_zero] at hst
 simp [Builtin.copy_, run_underlying ht, sizeOf, typeInfo, hi, Builtin.lenOf, hf, ad, hst, wSet, goInt]
theorem run_copy0 {t t' ty e : TypeId} {i : TypeInfo} (ht : P.underlying t = some (.slice e)) (hi : P.info? e = some i) (ya a' : Option Addr) (dLen dCap m c : Nat) (h0 : Nat.min m dLen = 0) :
  (Builtin.copy_ #[t, t'] ty #[.slice ya dLen dCap, .slice a' m c]).run P w = .ok (.int .i64 0) w := by
 cases ya <;> cases a' <;> simp [Builtin.copy_, run_underlying ht, sizeOf, typeInfo, hi, Builtin.lenOf, h0, Builtin.firstCells, loadCells, loadCellsFrom, storeCells, goInt]
theorem ex_copy (r : R B E w0 N σ a w G) {t t' e : TypeId} {i : TypeInfo} {x y : Operand} {mx my : MO} {n lo len : Nat} {c : ACell} {ys xs : List (List C)} {gr : Bool} {m : Mode} (ho : o.op = .call { callee := .builtin .copy, args := #[x, y], argTypes := #[t, t'] }) (hN : ∀ n, o.dst = some n → n < N)
  (hm1 : chkMO x mx = true) (hm2 : chkMO y my = true) (ht : P.underlying t = some (.slice e)) (hi : P.info? e = some i) (hsz : i.size = 1) (hx : σ.ev mx = .one (.sl n 1 lo len)) (hy : σ.ev my = .one c) (hn : σ.h n = some (.row gr m 1 xs))
  (hv : viewC σ.h c = some (.list 1 ys)) (hm : m ≠ .bor) (hs : scalLL xs = true) (hs' : scalLL ys = true) (hfit : lo + len ≤ xs.length) :
  o.wp P a w (Nx B E w0 N ((σ.setB n (.row gr m 1 (splice xs lo (ys.take len)))).put o.dst (.one (.c (.int .i64 (Nat.min ys.length len : Nat)))))) Q := by
 have H := r.hr
 obtain ⟨x1, _⟩ := r.ev hm1
 obtain ⟨y1, _⟩ := r.ev hm2
 rw [hx] at x1
 rw [hy] at y1
 have hcj : c ≠ .junk := by rintro rfl; simp [Am.viewC] at hv
 have hsl : SlOk (G.g n) 1 lo len (a.eval x) := (x1.oneRC (by simp)).1 (by rw [hn]; simp)
 obtain ⟨pc, p1, p2, p3⟩ := H.viewC hv (y1.oneRC hcj).1
 have hr := H.row n gr m 1 xs hn
 cases pc with
 | int kk nn => simp [PC.er] at p1
 | bool bb => simp [PC.er] at p1
 | list s' ya cc py =>
 rw [PC.er_list] at p1
 injection p1 with e1 e2
 subst e1
 have hyl : ys.length = py.length := by rw [← e2]; simp
 have p2' : a.eval y = .slice ya py.length cc := p2.symm
 by_cases h0 : Nat.min py.length len = 0
 ·have hstay : σ.setB n (.row gr m 1 (splice xs lo (ys.take len))) = σ := by
   have : ys.take len = [] := by
    apply List.eq_nil_of_length_eq_zero
    rw [List.length_take, hyl]
    have : min len py.length = Nat.min py.length len := Nat.min_comm _ _
    omega
   rw [this, splice_nil _ _ (by omega)]
   exact setB_self hn
  have hdv : ∃ ya', a.eval x = .slice ya' len (match (G.g n).nl with | true => (G.g n).cap | false => (G.g n).cap - lo) := by
   rcases hsl with ⟨hnl, hv, _, rfl⟩ | ⟨hnl, a', hv, _, _⟩
   ·exact ⟨_, by rw [hv, hnl]⟩
   ·exact ⟨_, by rw [hv, hnl]⟩
  obtain ⟨ya', hdv⟩ := hdv
  rw [hstay, hyl, h0]
  refine ex_val r (v := .int .i64 0) ?_ (RA.of_int _ _) (fun q hq => absurd hq no_ref_c) hN
  simp only [execOp, ho]
  simp [resolve, invoke, builtin, hdv, p2', run_copy0 ht hi _ _ _ _ _ _ h0]
 ·have hlen : 0 < len := by
   rcases Nat.eq_zero_or_pos len with h | h
   ·subst h; exact absurd (Nat.min_zero _) h0
   ·exact h
  have hpl : 0 < py.length := by
   rcases Nat.eq_zero_or_pos py.length with h | h
   ·rw [h] at h0; exact absurd (Nat.zero_min _) h0
   ·exact h
  rcases hsl with ⟨_, _, _, rfl⟩ | ⟨hnl, a', hv1, hcap, ha⟩
  ·omega
  have hae := ha (.inl (by omega))
  subst hae
  obtain ⟨⟨cur, et, hg⟩, l2, l3⟩ := hr.lies hnl
  generalize hgen : PC.list 1 ya cc py = p at p3
  cases p3 with
  | int k n => cases hgen
  | bool b => cases hgen
  | nil _ _ _ _ => injection hgen with _ _ _ e4; subst e4; simp at hpl
  | cons _ b oo _ _ q1 q2 q3 q4 q5 q6 =>
  injection hgen with f1 f2 f3 f4
  subst f1 f2 f3 f4
  have hpf := one_flat q4
  generalize hfl : py.flatten = pl at hpf
  subst hpf
  have hys : ys = pl.map fun c => [c.er] := by rw [← e2, List.map_map]; rfl
  have hpe : ∀ c ∈ pl.take len, c.er.scal = true := by
   intro c hc
   have h6 := List.all_eq_true.1 hs' [c.er] (by rw [hys]; exact List.mem_map_of_mem (f := fun c : PC => [c.er]) (List.mem_of_mem_take hc))
   exact List.all_eq_true.1 h6 c.er (by simp)
  have hxl : xs.length = (G.g n).px.length := by rw [hr.er, List.length_map]
  have hplen : (pl.take len).length = Nat.min (pl.map fun c => [c]).length len := by rw [List.length_take, List.length_map]; exact Nat.min_comm _ _
  have hle : (pl.take len).length ≤ len := by rw [List.length_take]; exact Nat.min_le_left _ _
  have hcur : (G.g n).o + lo + (pl.take len).length ≤ cur.size := by
   have h1 : lo + len - 1 < (G.g n).px.length := by omega
   have h2 : ((G.g n).px[lo + len - 1]'h1).length = 1 := l2.1 _ (List.getElem_mem h1)
   have hc := l2.2.1 (lo + len - 1) 0 (((G.g n).px[lo + len - 1]'h1)[0]'(by omega)) ⟨_, List.getElem?_eq_getElem h1, List.getElem?_eq_getElem _⟩
   have := cell_fit hg hc
   omega
  obtain ⟨G', r'⟩ := r.fill1 hn hm hs hnl (lo := lo) (pe := pl.take len) hpe (by omega) hg hcur
  have hws : ys.take len = (pl.take len).map fun c => [c.er] := by rw [hys, List.map_take]
  rw [hws, show Nat.min ys.length len = Nat.min (pl.map fun c => [c]).length len by rw [hyl]]
  have hrun := run_copy (P := P) (w := w) (t' := t') (ty := o.type) ht hi hsz (G.g n).b ((G.g n).o + lo) len ((G.g n).cap - lo) cur hg (ad b oo) (pl.map fun c => [c]).length cc ((pl.take len).map PC.val) (by rw [List.length_map, hplen]) (fun j u hj => by
   rw [List.getElem?_map] at hj
   cases hp : (pl.take len)[j]? with
   | none => rw [hp] at hj; cases hj
   | some c0 =>
    rw [hp] at hj
    injection hj with hj
    subst hj
    have hp' : pl[j]? = some c0 := by
     rw [List.getElem?_take] at hp
     split at hp
     ·exact hp
     ·cases hp
    have := q5 j 0 c0 ⟨[c0], by rw [List.getElem?_map, hp']; rfl, rfl⟩
    rw [ad_add]
    rw [show oo + j = oo + j * 1 + 0 by omega]
    exact this) (fun u hu => by obtain ⟨c0, _, rfl⟩ := List.mem_map.1 hu; exact PC.val_oneCell c0) (by rw [List.length_map]; exact hcur)
  refine wp_value (w' := wSet w (G.g n).b ((G.g n).o + lo) ((pl.take len).map PC.val) cur) (v := .int .i64 (Nat.min (pl.map fun c => [c]).length len : Nat)) ?_ ⟨G', r'.put (RA.of_int _ _) (fun q hq => absurd hq no_ref_c) hN⟩
  rw [Nat.mul_one] at hv1
  simp only [execOp, ho]
  simp only [List.length_map] at hrun ⊢
  simp [resolve, invoke, builtin, hv1, p2', List.length_map, hrun]
theorem zeroCells_one (z0 : Value) (n : Nat) : (Builtin.zeroCells #[z0] n).toList = List.replicate n z0 := by
 unfold Builtin.zeroCells
 simp
 rw [List.eq_replicate_iff]
 refine ⟨by simp, fun b hb => ?_⟩
 obtain ⟨i, _, rfl⟩ := List.mem_map.1 hb
 simp [Nat.mod_one]
theorem run_clear0 {t ty e : TypeId} (ht : P.underlying t = some (.slice e)) (ya : Option Addr) (c : Nat) :
  (Builtin.clear_ #[t] ty #[.slice ya 0 c]).run P w = .ok (.tuple #[]) w := by
 cases ya <;> simp [Builtin.clear_, run_underlying ht]
theorem run_clear {t ty e e' : TypeId} {i : TypeInfo} {z z0 : Value} (ht : P.underlying t = some (.slice e)) (hi : P.info? e = some i) (hz : i.zero = some z) (hz0 : z.cells = #[z0]) (h1 : z0.oneCell' = true) (g og n c : Nat) (hn : 0 < n) (cur : Array Value) (hg : w.heap[g]? = some (.cells cur e' (0, 0)))
  (hfit : og + n ≤ cur.size) : (Builtin.clear_ #[t] ty #[.slice (some (ad g og)) n c]).run P w = .ok (.tuple #[]) (wSet w g og (List.replicate n z0) cur) := by
 have hst := run_storeCells_at P g og e' (List.replicate n z0) 0 cur w hg (by simpa using hfit) (fun v hv => by rw [(List.mem_replicate.1 hv).2]; exact h1)
 simp only [Nat.add_zero] at hst
 obtain ⟨n, rfl⟩ : ∃ k, n = k + 1 := ⟨n - 1, by omega⟩
 simp [Builtin.clear_, run_underlying ht, typeInfo, zeroValue, hi, hz, hz0, zeroCells_one, ad, hst, wSet]
theorem ex_clr (r : R B E w0 N σ a w G) {t e : TypeId} {i : TypeInfo} {z : Value} {x : Operand} {mx : MO} {n lo len : Nat} {zc : C} {xs : List (List C)} {gr : Bool} {m : Mode} (ho : o.op = .call { callee := .builtin .clear, args := #[x], argTypes := #[t] }) (hN : ∀ n, o.dst = some n → n < N)
  (hm1 : chkMO x mx = true) (ht : P.underlying t = some (.slice e)) (hi : P.info? e = some i) (hz : i.zero = some z) (hc : chkZs z.cells.toList [zc] = true) (hzs : zc.scal = true) (hx : σ.ev mx = .one (.sl n 1 lo len)) (hn : σ.h n = some (.row gr m 1 xs))
  (hm : m ≠ .bor) (hs : scalLL xs = true) (hfit : lo + len ≤ xs.length) :
  o.wp P a w (Nx B E w0 N ((σ.setB n (.row gr m 1 (splice xs lo (List.replicate len [zc])))).put o.dst (.tup []))) Q := by
 have H := r.hr
 obtain ⟨x1, _⟩ := r.ev hm1
 rw [hx] at x1
 have hsl : SlOk (G.g n) 1 lo len (a.eval x) := (x1.oneRC (by simp)).1 (by rw [hn]; simp)
 have hr := H.row n gr m 1 xs hn
 obtain ⟨b1, b2, b3⟩ := chkZs_ok (w := w) hc
 have hRA : ∀ w G' h', RA w G' h' (.tup []) (.tuple #[]) := fun w G' h' => ⟨[], rfl, rfl, by simp⟩
 have hz0 : z.cells = #[(zPC zc).val] := by
  apply Array.ext'
  rw [← b2]
  rfl
 rcases Nat.eq_zero_or_pos len with rfl | hlen
 ·have hdv : ∃ ya' c, a.eval x = .slice ya' 0 c := by
   rcases hsl with ⟨hnl, hv, _, _⟩ | ⟨hnl, a', hv, _, _⟩
   ·exact ⟨_, _, hv⟩
   ·exact ⟨_, _, hv⟩
  obtain ⟨ya', c, hdv⟩ := hdv
  rw [show splice xs lo (List.replicate 0 [zc]) = xs from splice_nil _ _ (by omega), setB_self hn]
  refine ex_val r (v := .tuple #[]) ?_ (hRA _ _ _) (fun q hq => ?_) hN
  ·simp only [execOp, ho]
   simp [resolve, invoke, builtin, hdv, run_clear0 ht]
  ·obtain ⟨x, hx, _⟩ := hq; simp at hx
 ·rcases hsl with ⟨_, _, _, rfl⟩ | ⟨hnl, a', hv1, hcap, ha⟩
  ·omega
  have hae := ha (.inl (by omega))
  subst hae
  obtain ⟨⟨cur, et, hg⟩, l2, l3⟩ := hr.lies hnl
  have hxl : xs.length = (G.g n).px.length := by rw [hr.er, List.length_map]
  have hcur : (G.g n).o + lo + len ≤ cur.size := by
   have h1 : lo + len - 1 < (G.g n).px.length := by omega
   have h2 : ((G.g n).px[lo + len - 1]'h1).length = 1 := l2.1 _ (List.getElem_mem h1)
   have hc := l2.2.1 (lo + len - 1) 0 (((G.g n).px[lo + len - 1]'h1)[0]'(by omega)) ⟨_, List.getElem?_eq_getElem h1, List.getElem?_eq_getElem _⟩
   have := cell_fit hg hc
   omega
  have her : (zPC zc).er = zc := by simpa using b1
  obtain ⟨G', r'⟩ := r.fill1 hn hm hs hnl (lo := lo) (pe := List.replicate len (zPC zc)) (fun c hc => by rw [(List.mem_replicate.1 hc).2, her]; exact hzs) (by rw [List.length_replicate]; exact hfit) hg (by rw [List.length_replicate]; exact hcur)
  rw [List.map_replicate, List.map_replicate, her] at r'
  have hrun := run_clear (P := P) (w := w) (ty := o.type) ht hi hz hz0 (PC.val_oneCell _) (G.g n).b ((G.g n).o + lo) len ((G.g n).cap - lo) hlen cur hg hcur
  refine wp_value (w' := wSet w (G.g n).b ((G.g n).o + lo) (List.replicate len (zPC zc).val) cur) (v := .tuple #[]) ?_ ⟨G', r'.put (hRA _ _ _) (fun q hq => by obtain ⟨x, hx, _⟩ := hq; simp at hx) hN⟩
  rw [Nat.mul_one] at hv1
  simp only [execOp, ho]
  simp [resolve, invoke, builtin, hv1, hrun]
end
end Go.Am