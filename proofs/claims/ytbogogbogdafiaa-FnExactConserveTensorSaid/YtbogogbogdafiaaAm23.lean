/- Am23: names are given anew. No condition. -/
import Derived.Test.YtbogogbogdafiaaAm22
set_option linter.unusedVariables false
namespace Go.Am
def back (x c n : Nat) : Nat := if n = c then x else n
theorem back_rnm {x c n : Nat} (hn : n ≠ c) : back x c (rnm x c n) = n := by
 unfold back rnm
 by_cases h : n = x
 ·subst h; simp
 ·simp [h, hn]
theorem rnm_ne {x c n : Nat} (hx : x ≠ c) (hn : n ≠ c) : rnm x c n ≠ x := by
 unfold rnm
 by_cases h : n = x
 ·simp [h]; exact fun e => hx e.symm
 ·simp [h]
structure Ren (x c : Nat) (used : Nat → Bool) (h h' : Nat → Option Blk) : Prop where
 ne : x ≠ c
 uc : used c = false
 gone : h' x = none
 b : ∀ n, n ≠ x → h' n = (h (back x c n)).map (·.ren x c)
section
variable {B : Nat} {E : Ex} {w0 w w' : World} {G G' : Gh} {N : Nat} {h h' : Nat → Option Blk} {used : Nat → Bool} {x c : Nat}
variable {P : Program} {T : Tab} {a : Act} {σ σ' : St} {Q : Exit → Act → World → Prop}
def gRen (G : Gh) (x c : Nat) : Gh := ⟨G.Im, fun n => G.g (back x c n)⟩
theorem Ren.at (L : Ren x c used h h') {n : Nat} (hn : used n = true) : h' (rnm x c n) = (h n).map (·.ren x c) := by
 have hc : n ≠ c := fun e => by subst e; rw [L.uc] at hn; cases hn
 rw [L.b _ (rnm_ne L.ne hc), back_rnm hc]
theorem Ren.gat (L : Ren x c used h h') {n : Nat} (hn : used n = true) : (gRen G x c).g (rnm x c n) = G.g n := by
 have hc : n ≠ c := fun e => by subst e; rw [L.uc] at hn; cases hn
 show G.g (back x c (rnm x c n)) = _
 rw [back_rnm hc]
theorem map_ne {o : Option Blk} (hn : o.map (·.ren x c) ≠ none) : o ≠ none := by
 cases o with
 | none => exact absurd rfl hn
 | some b => simp
theorem map_row {o : Option Blk} {gr : Bool} {m : Mode} {sz : Nat} {xs : List (List C)} (hn : o.map (·.ren x c) = some (.row gr m sz xs)) : o = some (.row gr m sz xs) := by
 cases o with
 | none => cases hn
 | some b => cases b with
  | box cs => simp [Blk.ren] at hn
  | row gr m sz xs => exact hn
theorem map_box {o : Option Blk} {cs : List ACell} (hn : o.map (·.ren x c) = some (.box cs)) : ∃ cs0, o = some (.box cs0) ∧ cs = cs0.map (·.ren x c) := by
 cases o with
 | none => cases hn
 | some b => cases b with
  | box cs0 =>
   simp only [Option.map_some, Blk.ren] at hn
   injection hn with hn
   injection hn with hn
   exact ⟨cs0, rfl, hn.symm⟩
  | row gr m sz xs => simp [Blk.ren] at hn
theorem RC0.ren (L : Ren x c used h h') {y : ACell} {v : Value} (hr : ∀ m, y.ref0 m → used m = true) (hc : RC0 w G h y v) : RC0 w (gRen G x c) h' (y.ren0 x c) v := by
 cases y with
 | ptr n k sz off =>
  intro hn
  rw [L.at (hr n rfl)] at hn
  rw [L.gat (hr n rfl)]
  exact hc (map_ne hn)
 | sl n sz lo len =>
  intro hn
  rw [L.at (hr n rfl)] at hn
  rw [L.gat (hr n rfl)]
  exact hc (map_ne hn)
 | nsl n k rsz off sz len =>
  intro gr xs hn
  rw [L.at (hr n rfl)] at hn
  rw [L.gat (hr n rfl)]
  exact hc gr xs (map_row hn)
 | nptr n k rsz off sz i =>
  intro gr xs hn
  rw [L.at (hr n rfl)] at hn
  rw [L.gat (hr n rfl)]
  exact hc gr xs (map_row hn)
 | c x => exact hc
 | nil sz => exact hc
 | dptr xs off => exact hc
 | fn f caps => exact hc
 | junk => exact hc
theorem RC.ren (L : Ren x c used h h') {y : ACell} {v : Value} (hr : ∀ m, y.ref m → used m = true) (hc : RC w G h y v) : RC w (gRen G x c) h' (y.ren x c) v := by
 cases y with
 | fn f caps =>
  obtain ⟨vs, h1, h2, h3⟩ := hc
  refine ⟨vs, h1, by simpa using h2, fun j y u hj hu => ?_⟩
  rw [List.getElem?_map] at hj
  cases hc : caps[j]? with
  | none => rw [hc] at hj; cases hj
  | some c0 =>
   rw [hc] at hj
   simp at hj
   subst hj
   exact ⟨(h3 j c0 u hc hu).1, (h3 j c0 u hc hu).2.ren L fun m hm => hr m ⟨c0, List.mem_of_getElem? hc, hm⟩⟩
 | ptr n k sz off => exact RC0.ren (w := w) (G := G) L (y := .ptr n k sz off) hr hc
 | sl n sz lo len => exact RC0.ren (w := w) (G := G) L (y := .sl n sz lo len) hr hc
 | nsl n k rsz off sz len => exact RC0.ren (w := w) (G := G) L (y := .nsl n k rsz off sz len) hr hc
 | nptr n k rsz off sz i => exact RC0.ren (w := w) (G := G) L (y := .nptr n k rsz off sz i) hr hc
 | c x => exact hc
 | nil sz => exact hc
 | dptr xs off => exact hc
 | junk => exact hc
theorem RCl.ren (L : Ren x c used h h') {cs : List ACell} {vs : List Value} (hr : ∀ y ∈ cs, ∀ m, y.ref m → used m = true) (hc : RCl w G h cs vs) : RCl w (gRen G x c) h' (cs.map (·.ren x c)) vs := by
 refine ⟨by simpa using hc.1, fun j y u hj hu => ?_⟩
 rw [List.getElem?_map] at hj
 cases hc0 : cs[j]? with
 | none => rw [hc0] at hj; cases hj
 | some c0 =>
  rw [hc0] at hj
  simp at hj
  subst hj
  exact ⟨(hc.2 j c0 u hc0 hu).1, (hc.2 j c0 u hc0 hu).2.ren L (hr c0 (List.mem_of_getElem? hc0))⟩
theorem RV.ren (L : Ren x c used h h') {ag : Bool} {cs : List ACell} {v : Value} (hr : ∀ y ∈ cs, ∀ m, y.ref m → used m = true) (hc : RV w G h ag cs v) : RV w (gRen G x c) h' ag (cs.map (·.ren x c)) v := by
 unfold RV at *
 split
 ·rename_i h1
  simp only [h1, if_true] at hc
  obtain ⟨vs, e, hv⟩ := hc
  exact ⟨vs, e, hv.ren L hr⟩
 ·rename_i h1
  simp only [h1] at hc
  exact RCl.ren L hr hc
theorem RA.ren (L : Ren x c used h h') {y : AVal} {v : Value} (hr : ∀ m, y.ref m → used m = true) (hc : RA w G h y v) : RA w (gRen G x c) h' (y.ren x c) v := by
 cases y with
 | one y =>
  rcases hc with rfl | hc
  ·exact Or.inl rfl
  ·exact Or.inr (RV.ren L (fun z hz m hm => hr m (by simp at hz; subst hz; exact hm)) hc)
 | agg cs => exact RV.ren L (fun z hz m hm => hr m ⟨z, hz, hm⟩) hc
 | tup xs =>
  obtain ⟨vs, e, hl, hv⟩ := hc
  refine ⟨vs, e, by simpa using hl, fun j y u hj hu => ?_⟩
  rw [List.getElem?_map] at hj
  cases hc0 : xs[j]? with
  | none => rw [hc0] at hj; cases hj
  | some c0 =>
   rw [hc0] at hj
   simp at hj
   subst hj
   exact RV.ren L (fun z hz m hm => hr m ⟨c0, List.mem_of_getElem? hc0, z, hz, hm⟩) (hv j c0 u hc0 hu)
def usedRen (used : Nat → Bool) (x c : Nat) : Nat → Bool := fun n => if n = c then used x else if n = x then false else used n
theorem ACell.ren0_ref (L : Ren x c used h h') {y : ACell} {m : Nat} (hr : ∀ m, y.ref0 m → used m = true) (hm : (y.ren0 x c).ref0 m) : usedRen used x c m = true := by
 have key : ∀ n, used n = true → m = rnm x c n → usedRen used x c m = true := by
  intro n hn e
  subst e
  have hc : n ≠ c := fun e => by subst e; rw [L.uc] at hn; cases hn
  unfold usedRen rnm
  by_cases h1 : n = x
  ·subst h1; simp [hn]
  ·simp [h1, hc, hn]
 cases y <;> first | exact absurd hm id | exact key _ (hr _ rfl) hm
theorem ACell.ren_ref (L : Ren x c used h h') {y : ACell} {m : Nat} (hr : ∀ m, y.ref m → used m = true) (hm : (y.ren x c).ref m) : usedRen used x c m = true := by
 cases y with
 | fn f caps =>
  obtain ⟨z, hz, hm⟩ := hm
  obtain ⟨z0, hz0, rfl⟩ := List.mem_map.1 hz
  exact ACell.ren0_ref L (fun m hm => hr m ⟨z0, hz0, hm⟩) hm
 | ptr n k sz off => exact ACell.ren0_ref L (y := .ptr n k sz off) hr hm
 | sl n sz lo len => exact ACell.ren0_ref L (y := .sl n sz lo len) hr hm
 | nsl n k rsz off sz len => exact ACell.ren0_ref L (y := .nsl n k rsz off sz len) hr hm
 | nptr n k rsz off sz i => exact ACell.ren0_ref L (y := .nptr n k rsz off sz i) hr hm
 | c x => exact absurd hm id
 | nil sz => exact absurd hm id
 | dptr xs off => exact absurd hm id
 | junk => exact absurd hm id
theorem AVal.ren_ref (L : Ren x c used h h') {y : AVal} {m : Nat} (hr : ∀ m, y.ref m → used m = true) (hm : (y.ren x c).ref m) : usedRen used x c m = true := by
 cases y with
 | one y => exact ACell.ren_ref L hr hm
 | agg cs =>
  obtain ⟨z, hz, hm⟩ := hm
  obtain ⟨z0, hz0, rfl⟩ := List.mem_map.1 hz
  exact ACell.ren_ref L (fun m hm => hr m ⟨z0, hz0, hm⟩) hm
 | tup xs =>
  obtain ⟨p, hp, z, hz, hm⟩ := hm
  obtain ⟨p0, hp0, rfl⟩ := List.mem_map.1 hp
  obtain ⟨z0, hz0, rfl⟩ := List.mem_map.1 hz
  exact ACell.ren_ref L (fun m hm => hr m ⟨p0, hp0, z0, hz0, hm⟩) hm
theorem HR.ren (H : HR B E w G h used []) (L : Ren x c used h h') : HR B E w (gRen G x c) h' (usedRen used x c) [] := by
 have nx : ∀ n, h' n ≠ none → n ≠ x := fun n hn e => by subst e; exact hn L.gone
 have hb : ∀ n, h' n ≠ none → h (back x c n) ≠ none := fun n hn => by
  have := L.b n (nx n hn)
  rw [this] at hn
  exact map_ne hn
 have hrow : ∀ {n gr m sz xs}, h' n = some (.row gr m sz xs) → h (back x c n) = some (.row gr m sz xs) := by
  intro n gr m sz xs hn
  have := L.b n (nx n (by rw [hn]; simp))
  rw [this] at hn
  exact map_row hn
 have hinj : ∀ n n', n ≠ x → n' ≠ x → n ≠ n' → back x c n ≠ back x c n' := by
  intro n n' h1 h2 h3
  unfold back
  by_cases e1 : n = c
  ·by_cases e2 : n' = c
   ·omega
   ·simp [e1, e2]; omega
  ·by_cases e2 : n' = c
   ·simp [e1, e2]; omega
   ·simp [e1, e2]; omega
 have huse : ∀ n, n ≠ x → used (back x c n) = true → usedRen used x c n = true := by
  intro n h1 h2
  unfold usedRen
  unfold back at h2
  by_cases e1 : n = c
  ·simp [e1] at h2 ⊢; exact h2
  ·simp [e1] at h2; simp [e1, h1, h2]
 refine ⟨fun n hn => huse n (nx n hn) (H.dom _ (hb n hn)), fun m cs y n hm hy hr => ?_, fun n cs hn => ?_, fun n gr m sz xs hn => ?_, fun n hn => H.own _ (hb n hn),
  fun n n' hn hn' hne => H.inj _ _ (hb n hn) (hb n' hn') (hinj n n' (nx n hn) (nx n' hn') hne), H.imlt, H.img, fun n n' gr m sz xs gr' m' sz' xs' hn hn' hm hm' hne => H.cross _ _ gr m sz xs gr' m' sz' xs' (hrow hn) (hrow hn') hm hm'
   (hinj n n' (nx n (by rw [hn]; simp)) (nx n' (by rw [hn']; simp)) hne), fun n gr sz xs hn b hb' n' hn' => H.live _ gr sz xs (hrow hn) b hb' _ (hb n' hn'), ?_, ?_, ?_⟩
 ·have hmx := nx m (by rw [hm]; simp)
  rw [L.b m hmx] at hm
  obtain ⟨cs0, h0, rfl⟩ := map_box hm
  obtain ⟨y0, hy0, rfl⟩ := List.mem_map.1 hy
  exact ACell.ren_ref L (fun q hq => H.wfh _ cs0 y0 q h0 hy0 hq) hr
 ·have hnx := nx n (by rw [hn]; simp)
  rw [L.b n hnx] at hn
  obtain ⟨cs0, h0, rfl⟩ := map_box hn
  obtain ⟨a1, a2, a3⟩ := H.box _ cs0 h0
  refine ⟨a1, a2, fun j y hj => ?_⟩
  rw [List.getElem?_map] at hj
  cases hc0 : cs0[j]? with
  | none => rw [hc0] at hj; cases hj
  | some y0 =>
   rw [hc0] at hj
   simp at hj
   subst hj
   obtain ⟨v, b1, b2, b3⟩ := a3 j y0 hc0
   exact ⟨v, b1, b2, b3.ren L fun q hq => H.wfh _ cs0 y0 q h0 (List.mem_of_getElem? hc0) hq⟩
 ·have hr := H.row _ gr m sz xs (hrow hn)
  refine ⟨hr.pos, hr.er, hr.nl, hr.lies, hr.room, ?_⟩
  have hm := hr.mode
  cases m <;> exact hm
 ·intro i pc hi; simp at hi
 ·intro i j pc pc' b _ hi; simp at hi
 ·intro i pc n gr m sz xs b hi; simp at hi
theorem R.ren (r : R B E w0 N σ a w G) (hx : σ.ren x c = some σ') : ∃ G', R B E w0 N σ' a w G' := by
 unfold St.ren at hx
 split at hx
 ·injection hx with hx; subst hx; exact ⟨G, r⟩
 ·rename_i hne
  split at hx
  ·injection hx with hx; subst hx; exact ⟨G, r⟩
  rename_i hxp
  split at hx
  ·cases hx
  ·rename_i hu
   injection hx with hx
   subst hx
   have hcp : ¬ PIN ≤ c := fun hc => by rw [r.pinu c hc] at hu; exact hu rfl
   have hxp' : ¬ PIN ≤ x := fun hc => hxp (Nat.ble_eq_true_of_le hc)
   have huc : σ.used c = false := by simpa using hu
   have L : Ren x c σ.used σ.h (fun n => if n = c then (σ.h x).map (·.ren x c) else if n = x then none else (σ.h n).map (·.ren x c)) := by
    refine ⟨hne, huc, by simp [hne], fun n hn => ?_⟩
    unfold back
    by_cases h1 : n = c
    ·simp [h1]
    ·simp [h1, hn]
   exact ⟨gRen G x c, r.defers, r.size, fun s => (r.env s).ren L (fun m hm => r.wfe s m hm), fun s n hn => AVal.ren_ref L (fun m hm => r.wfe s m hm) hn, r.hr.ren L, r.fr, fun n p b hp hb => by
    have hn := E.lt n p hp
    have hnc : n ≠ c := fun e => hcp (e ▸ hn)
    have hnx : n ≠ x := fun e => hxp' (e ▸ hn)
    have hb' : (if n = c then (σ.h x).map (·.ren x c) else if n = x then none else (σ.h n).map (·.ren x c)) = some b := hb
    rw [if_neg hnc, if_neg hnx] at hb'
    have hg : (gRen G x c).g n = G.g n := by simp [gRen, back, hnc]
    rw [hg]
    cases h1 : σ.h n with
    | none => rw [h1] at hb'; cases hb'
    | some b0 =>
     obtain ⟨p1, p2, p3, p4, p6, p5⟩ := r.pin n p b0 hp h1
     refine ⟨p1, p2, p3, p4, p6, fun gr sz xs hbr => ?_⟩
     rw [h1, hbr] at hb'
     cases b0 with
     | box cs => simp [Blk.ren] at hb'
     | row gr' m' sz' xs' =>
      simp only [Blk.ren, Option.map_some, Option.some.injEq, Blk.row.injEq] at hb'
      obtain ⟨_, rfl, _, _⟩ := hb'
      exact p5 gr' sz' xs' rfl, fun n hn => by
    have hnc : n ≠ c := fun e => hcp (e ▸ hn)
    have hnx : n ≠ x := fun e => hxp' (e ▸ hn)
    show (if n = c then σ.used x else if n = x then false else σ.used n) = true
    rw [if_neg hnc, if_neg hnx]
    exact r.pinu n hn⟩
theorem R.insNil (r : R B E w0 N σ a w G) {m : Mode} {sz : Nat} (hsz : 0 < sz) (hx : σ.ins c (.row true m sz []) = some σ') :
  ∃ G', R B E w0 N σ' a w G' ∧ RC w G' σ'.h (.sl c sz 0 0) (.slice none 0 0) := by
 obtain ⟨hn, rfl⟩ := ins_some hx
 have noF : ∀ b, ¬ RowF b ([] : List (List PC)) := by rintro b ⟨k, j, q, ⟨e, he, _⟩, _⟩; simp at he
 have hsep : RowSep ([] : List (List PC)) := ⟨by rintro k j q ⟨e, he, _⟩; simp at he, by rintro k j q k' j' q' b ⟨e, he, _⟩; simp at he⟩
 have H := r.hr.insert (w' := w) (n := c) (blk := .row true m sz []) (p := ⟨true, 0, 0, 0, [], none⟩) hn (fun _ _ => rfl) (Nat.le_refl _) (fun hf => by cases hf) (fun cs y q hb => by cases hb)
  (by
   refine ⟨hsz, rfl, fun _ => ⟨rfl, fun _ => rfl⟩, (fun hf => by cases hf), (fun hf => by cases hf), ?_⟩
   cases m with
   | bor => exact fun b hb => absurd hb (noF b)
   | froz => exact ⟨fun b hb => absurd hb (noF b), hsep⟩
   | live => exact ⟨fun b hb => absurd hb (noF b), hsep⟩)
  (fun gr m' sz' xs' hb hm n' gr' mo' sz2 xs2 h0 hmo b hbF => absurd hbF (noF b)) (fun gr sz' xs' hb b hbF => absurd hbF (noF b)) (fun gr m' sz' xs' hb hm i pc b hi => by simp at hi)
 refine ⟨_, r.step rfl (fun q hq => upd_used _ _ hq) (Keep.insert r.hr hn (fun _ _ => rfl)) H r.fr, fun _ => ?_⟩
 simp only [upd_same]
 exact Or.inl ⟨rfl, rfl, rfl, rfl⟩
end
end Go.Am