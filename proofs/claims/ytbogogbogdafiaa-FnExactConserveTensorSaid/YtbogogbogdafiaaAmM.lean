/- AmM: functions that change lists of their arguments: what is said of them, and the caller's side of a call. No condition. -/
import Derived.Test.YtbogogbogdafiaaAm16
set_option linter.unusedVariables false
namespace Go.Am
def fCells {α : Type} : List (Option Mode) → List α → List (Mode × α)
 | some m :: fs, x :: xs => (m, x) :: fCells fs xs
 | none :: fs, _ :: xs => fCells fs xs
 | _, _ => []
def uCells {α : Type} : List (Option Mode) → List α → List α
 | some _ :: fs, _ :: xs => uCells fs xs
 | none :: fs, x :: xs => x :: uCells fs xs
 | [], xs => xs
 | _, [] => []
def fArgs {α : Type} : MSig → List (List α) → List (Mode × α)
 | s :: sig, xs :: xss => fCells s xs ++ fArgs sig xss
 | _, _ => []
def uArgs {α : Type} : MSig → List (List α) → List α
 | s :: sig, xs :: xss => uCells s xs ++ uArgs sig xss
 | [], xss => xss.flatten
 | _, [] => []
theorem fCells_map {α β : Type} (f : α → β) : ∀ (s : List (Option Mode)) (xs : List α), fCells s (xs.map f) = (fCells s xs).map fun x => (x.1, f x.2)
 | some m :: fs, x :: xs => by simp only [List.map_cons, fCells, fCells_map f fs xs]
 | none :: fs, x :: xs => by simp only [List.map_cons, fCells, fCells_map f fs xs]
 | [], _ => by simp [fCells]
 | some m :: fs, [] => rfl
 | none :: fs, [] => rfl
theorem fArgs_map {α β : Type} (f : α → β) : ∀ (s : MSig) (xs : List (List α)), fArgs s (xs.map fun l => l.map f) = (fArgs s xs).map fun x => (x.1, f x.2)
 | s :: sig, xs :: xss => by simp only [List.map_cons, fArgs, List.map_append, fCells_map f s xs, fArgs_map f sig xss]
 | [], _ => by simp [fArgs]
 | s :: sig, [] => rfl
structure MOk (w : World) (m : Mode) (pc : PC) : Prop where
 sep : Sep pc
 un : ∀ b, InF b pc → Unf w b
 lies : ∃ sz a cap xs, pc = .list sz a cap xs ∧ 0 < sz ∧ (∀ b o, a = some (ad b o) → ¬ RowF b xs) ∧ flatOk m (xs.map fun e => e.map PC.er) = true
structure PA where
 k : K
 ps : List PC
 b : Nat
 o : Nat
def AOk (w : World) (d : Dv) (v : Value) (p : PA) : Prop :=
 d = (p.k, p.ps.map PC.er) ∧ (∀ pc ∈ p.ps, Good w pc) ∧
 match p.k with
 | .one => p.ps.map PC.val = [v]
 | .agg => v = .agg (p.ps.map PC.val).toArray
 | .ptr => v = .pointer (some (ad p.b p.o)) ∧ p.b < w.heap.size ∧ ∀ j c, p.ps[j]? = some c → w.cell? (ad p.b (p.o + j)) = some c.val
structure MArgs (w : World) (sig : MSig) (ds : List Dv) (vals : List Value) (pas : List PA) : Prop where
 l1 : vals.length = ds.length
 l2 : pas.length = ds.length
 at_ : ∀ (i : Nat) (d : Dv) (v : Value) (p : PA), ds[i]? = some d → vals[i]? = some v → pas[i]? = some p → AOk w d v p
 ok : ∀ x ∈ fArgs sig (pas.map (·.ps)), MOk w x.1 x.2
 dis : (fArgs sig (pas.map (·.ps))).Pairwise fun x y => ∀ b, InF b x.2 → ¬ InF b y.2
 free : ∀ pc ∈ uArgs sig (pas.map (·.ps)), ∀ x ∈ fArgs sig (pas.map (·.ps)), ∀ b, InF b pc → ¬ InF b x.2
 ptr : ∀ p ∈ pas, p.k = .ptr → ∀ x ∈ fArgs sig (pas.map (·.ps)), ¬ InF p.b x.2
 noptr : ∀ (i : Nat) (p : PA) (s : List (Option Mode)), pas[i]? = some p → sig[i]? = some s → p.k = .ptr → s = []
def exF (fl : List (Mode × PC)) : Ex := ⟨fun b => ∃ x ∈ fl, InF b x.2, fun _ => none, fun _ _ h => (by cases h), fun _ => True⟩
structure MAfter (w : World) (m : Mode) (pc pc' : PC) : Prop where
 val : pc'.val = pc.val
 good : Good w pc'
 sep : Sep pc'
 sub : ∀ b, InF b pc' → InF b pc
 flat : flatOk m (match pc'.er with | .list _ xs => xs | _ => []) = true
 live : ∀ sz a cap xs sz' a' cap' xs', pc = .list sz a cap xs → pc' = .list sz' a' cap' xs' → sz' = sz ∧ a' = a ∧ cap' = cap ∧ xs'.length = xs.length ∧
  (m = .live → ∀ k j c, At xs k j c → c.isL = true → ∃ c', At xs' k j c' ∧ c'.val = c.val ∧ c'.isL = true)
def MutSpec (P : Program) (f : FuncId) (sig : MSig) (M : List Dv → Option (List Dv × List C)) : Prop :=
 ∀ ds rs outs, M ds = some (rs, outs) → ∀ (w : World) (vals : List Value) (pas : List PA), MArgs w sig ds vals pas → Calls P f vals.toArray w fun e w' =>
  ∃ prs : List (K × List PC), prs.map (fun p => (p.1, p.2.map PC.er)) = rs ∧ e = .returned (retVal prs) ∧ (∀ p ∈ prs, p.1 ≠ .ptr ∧ (p.1 = .one → p.2.length = 1)) ∧
   RetAll w' w.heap.size (prs.flatMap (·.2)) ∧ Fr w.heap.size (exF (fArgs sig (pas.map (·.ps)))) w w' ∧
   ∃ qs : List PC, qs.map PC.er = outs ∧ qs.length = (fArgs sig (pas.map (·.ps))).length ∧
    ∀ (i : Nat) (x : Mode × PC) (q : PC), (fArgs sig (pas.map (·.ps)))[i]? = some x → qs[i]? = some q → MAfter w' x.1 x.2 q
section
variable {B : Nat} {E : Ex} {w0 w w' : World} {G G' : Gh} {N : Nat} {h h' : Nat → Option Blk} {used : Nat → Bool}
variable {P : Program} {o : Oper} {a : Act} {σ σ' : St} {Q : Exit → Act → World → Prop}
def rowPC (sz : Nat) (p : PB) : PC := .list sz (if p.nl = true then p.na else some (ad p.b p.o)) p.cap p.px
theorem rowPC_er {gr : Bool} {m : Mode} {sz : Nat} {xs : List (List C)} {p : PB} (hr : RowOk B E w G gr m sz xs p) : (rowPC sz p).er = .list sz xs := by
 rw [rowPC, PC.er_list, hr.er]
theorem rowPC_val {gr : Bool} {m : Mode} {sz : Nat} {xs : List (List C)} {p : PB} (hr : RowOk B E w G gr m sz xs p) {v : Value} (hv : SlOk p sz 0 xs.length v) : (rowPC sz p).val = v := by
 have hpx : p.px.length = xs.length := by rw [hr.er]; simp
 rcases hv with ⟨hn, rfl, _, hl⟩ | ⟨hn, a, rfl, hc, ha⟩
 ·simp [rowPC, PC.val, hn, hpx, hl]
 ·have := ha (.inr rfl)
  subst this
  simp [rowPC, PC.val, hn, hpx]
theorem rowPC_good {gr : Bool} {m : Mode} {sz : Nat} {xs : List (List C)} {p : PB} (hr : RowOk B E w G gr m sz xs p) : Good w (rowPC sz p) := by
 unfold rowPC
 by_cases h0 : p.px = []
 ·rw [h0]; exact .nil _ _ _ hr.pos
 ·have hnl : p.nl = false := by
   cases hq : p.nl with
   | false => rfl
   | true => exact absurd (hr.nl hq).1 h0
  obtain ⟨a1, a2, a3⟩ := hr.lies hnl
  rw [if_neg (by simp [hnl])]
  exact .cons _ _ _ _ _ h0 a3 hr.pos a2.1 a2.2.1 a2.2.2
theorem rowPC_InF {sz : Nat} {p : PB} {b : Nat} (hn : p.nl = true → p.px = []) (h : InF b (rowPC sz p)) : (p.nl = false ∧ b = p.b) ∨ RowF b p.px := by
 unfold rowPC at h
 rw [InF.list_iff] at h
 rcases h with ⟨h0, o, ho⟩ | ⟨k, j, c, hk, hb⟩
 ·cases hq : p.nl with
  | true => exact absurd (hn hq) h0
  | false =>
   rw [hq] at ho
   simp at ho
   exact .inl ⟨rfl, (ad_inj ho).1.symm⟩
 ·exact .inr ⟨k, j, c, hk, hb⟩
def ftN (G : Gh) (n b : Nat) : Prop := ((G.g n).nl = false ∧ b = (G.g n).b) ∨ RowF b (G.g n).px
structure ItOk (B : Nat) (E : Ex) (w : World) (G : Gh) (h : Nat → Option Blk) (it : MIt) (md : Mode) (pc : PC) : Prop where
 ok : MOk w md pc
 good : Good w pc
 at_ : match it with
  | .nil sz => pc = .list sz none 0 []
  | .row n => ∃ gr m sz xs, h n = some (.row gr m sz xs) ∧ m ≠ .bor ∧ (md = .live → m = .live) ∧ pc = rowPC sz (G.g n) ∧ flatOk md xs = true
  | .nest n k off => ∃ gr sz xs, h n = some (.row gr .live sz xs) ∧ md = .froz ∧ At (G.g n).px k off pc
theorem ItOk.foot {it : MIt} {md : Mode} {pc : PC} (H : HR B E w G h used []) (i : ItOk B E w G h it md pc) {b : Nat} (hb : InF b pc) :
  ∃ n gr m sz xs, it.name? = some n ∧ h n = some (.row gr m sz xs) ∧ m ≠ .bor ∧ ftN G n b ∧ ((∀ b, ¬ RowF b (G.g n).px) ∨ m = .live) := by
 have ha := i.at_
 cases it with
 | nil sz =>
  have ha : pc = .list sz none 0 [] := ha
  subst ha
  rw [InF.list_iff] at hb
  rcases hb with ⟨hb, _⟩ | ⟨k, j, c, ⟨e, he, _⟩, _⟩
  ·exact absurd rfl hb
  ·simp at he
 | row n =>
  obtain ⟨gr, m, sz, xs, h1, h2, h3, rfl, h5⟩ := ha
  have hr := H.row n gr m sz xs h1
  refine ⟨n, gr, m, sz, xs, rfl, h1, h2, rowPC_InF (fun hq => (hr.nl hq).1) hb, ?_⟩
  cases md with
  | live => exact .inr (h3 rfl)
  | bor => cases h5
  | froz =>
   left
   intro b' hb'
   have h5' : scalLL xs = true := h5
   rw [hr.er] at h5'
   obtain ⟨k, j, c, ⟨e, he, hj⟩, hc⟩ := hb'
   have h6 := List.all_eq_true.1 h5' (e.map PC.er) (by simp only [List.mem_map]; exact ⟨e, List.mem_of_getElem? he, rfl⟩)
   have h7 := List.all_eq_true.1 h6 c.er (by simp only [List.mem_map]; exact ⟨c, List.mem_of_getElem? hj, rfl⟩)
   exact (Sep.of_scal h7).2 b' hc
 | nest n k off =>
  obtain ⟨gr, sz, xs, h1, h2, h3⟩ := ha
  exact ⟨n, gr, .live, sz, xs, rfl, h1, by simp, .inr ⟨k, off, pc, h3, hb⟩, .inr rfl⟩
theorem HR.ft_dis (H : HR B E w G h used []) {n n' : Nat} (hne : n ≠ n') {gr gr' : Bool} {m m' : Mode} {sz sz' : Nat} {xs xs' : List (List C)} (h1 : h n = some (.row gr m sz xs)) (h2 : h n' = some (.row gr' m' sz' xs'))
  (hm' : (∀ b, ¬ RowF b (G.g n').px) ∨ m' = .live) {b : Nat} (hb : ftN G n b) : ¬ ftN G n' b := by
 have e1 : h n ≠ none := by rw [h1]; simp
 have e2 : h n' ≠ none := by rw [h2]; simp
 have own : ∀ {p q : Nat} {gr : Bool} {m : Mode} {sz : Nat} {xs : List (List C)}, h p ≠ none → h q = some (.row gr m sz xs) → (G.g p).nl = false → ¬ RowF (G.g p).b (G.g q).px := by
  intro p q gr m sz xs hp hq hl hF
  have hmode := (H.row q gr m sz xs hq).mode
  cases m with
  | bor => exact (H.own p hp hl).1 (hmode _ hF)
  | froz => exact (H.own p hp hl).1 (hmode.1 _ hF).1
  | live => exact H.live q gr sz xs hq _ hF p hp hl rfl
 rintro (⟨l2, rfl⟩ | b2)
 ·rcases hb with ⟨l1, b1⟩ | b1
  ·exact H.inj n n' e1 e2 hne l1 l2 b1.symm
  ·exact own e2 h1 l2 b1
 ·rcases hb with ⟨l1, rfl⟩ | b1
  ·exact own e1 h2 l1 b2
  ·rcases hm' with hm' | rfl
   ·exact hm' b b2
   ·have q2 := (H.row n' gr' .live sz' xs' h2).mode
    have q1 := (H.row n gr m sz xs h1).mode
    cases m with
    | bor => exact (q2.1 b b2).1 (q1 b b1)
    | froz => exact (q2.1 b b2).1 (q1.1 b b1).1
    | live => exact H.cross n n' gr .live sz xs gr' .live sz' xs' h1 h2 (by simp) (by simp) hne b b1 b2
theorem HR.item (H : HR B E w G h used []) {md : Mode} {c : ACell} {it : MIt} {x : C} {v : Value} (hx : mitem h md c = some (it, x)) (hc : RC w G h c v) :
  ∃ pc : PC, pc.er = x ∧ pc.val = v ∧ ItOk B E w G h it md pc ∧ it.name? = c.name? := by
 unfold mitem at hx
 split at hx
 ·rename_i sz
  split at hx
  ·rename_i hpos
   injection hx with hx
   injection hx with h1 h2
   subst h1 h2
   have hc' : v = .slice none 0 0 := hc
   subst hc'
   refine ⟨.list sz none 0 [], by simp [PC.er_list], rfl, ⟨⟨?_, ?_, sz, none, 0, [], rfl, hpos.1, (fun b o h => by cases h), ?_⟩, .nil _ _ _ hpos.1, rfl⟩, rfl⟩
   ·refine .list _ _ _ _ ?_ ?_ ?_
    ·rintro k j c ⟨e, he, _⟩; simp at he
    ·rintro b o k j c _ ⟨e, he, _⟩; simp at he
    ·rintro k j c k' j' c' b ⟨e, he, _⟩; simp at he
   ·intro b hb
    rw [InF.list_iff] at hb
    rcases hb with ⟨hb, _⟩ | ⟨k, j, c, ⟨e, he, _⟩, _⟩
    ·exact absurd rfl hb
    ·simp at he
   ·cases md with
    | bor => exact absurd rfl hpos.2
    | froz => rfl
    | live => rfl
  ·cases hx
 ·rename_i n sz lo len
  split at hx
  ·rename_i gr m rs xs hn
   split at hx
   ·rename_i hcond
    obtain ⟨hm, hlv, rfl, rfl, rfl, hfl⟩ := hcond
    injection hx with hx
    injection hx with h1 h2
    subst h1 h2
    have hn0 : h n ≠ none := by rw [hn]; simp
    have hs : SlOk (G.g n) rs 0 xs.length v := hc hn0
    have hr := H.row n gr m rs xs hn
    have hown : (∀ b, RowF b (G.g n).px → Unf w b) ∧ RowSep (G.g n).px ∧ (∀ b, RowF b (G.g n).px → (G.g n).nl = false → b ≠ (G.g n).b) := by
     have hmm := hr.mode
     cases m with
     | bor => exact absurd rfl hm
     | froz => exact ⟨fun b hb => (hmm.1 b hb).2.1, hmm.2, fun b hb hl heq => (H.own n hn0 hl).1 (heq ▸ (hmm.1 b hb).1)⟩
     | live => exact ⟨fun b hb => (hmm.1 b hb).2.1, hmm.2, fun b hb hl => H.live n gr rs xs hn b hb n hn0 hl⟩
    obtain ⟨o1, o2, o3⟩ := hown
    have htop : ∀ b o, (if (G.g n).nl = true then (G.g n).na else some (ad (G.g n).b (G.g n).o)) = some (ad b o) → ¬ RowF b (G.g n).px := by
     intro b o hab hF
     cases hq : (G.g n).nl with
     | true => rw [(hr.nl hq).1] at hF; obtain ⟨k, j, c, ⟨e, he, _⟩, _⟩ := hF; simp at he
     | false =>
      rw [hq] at hab
      simp at hab
      exact o3 b hF hq (ad_inj hab).1.symm
    refine ⟨rowPC rs (G.g n), rowPC_er hr, rowPC_val hr hs, ⟨⟨.list _ _ _ _ o2.1 (fun b o k j c hab hk hb => htop b o hab ⟨k, j, c, hk, hb⟩) o2.2, fun b hb => ?_, rs, _, _, _, rfl, hr.pos, htop, by rw [← hr.er]; exact hfl⟩, rowPC_good hr,
     gr, m, rs, xs, hn, hm, hlv, rfl, hfl⟩, rfl⟩
    rcases rowPC_InF (fun hq => (hr.nl hq).1) hb with ⟨hl, rfl⟩ | hF
    ·exact (hr.lies hl).1
    ·exact o1 b hF
   ·cases hx
  ·cases hx
 ·rename_i n k rsz off sz len
  split at hx
  ·rename_i gr rs xs hn
   split at hx
   ·rename_i hcond
    obtain ⟨rfl, rfl⟩ := hcond
    split at hx
    ·rename_i s ys hys
     split at hx
     ·rename_i hfl
      injection hx with hx
      injection hx with h1 h2
      subst h1 h2
      obtain ⟨pc, p1, p2, p3⟩ := hc gr xs hn
      have hr := H.row n gr .live rs xs hn
      have hnl : (G.g n).nl = false := by
       cases hq : (G.g n).nl with
       | false => rfl
       | true => obtain ⟨e, he, _⟩ := p1; rw [(hr.nl hq).1] at he; simp at he
      have hgood : Good w pc := (hr.lies hnl).2.1.2.2 _ _ _ p1
      have her : pc.er = .list s ys := by
       obtain ⟨e, he, hj⟩ := p1
       rw [hr.er] at hys
       simp [he, hj] at hys
       exact hys
      have hsep := hr.mode.2.1 _ _ _ p1
      cases pc with
      | int k n => cases p3
      | bool b => cases p3
      | list s' a' cap' px' =>
       rw [PC.er_list] at her
       injection her with g1 g2
       subst g1
       have hscal : scalLL (px'.map fun e => e.map PC.er) = true := by rw [g2]; exact hfl
       refine ⟨_, by rw [PC.er_list, g2], p2, ⟨⟨hsep, fun b hb => (hr.mode.1 b ⟨k, off, _, p1, hb⟩).2.1, s', a', cap', px', rfl, ?_, fun b o _ hF => ?_, hscal⟩, hgood, gr, rs, xs, hn, rfl, p1⟩, rfl⟩
       ·cases hgood with
        | nil _ _ _ h => exact h
        | cons _ _ _ _ _ _ _ h => exact h
       ·obtain ⟨kk, jj, c, ⟨e, he, hj⟩, hc⟩ := hF
        have h6 := List.all_eq_true.1 hscal (e.map PC.er) (by simp only [List.mem_map]; exact ⟨e, List.mem_of_getElem? he, rfl⟩)
        have h7 := List.all_eq_true.1 h6 c.er (by simp only [List.mem_map]; exact ⟨c, List.mem_of_getElem? hj, rfl⟩)
        exact (Sep.of_scal h7).2 b hc
     ·cases hx
    ·cases hx
   ·cases hx
  ·cases hx
 ·cases hx
theorem HR.viewC_ft (H : HR B E w G h used []) {c : ACell} {x : C} {v : Value} (hx : Am.viewC h c = some x) (hc : RC w G h c v) :
  ∃ pc : PC, pc.er = x ∧ pc.val = v ∧ Good w pc ∧ ∀ b, InF b pc → G.Im b ∨ ∃ n gr m sz xs, c.name? = some n ∧ h n = some (.row gr m sz xs) ∧ ftN G n b := by
 cases c with
 | c y =>
  simp only [Am.viewC] at hx
  injection hx with hx
  subst hx
  obtain ⟨pc, h1, h2, h3, h4⟩ := hc
  exact ⟨pc, h1, h2, h3, fun b hb => .inl (h4 b hb)⟩
 | nil sz =>
  simp only [Am.viewC] at hx
  split at hx
  ·rename_i hpos
   injection hx with hx
   subst hx
   have hc' : v = .slice none 0 0 := hc
   subst hc'
   refine ⟨.list sz none 0 [], by simp [PC.er_list], rfl, .nil _ _ _ hpos, fun b hb => ?_⟩
   rw [InF.list_iff] at hb
   rcases hb with ⟨hb, _⟩ | ⟨k, j, c, ⟨e, he, _⟩, _⟩
   ·exact absurd rfl hb
   ·simp at he
  ·cases hx
 | sl n sz lo len =>
  simp only [Am.viewC] at hx
  split at hx
  ·rename_i gr m rs xs hn
   split at hx
   ·rename_i hcond
    obtain ⟨rfl, hl⟩ := hcond
    injection hx with hx
    subst hx
    have hs : SlOk (G.g n) rs lo len v := hc (by rw [hn]; simp)
    obtain ⟨a1, a2, a3, a4⟩ := slPC_ok (H.row n gr m rs xs hn) hs hl
    exact ⟨_, a1, a2, a3, fun b hb => .inr ⟨n, gr, m, rs, xs, rfl, hn, a4 b hb⟩⟩
   ·cases hx
  ·cases hx
 | nsl n k rsz off sz len =>
  simp only [Am.viewC] at hx
  split at hx
  ·rename_i gr rs xs hn
   split at hx
   ·rename_i hcond
    subst hcond
    obtain ⟨pc, p1, p2, p3⟩ := hc gr xs hn
    have hr := H.row n gr .live rs xs hn
    have hnl : (G.g n).nl = false := by
     cases hq : (G.g n).nl with
     | false => rfl
     | true => obtain ⟨e, he, _⟩ := p1; rw [(hr.nl hq).1] at he; simp at he
    refine ⟨pc, ?_, p2, (hr.lies hnl).2.1.2.2 _ _ _ p1, fun b hb => .inr ⟨n, gr, .live, rs, xs, rfl, hn, .inr ⟨k, off, pc, p1, hb⟩⟩⟩
    obtain ⟨e, he, hj⟩ := p1
    rw [hr.er] at hx
    simp [he, hj] at hx
    exact hx
   ·cases hx
  ·cases hx
 | ptr _ _ _ _ => simp [Am.viewC] at hx
 | dptr _ _ => simp [Am.viewC] at hx
 | fn _ _ => simp [Am.viewC] at hx
 | nptr _ _ _ _ _ _ => simp [Am.viewC] at hx
 | junk => simp [Am.viewC] at hx
theorem hwo_some {ns : List Nat} {n : Nat} {b : Blk} (hx : hwo h ns n = some b) : h n = some b ∧ n ∉ ns := by
 unfold hwo at hx
 split at hx
 ·cases hx
 ·rename_i hc
  exact ⟨hx, fun hm => hc (by simpa using hm)⟩
theorem viewC_hwo {ns : List Nat} {c : ACell} {x : C} (hx : viewC (hwo h ns) c = some x) : viewC h c = some x ∧ ∀ n, c.name? = some n → n ∉ ns := by
 cases c with
 | c y => exact ⟨hx, by intro n hn; cases hn⟩
 | nil sz => exact ⟨hx, by intro n hn; cases hn⟩
 | sl n sz lo len =>
  simp only [Am.viewC] at hx
  split at hx
  ·rename_i gr m rs xs hn
   obtain ⟨h1, h2⟩ := hwo_some hn
   exact ⟨by simp only [Am.viewC, h1]; exact hx, by intro q hq; injection hq with hq; subst hq; exact h2⟩
  ·cases hx
 | nsl n k rsz off sz len =>
  simp only [Am.viewC] at hx
  split at hx
  ·rename_i gr rs xs hn
   obtain ⟨h1, h2⟩ := hwo_some hn
   exact ⟨by simp only [Am.viewC, h1]; exact hx, by intro q hq; injection hq with hq; subst hq; exact h2⟩
  ·cases hx
 | ptr _ _ _ _ => simp [Am.viewC] at hx
 | dptr _ _ => simp [Am.viewC] at hx
 | fn _ _ => simp [Am.viewC] at hx
 | nptr _ _ _ _ _ _ => simp [Am.viewC] at hx
 | junk => simp [Am.viewC] at hx
def Apart (G : Gh) (h : Nat → Option Blk) (ns : List Nat) (pc : PC) : Prop :=
 ∀ b, InF b pc → G.Im b ∨ ∃ n gr m sz xs, n ∉ ns ∧ h n = some (.row gr m sz xs) ∧ ftN G n b
structure Its (B : Nat) (E : Ex) (w : World) (G : Gh) (h : Nat → Option Blk) (its : List (MIt × Mode)) (fl : List (Mode × PC)) : Prop where
 len : its.length = fl.length
 at_ : ∀ (i : Nat) (it : MIt × Mode) (x : Mode × PC), its[i]? = some it → fl[i]? = some x → it.2 = x.1 ∧ ItOk B E w G h it.1 x.1 x.2
theorem Its.nil : Its B E w G h [] [] := ⟨rfl, by intro i it x h; simp at h⟩
theorem Its.cons {it : MIt × Mode} {its : List (MIt × Mode)} {x : Mode × PC} {fl : List (Mode × PC)} (h1 : it.2 = x.1) (h2 : ItOk B E w G h it.1 x.1 x.2) (h3 : Its B E w G h its fl) : Its B E w G h (it :: its) (x :: fl) := by
 refine ⟨by simp [h3.len], fun i it' x' hi hx => ?_⟩
 cases i with
 | zero => simp at hi hx; subst hi; subst hx; exact ⟨h1, h2⟩
 | succ i => exact h3.at_ i it' x' (by simpa using hi) (by simpa using hx)
theorem Its.append {its its' : List (MIt × Mode)} {fl fl' : List (Mode × PC)} (h1 : Its B E w G h its fl) (h2 : Its B E w G h its' fl') : Its B E w G h (its ++ its') (fl ++ fl') := by
 refine ⟨by simp [h1.len, h2.len], fun i it x hi hx => ?_⟩
 by_cases hlt : i < its.length
 ·rw [List.getElem?_append_left hlt] at hi
  rw [List.getElem?_append_left (by rw [← h1.len]; exact hlt)] at hx
  exact h1.at_ i it x hi hx
 ·rw [List.getElem?_append_right (by omega)] at hi
  rw [List.getElem?_append_right (by rw [← h1.len]; omega)] at hx
  rw [h1.len] at hi
  exact h2.at_ _ it x hi hx
theorem HR.mcells (H : HR B E w G h used []) {ns : List Nat} : ∀ {fs : List (Option Mode)} {cs : List ACell} {xs : List C} {its : List (MIt × Mode)} {vs : List Value}, Am.mcells h (hwo h ns) fs cs = some (xs, its) → RCl w G h cs vs →
  ∃ ps : List PC, ps.map PC.er = xs ∧ ps.map PC.val = vs ∧ (∀ pc ∈ ps, Good w pc) ∧ Its B E w G h its (fCells fs ps) ∧ its.filterMap (·.1.name?) = mnames fs cs ∧ ∀ pc ∈ uCells fs ps, Apart G h ns pc
 | [], cs, xs, its, vs, hx, hc => by
  simp only [Am.mcells] at hx
  split at hx
  ·rename_i ys hy
   injection hx with hx
   injection hx with h1 h2
   subst h1 h2
   have key : ∀ (cs : List ACell) (xs : List C) (vs : List Value), Am.viewL (hwo h ns) cs = some xs → RCl w G h cs vs → ∃ ps : List PC, ps.map PC.er = xs ∧ ps.map PC.val = vs ∧ (∀ pc ∈ ps, Good w pc) ∧ ∀ pc ∈ ps, Apart G h ns pc := by
    intro cs
    induction cs with
    | nil =>
     intro xs vs hx hc
     simp only [Am.viewL] at hx
     injection hx with hx
     subst hx
     have : vs = [] := List.eq_nil_of_length_eq_zero (by simpa using hc.1)
     subst this
     exact ⟨[], rfl, rfl, by simp, by simp⟩
    | cons c cs ih =>
     intro xs vs hx hc
     simp only [Am.viewL] at hx
     split at hx
     ·rename_i x xs' e1 e2
      injection hx with hx
      subst hx
      obtain ⟨hlen, hat⟩ := hc
      match vs, hlen with
      | v :: vs, hlen =>
       obtain ⟨v1, v2⟩ := viewC_hwo e1
       obtain ⟨pc, a1, a2, a3, a4⟩ := H.viewC_ft v1 (hat 0 c v rfl rfl).2
       obtain ⟨ps, b1, b2, b3, b4⟩ := ih xs' vs e2 ⟨by simpa using hlen, fun j c u h1 h2 => hat (j + 1) c u h1 h2⟩
       refine ⟨pc :: ps, by simp [a1, b1], by simp [a2, b2], fun q hq => ?_, fun q hq => ?_⟩
       ·cases hq with
        | head => exact a3
        | tail _ hq => exact b3 q hq
       ·cases hq with
        | head => exact fun b hb => (a4 b hb).imp id fun ⟨n, gr, m, sz, xs, hn, h1, h2⟩ => ⟨n, gr, m, sz, xs, v2 n hn, h1, h2⟩
        | tail _ hq => exact b4 q hq
     ·cases hx
   obtain ⟨ps, b1, b2, b3, b4⟩ := key cs ys vs hy hc
   exact ⟨ps, b1, b2, b3, by simpa [fCells] using Its.nil, by simp [mnames], by simpa [uCells] using b4⟩
  ·cases hx
 | f :: fs, [], xs, its, vs, hx, hc => by cases f <;> simp [Am.mcells] at hx
 | none :: fs, c :: cs, xs, its, vs, hx, hc => by
  simp only [Am.mcells] at hx
  split at hx
  ·rename_i x xs' its' e1 e2
   injection hx with hx
   injection hx with h1 h2
   subst h1 h2
   obtain ⟨hlen, hat⟩ := hc
   match vs, hlen with
   | v :: vs, hlen =>
    obtain ⟨v1, v2⟩ := viewC_hwo e1
    obtain ⟨pc, a1, a2, a3, a4⟩ := H.viewC_ft v1 (hat 0 c v rfl rfl).2
    obtain ⟨ps, b1, b2, b3, b4, b5, b6⟩ := H.mcells e2 (vs := vs) ⟨by simpa using hlen, fun j c u h1 h2 => hat (j + 1) c u h1 h2⟩
    refine ⟨pc :: ps, by simp [a1, b1], by simp [a2, b2], fun q hq => ?_, by simpa [fCells] using b4, by simpa [mnames] using b5, fun q hq => ?_⟩
    ·cases hq with
     | head => exact a3
     | tail _ hq => exact b3 q hq
    ·simp only [uCells] at hq
     cases hq with
     | head => exact fun b hb => (a4 b hb).imp id fun ⟨n, gr, m, sz, xs, hn, h1, h2⟩ => ⟨n, gr, m, sz, xs, v2 n hn, h1, h2⟩
     | tail _ hq => exact b6 q hq
  ·cases hx
 | some md :: fs, c :: cs, xs, its, vs, hx, hc => by
  simp only [Am.mcells] at hx
  split at hx
  ·rename_i it x xs' its' e1 e2
   injection hx with hx
   injection hx with h1 h2
   subst h1 h2
   obtain ⟨hlen, hat⟩ := hc
   match vs, hlen with
   | v :: vs, hlen =>
    obtain ⟨pc, a1, a2, a3, a4⟩ := H.item e1 (hat 0 c v rfl rfl).2
    obtain ⟨ps, b1, b2, b3, b4, b5, b6⟩ := H.mcells e2 (vs := vs) ⟨by simpa using hlen, fun j c u h1 h2 => hat (j + 1) c u h1 h2⟩
    refine ⟨pc :: ps, by simp [a1, b1], by simp [a2, b2], fun q hq => ?_, ?_, ?_, fun q hq => b6 q (by simpa [uCells] using hq)⟩
    ·cases hq with
     | head => exact a3.good
     | tail _ hq => exact b3 q hq
    ·simp only [fCells]
     exact Its.cons rfl a3 b4
    ·simp only [mnames, ← a4, ← b5]
     cases hname : it.name? with
     | none => simp [hname]
     | some n => simp [hname]
  ·cases hx
theorem HR.mviews (H : HR B E w G h used []) {ns : List Nat} : ∀ {as : List (Bool × List ACell)} {sig : MSig} {ds : List Dv} {its : List (MIt × Mode)} {vals : List Value}, Am.mviews h (hwo h ns) sig as = some (ds, its) → vals.length = as.length →
  (∀ (j : Nat) (x : Bool × List ACell) (v : Value), as[j]? = some x → vals[j]? = some v → RV w G h x.1 x.2 v) →
  ∃ pas : List PA, pas.length = ds.length ∧ vals.length = ds.length ∧ (∀ (i : Nat) (d : Dv) (v : Value) (p : PA), ds[i]? = some d → vals[i]? = some v → pas[i]? = some p → AOk w d v p) ∧ (∀ p ∈ pas, p.k ≠ .ptr) ∧
   Its B E w G h its (fArgs sig (pas.map (·.ps))) ∧ its.filterMap (·.1.name?) = mnamesA sig as ∧ ∀ pc ∈ uArgs sig (pas.map (·.ps)), Apart G h ns pc
 | [], sig, ds, its, vals, hx, hl, hc => by
  simp only [Am.mviews] at hx
  injection hx with hx
  injection hx with h1 h2
  subst h1 h2
  refine ⟨[], rfl, by simpa using hl, by simp, by simp, ?_, ?_, ?_⟩
  ·cases sig <;> exact Its.nil
  ·cases sig <;> rfl
  ·cases sig <;> simp [uArgs]
 | (ag, cs) :: as, sig, ds, its, vals, hx, hl, hc => by
  simp only [Am.mviews] at hx
  split at hx
  ·rename_i xs its1 ds' its2 e1 e2
   injection hx with hx
   injection hx with h1 h2
   subst h1 h2
   match vals, hl with
   | v :: vals, hl =>
    have h0 := hc 0 (ag, cs) v rfl rfl
    obtain ⟨q1, q2, q3, q4, q5, q6, q7⟩ := H.mviews e2 (as := as) (vals := vals) (by simpa using hl) (fun j x v h1 h2 => hc (j + 1) x v h1 h2)
    obtain ⟨vs, hvs, hR⟩ : ∃ vs : List Value, (if ag = true then v = .agg vs.toArray else vs = [v]) ∧ RCl w G h cs vs := by
     unfold RV at h0
     split at h0
     ·rename_i hag
      obtain ⟨vs, e, hR⟩ := h0
      exact ⟨vs, by rw [if_pos hag]; exact e, hR⟩
     ·rename_i hag
      exact ⟨[v], by rw [if_neg hag], h0⟩
    obtain ⟨ps, p1, p2, p3, p4, p5, p6⟩ := H.mcells e1 hR
    refine ⟨⟨if ag = true then .agg else .one, ps, 0, 0⟩ :: q1, by simp [q2], by simp [q3], fun i d v' p hd hv hp => ?_, fun p hp => ?_, ?_, ?_, ?_⟩
    ·cases i with
     | zero =>
      simp at hd hv hp
      subst hd hv hp
      cases ag with
      | true =>
       simp only [if_true] at hvs ⊢
       exact ⟨by rw [p1], p3, by simp only [p2]; exact hvs⟩
      | false =>
       simp only [if_false, Bool.false_eq_true] at hvs ⊢
       exact ⟨by rw [p1], p3, by simp only [p2]; exact hvs⟩
     | succ i => exact q4 i d v' p (by simpa using hd) (by simpa using hv) (by simpa using hp)
    ·cases hp with
     | head => cases ag <;> simp
     | tail _ hp => exact q5 p hp
    ·cases sig with
     | nil =>
      have e3 : fCells (MSig.hd ([] : MSig)) ps = [] := rfl
      rw [e3] at p4
      have e4 : its1 = [] := List.eq_nil_of_length_eq_zero p4.len
      subst e4
      have e5 : fArgs (MSig.tl ([] : MSig)) (q1.map (·.ps)) = [] := rfl
      rw [e5] at q6
      have e6 : its2 = [] := List.eq_nil_of_length_eq_zero q6.len
      subst e6
      exact Its.nil
     | cons s sig => exact Its.append p4 q6
    ·cases sig with
     | nil =>
      have e3 : fCells (MSig.hd ([] : MSig)) ps = [] := rfl
      rw [e3] at p4
      have e4 : its1 = [] := List.eq_nil_of_length_eq_zero p4.len
      subst e4
      have e5 : fArgs (MSig.tl ([] : MSig)) (q1.map (·.ps)) = [] := rfl
      rw [e5] at q6
      have e6 : its2 = [] := List.eq_nil_of_length_eq_zero q6.len
      subst e6
      rfl
     | cons s sig =>
      rw [List.filterMap_append, p5, q7.1]
      rfl
    ·intro pc hpc
     cases sig with
     | nil =>
      simp only [List.map_cons, uArgs, List.flatten_cons, List.mem_append] at hpc
      rcases hpc with hpc | hpc
      ·exact p6 pc hpc
      ·exact q7.2 pc (by simpa [uArgs, MSig.tl] using hpc)
     | cons s sig =>
      simp only [List.map_cons, uArgs, List.mem_append] at hpc
      rcases hpc with hpc | hpc
      ·exact p6 pc hpc
      ·exact q7.2 pc hpc
  ·cases hx
end
end Go.Am