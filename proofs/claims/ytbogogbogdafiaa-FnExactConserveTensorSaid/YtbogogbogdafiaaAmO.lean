/- AmO: calls that change lists of their arguments. No condition. -/
import Derived.Test.YtbogogbogdafiaaAmN
set_option linter.unusedVariables false
namespace Go.Am
section
variable {B : Nat} {E : Ex} {w0 w w' : World} {G G' : Gh} {N : Nat} {h h' : Nat → Option Blk} {used : Nat → Bool}
variable {P : Program} {o : Oper} {a : Act} {σ σ' : St} {Q : Exit → Act → World → Prop}
def newPB (p : PB) : MIt → PC → PB
 | .row _, .list _ _ _ px => { p with px := px }
 | .nest _ k off, q => { p with px := p.px.set k ((p.px.getD k []).set off q) }
 | _, _ => p
open Classical in
noncomputable def ghostO (G : Gh) (its : List (MIt × Mode)) (qs : List PC) : Gh :=
 ⟨G.Im, fun n => if h : ∃ p : (MIt × Mode) × PC, ∃ i : Nat, its[i]? = some p.1 ∧ qs[i]? = some p.2 ∧ p.1.1.name? = some n then newPB (G.g n) h.choose.1.1 h.choose.2 else G.g n⟩
theorem ghostO_at {its : List (MIt × Mode)} {qs : List PC} (hnd : (its.filterMap (·.1.name?)).Nodup) {i n : Nat} {it : MIt × Mode} {q : PC} (hi : its[i]? = some it) (hq : qs[i]? = some q) (hn : it.1.name? = some n) :
  (ghostO G its qs).g n = newPB (G.g n) it.1 q := by
 have hex : ∃ p : (MIt × Mode) × PC, ∃ i : Nat, its[i]? = some p.1 ∧ qs[i]? = some p.2 ∧ p.1.1.name? = some n := ⟨(it, q), i, hi, hq, hn⟩
 unfold ghostO
 simp only
 rw [dif_pos hex]
 obtain ⟨j, h1, h2, h3⟩ := hex.choose_spec
 have hij := name_inj hnd h1 hi h3 hn
 subst hij
 rw [hi] at h1
 rw [hq] at h2
 injection h1 with h1
 injection h2 with h2
 rw [← h1, ← h2]
theorem ghostO_not {its : List (MIt × Mode)} {qs : List PC} {n : Nat} (hn : n ∉ its.filterMap (·.1.name?)) : (ghostO G its qs).g n = G.g n := by
 unfold ghostO
 simp only
 rw [dif_neg]
 rintro ⟨p, i, h1, h2, h3⟩
 exact hn (List.mem_filterMap.2 ⟨p.1, List.mem_of_getElem? h1, h3⟩)
theorem PC.list_of_val {pc q : PC} (hv : q.val = pc.val) (hL : pc.isL = true) : ∃ sz a cap xs, q = .list sz a cap xs := by
 cases pc with
 | int k n => cases hL
 | bool b => cases hL
 | list sz a cap xs =>
  cases q with
  | int k n => cases hv
  | bool b => cases hv
  | list sz a cap xs => exact ⟨_, _, _, _, rfl⟩
theorem flat_noL {px : List (List PC)} (hs : scalLL (px.map fun e => e.map PC.er) = true) {k j : Nat} {c : PC} (hk : At px k j c) : c.isL = false := by
 obtain ⟨e, he, hj⟩ := hk
 have h6 := List.all_eq_true.1 hs (e.map PC.er) (by simp only [List.mem_map]; exact ⟨e, List.mem_of_getElem? he, rfl⟩)
 have h7 := List.all_eq_true.1 h6 c.er (by simp only [List.mem_map]; exact ⟨c, List.mem_of_getElem? hj, rfl⟩)
 cases hL : c.isL with
 | false => rfl
 | true => rw [PC.isL_scal hL] at h7; cases h7
theorem flat_noF {px : List (List PC)} (hs : scalLL (px.map fun e => e.map PC.er) = true) (b : Nat) : ¬ RowF b px := by
 rintro ⟨k, j, c, ⟨e, he, hj⟩, hc⟩
 have h6 := List.all_eq_true.1 hs (e.map PC.er) (by simp only [List.mem_map]; exact ⟨e, List.mem_of_getElem? he, rfl⟩)
 have h7 := List.all_eq_true.1 h6 c.er (by simp only [List.mem_map]; exact ⟨c, List.mem_of_getElem? hj, rfl⟩)
 exact (Sep.of_scal h7).2 b hc
theorem chg_row (H : HR B E w G h used []) {n : Nat} {gr : Bool} {m md : Mode} {sz : Nat} {xs : List (List C)} (hn : h n = some (.row gr m sz xs)) (hm : m ≠ .bor) (hlv : md = .live → m = .live) (hfl : flatOk md xs = true)
  {q : PC} (A : MAfter w' md (rowPC sz (G.g n)) q) {k : Nat} {xs' : List (List C)} (hq : q.er = .list k xs') : Chg w' (G.g n) (newPB (G.g n) (.row n) q) gr m sz xs' := by
 have hr := H.row n gr m sz xs hn
 have hn0 : h n ≠ none := by rw [hn]; simp
 obtain ⟨sz', a', cap', px', rfl⟩ := PC.list_of_val A.val rfl
 obtain ⟨rfl, ha, rfl, hlen, hl⟩ := A.live _ _ _ _ _ _ _ _ rfl rfl
 rw [PC.er_list] at hq
 injection hq with _ hq
 have hsep := A.sep
 have hpos : (∀ k j c, At px' k j c → Sep c) ∧ (∀ b o k j c, a' = some (ad b o) → At px' k j c → ¬ InF b c) ∧ RowSep px' := by
  cases hsep with
  | list _ _ _ _ h1 h2 h3 => exact ⟨h1, h2, h1, h3⟩
 have hown : ∀ b, RowF b px' → (G.g n).nl = false → b ≠ (G.g n).b := by
  rintro b ⟨k, j, c, hk, hc⟩ hnl rfl
  refine hpos.2.1 (G.g n).b (G.g n).o k j c ?_ hk hc
  rw [ha, if_neg (by simp [hnl])]
 have hscal : md = .froz → scalLL xs = true := by rintro rfl; exact hfl
 refine ⟨hm, ?_, rfl, rfl, rfl, rfl, rfl, hq.symm, fun hnl => ?_, fun hnl => ?_, hpos.2.2, fun b hb => ?_, fun hmm k j pc hk hL => ?_⟩
 ·cases md with
  | bor => cases hfl
  | live => exact .inr (hlv rfl)
  | froz => exact .inl (flat_noF (by rw [← hr.er]; exact hscal rfl))
 ·have := (hr.nl hnl).1
  rw [this] at hlen
  exact List.eq_nil_of_length_eq_zero hlen
 ·refine ⟨?_, ?_⟩
  ·have hg := A.good
   rw [ha, if_neg (by simp [hnl])] at hg
   by_cases h0 : px' = []
   ·show RowAt w' _ _ _ px'
    rw [h0]
    exact ⟨by simp, by rintro k j c ⟨e, he, _⟩; simp at he, by rintro k j c ⟨e, he, _⟩; simp at he⟩
   ·generalize hq2 : PC.list sz' (some (ad (G.g n).b (G.g n).o)) (G.g n).cap px' = q2 at hg
    cases hg with
    | int k n => cases hq2
    | bool b => cases hq2
    | nil _ _ _ _ => injection hq2 with _ _ _ e4; exact absurd e4 h0
    | cons _ _ _ _ _ h1 h2 h3 h4 h5 h6 =>
     injection hq2 with e1 e2 e3 e4
     injection e2 with e2
     obtain ⟨e5, e6⟩ := ad_inj e2
     subst e1 e3 e4
     rw [e5, e6]
     exact ⟨h4, h5, h6⟩
  ·show px'.length ≤ _
   rw [hlen]
   exact (hr.lies hnl).2.2
 ·have hin : InF b (rowPC sz' (G.g n)) := A.sub b (by
   obtain ⟨k, j, c, hk, hc⟩ := hb
   exact .there _ _ _ _ k j c hk hc)
  rcases rowPC_InF (fun hq => (hr.nl hq).1) hin with ⟨hnl, he⟩ | hF
  ·exact absurd he (hown b hb hnl)
  ·exact hF
 ·cases md with
  | bor => cases hfl
  | live => exact hl rfl k j pc hk hL
  | froz =>
   have := flat_noL (px := (G.g n).px) (by rw [← hr.er]; exact hscal rfl) hk
   rw [hL] at this; cases this
theorem at_set2 {α : Type} {px : List (List α)} {k off k' j' : Nat} {e : List α} {q c : α} (he : px[k]? = some e) (h : At (px.set k (e.set off q)) k' j' c) : (k' = k ∧ j' = off ∧ c = q) ∨ (At px k' j' c ∧ (k', j') ≠ (k, off)) := by
 have hk := (List.getElem?_eq_some_iff.1 he).1
 rcases at_set hk h with ⟨rfl, h1⟩ | ⟨hne, h1⟩
 ·by_cases hj : j' = off
  ·subst hj
   have hl : j' < e.length := by have := (List.getElem?_eq_some_iff.1 h1).1; simpa using this
   rw [List.getElem?_set_self hl] at h1
   injection h1 with h1
   exact .inl ⟨rfl, rfl, h1.symm⟩
  ·rw [List.getElem?_set_ne (Ne.symm hj)] at h1
   exact .inr ⟨⟨e, he, h1⟩, fun e => hj (congrArg Prod.snd e)⟩
 ·exact .inr ⟨h1, fun e => hne (congrArg Prod.fst e)⟩
theorem at_set2_mk {α : Type} {px : List (List α)} {k off k' j' : Nat} {e : List α} {q c : α} (he : px[k]? = some e) (h : At px k' j' c) (hne : (k', j') ≠ (k, off)) : At (px.set k (e.set off q)) k' j' c := by
 obtain ⟨e', h1, h2⟩ := h
 by_cases hk : k' = k
 ·subst hk
  rw [he] at h1
  injection h1 with h1
  subst h1
  have hj : j' ≠ off := fun e => hne (by rw [e])
  exact ⟨_, List.getElem?_set_self (List.getElem?_eq_some_iff.1 he).1, by rw [List.getElem?_set_ne (Ne.symm hj)]; exact h2⟩
 ·exact ⟨e', by rw [List.getElem?_set_ne (Ne.symm hk)]; exact h1, h2⟩
theorem chg_nest (H : HR B E w G h used []) {n k off : Nat} {gr : Bool} {sz : Nat} {xs : List (List C)} (hn : h n = some (.row gr .live sz xs)) {pc : PC} (hat : At (G.g n).px k off pc) (hL : pc.isL = true)
  (hown : (G.g n).nl = false → w'.heap[(G.g n).b]? = w.heap[(G.g n).b]?) (hrest : ∀ k' j' c, At (G.g n).px k' j' c → (k', j') ≠ (k, off) → ∀ b, InF b c → w'.heap[b]? = w.heap[b]?)
  {q : PC} (A : MAfter w' .froz pc q) {ex : List C} (hex : xs[k]? = some ex) : Chg w' (G.g n) (newPB (G.g n) (.nest n k off) q) gr .live sz (xs.set k (ex.set off q.er)) := by
 have hr := H.row n gr .live sz xs hn
 obtain ⟨e0, he0, hj0⟩ := hat
 have hget : (G.g n).px.getD k [] = e0 := by simp [List.getD_eq_getElem?_getD, he0]
 have hpx : (newPB (G.g n) (.nest n k off) q).px = (G.g n).px.set k (e0.set off q) := by simp only [newPB, hget]
 have hex' : ex = e0.map PC.er := by
  rw [hr.er, List.getElem?_map, he0] at hex
  simpa using hex.symm
 have hat : At (G.g n).px k off pc := ⟨e0, he0, hj0⟩
 have hqL : q.isL = true := by
  obtain ⟨sz, a, cap, xs, rfl⟩ := PC.list_of_val A.val hL
  rfl
 have hnl : (G.g n).nl = false := by
  cases hq : (G.g n).nl with
  | false => rfl
  | true => rw [(hr.nl hq).1] at he0; simp at he0
 obtain ⟨l1, l2, l3⟩ := hr.lies hnl
 refine ⟨by simp, .inr rfl, rfl, rfl, rfl, rfl, rfl, ?_, fun h => ?_, fun _ => ?_, ?_, fun b hb => ?_, fun _ k' j' c hk' hc => ?_⟩
 ·rw [hpx, hr.er, hex', List.map_set, List.map_set]
 ·rw [hnl] at h; cases h
 ·rw [hpx]
  refine ⟨⟨fun e he => ?_, fun k' j' c hk' => ?_, fun k' j' c hk' => ?_⟩, by rw [List.length_set]; exact l3⟩
  ·rcases List.mem_or_eq_of_mem_set he with he | rfl
   ·exact l2.1 e he
   ·rw [List.length_set]; exact l2.1 e0 (List.mem_of_getElem? he0)
  ·rw [cell_congr (hown hnl)]
   rcases at_set2 he0 hk' with ⟨rfl, rfl, rfl⟩ | ⟨h1, _⟩
   ·rw [A.val]; exact l2.2.1 _ _ _ hat
   ·exact l2.2.1 _ _ _ h1
  ·rcases at_set2 he0 hk' with ⟨rfl, rfl, rfl⟩ | ⟨h1, h2⟩
   ·exact A.good
   ·exact (l2.2.2 _ _ _ h1).congr fun b hb o => cell_congr (hrest k' j' c h1 h2 b hb) o
 ·rw [hpx]
  refine ⟨fun k' j' c hk' => ?_, fun k1 j1 c1 k2 j2 c2 b h1 h2 hne hb hb' => ?_⟩
  ·rcases at_set2 he0 hk' with ⟨rfl, rfl, rfl⟩ | ⟨h1, h2⟩
   ·exact A.sep
   ·exact hr.mode.2.1 _ _ _ h1
  ·rcases at_set2 he0 h1 with ⟨rfl, rfl, rfl⟩ | ⟨g1, n1⟩
   ·rcases at_set2 he0 h2 with ⟨rfl, rfl, rfl⟩ | ⟨g2, n2⟩
    ·exact hne rfl
    ·exact hr.mode.2.2 _ _ _ _ _ _ b hat g2 hne (A.sub b hb) hb'
   ·rcases at_set2 he0 h2 with ⟨rfl, rfl, rfl⟩ | ⟨g2, n2⟩
    ·exact hr.mode.2.2 _ _ _ _ _ _ b g1 hat hne hb (A.sub b hb')
    ·exact hr.mode.2.2 _ _ _ _ _ _ b g1 g2 hne hb hb'
 ·rw [hpx] at hb
  obtain ⟨k', j', c, hk', hc⟩ := hb
  rcases at_set2 he0 hk' with ⟨rfl, rfl, rfl⟩ | ⟨h1, h2⟩
  ·exact ⟨_, _, _, hat, A.sub b hc⟩
  ·exact ⟨_, _, _, h1, hc⟩
 ·rw [hpx]
  by_cases he : (k', j') = (k, off)
  ·have h1 : k' = k := congrArg Prod.fst he
   have h2 : j' = off := congrArg Prod.snd he
   subst h1 h2
   obtain ⟨e1, g1, g2⟩ := hk'
   rw [he0] at g1
   injection g1 with g1
   subst g1
   rw [hj0] at g2
   injection g2 with g2
   subst g2
   have hl : j' < e0.length := (List.getElem?_eq_some_iff.1 hj0).1
   exact ⟨q, ⟨_, List.getElem?_set_self (List.getElem?_eq_some_iff.1 he0).1, List.getElem?_set_self hl⟩, A.val, hqL⟩
  ·exact ⟨c, at_set2_mk he0 hk' he, rfl, hc⟩
theorem mArgs_ok : ∀ {as : List AVal} {cas : List (Bool × List ACell)} {vals : List Value}, mArgs as = some cas → vals.length = as.length → (∀ (j : Nat) (x : AVal) (v : Value), as[j]? = some x → vals[j]? = some v → RA w G h x v) →
  vals.length = cas.length ∧ ∀ (j : Nat) (x : Bool × List ACell) (v : Value), cas[j]? = some x → vals[j]? = some v → RV w G h x.1 x.2 v
 | [], cas, vals, hx, hl, hc => by
  simp only [mArgs] at hx
  injection hx with hx
  subst hx
  exact ⟨hl, by simp⟩
 | y :: as, cas, vals, hx, hl, hc => by
  simp only [mArgs] at hx
  split at hx
  ·rename_i x xs e1 e2
   injection hx with hx
   subst hx
   match vals, hl with
   | v :: vals, hl =>
    obtain ⟨i1, i2⟩ := mArgs_ok e2 (vals := vals) (by simpa using hl) (fun j x v h1 h2 => hc (j + 1) x v h1 h2)
    refine ⟨by simp [i1], fun j x' v' hj hv => ?_⟩
    cases j with
    | zero =>
     simp at hj hv
     subst hj hv
     have h0 := hc 0 y v rfl rfl
     cases y with
     | one c =>
      cases c <;> simp [AVal.cells?] at e1 <;> subst e1 <;> exact h0.resolve_left (by simp)
     | agg cs =>
      simp [AVal.cells?] at e1
      subst e1
      exact h0
     | tup l => simp [AVal.cells?] at e1
    | succ j => exact i2 j x' v' (by simpa using hj) (by simpa using hv)
  ·cases hx
theorem ItOk.isL {it : MIt} {md : Mode} {pc : PC} (i : ItOk B E w G h it md pc) : pc.isL = true := by
 obtain ⟨sz, a, cap, xs, rfl, _⟩ := i.ok.lies
 rfl
def TabOkM (P : Program) (T : Tab) : Prop := ∀ f sig M, Tab.findM T.muts f = some (sig, M) → MutSpec P f sig M
theorem ex_doCallM (r : R B E w0 N σ a w G) {T : Tab} (hT : TabOkM P T) {m : Mode} {f : FuncId} {as : List AVal} {vals : List Value} {σ1 : St} (hN : ∀ n, o.dst = some n → n < N)
  (hrun : (execOp a.eval o).run P w = .ok (.enter f vals.toArray) w) (hl : vals.length = as.length)
  (has : ∀ (j : Nat) (x : AVal) (v : Value), as[j]? = some x → vals[j]? = some v → RA w G σ.h x v)
  (hx : doCallM T m o.dst f as σ = some σ1) : o.wp P a w (Nx B E w0 N σ1) Q := by
 have H := r.hr
 unfold doCallM at hx
 split at hx
 ·rename_i sig M cas hM hcas
  split at hx
  ·rename_i hnd
   split at hx
   ·rename_i ds its hv
    split at hx
    ·rename_i rs outs hM'
     split at hx
     ·rename_i σ2 hput
      split at hx
      ·rename_i ls σ3 himp
       injection hx with hx
       subst hx
       obtain ⟨hl2, has2⟩ := mArgs_ok hcas hl has
       obtain ⟨pas, q1, q2, q3, q4, q5, q6, q7⟩ := H.mviews hv hl2 has2
       have hnd' : (its.filterMap (·.1.name?)).Nodup := by rw [q6]; exact hnd
       generalize hflE : fArgs sig (pas.map (·.ps)) = fl at q5
       have itx : ∀ (i : Nat) (x : Mode × PC), fl[i]? = some x → ∃ it, its[i]? = some it ∧ it.2 = x.1 ∧ ItOk B E w G σ.h it.1 x.1 x.2 := by
        intro i x hi
        have hlt : i < its.length := by rw [q5.len]; exact (List.getElem?_eq_some_iff.1 hi).1
        have he : its[i]? = some its[i] := List.getElem?_eq_getElem hlt
        exact ⟨_, he, q5.at_ i _ x he hi⟩
       have fmem : ∀ x ∈ fl, ∃ it ∈ its, ItOk B E w G σ.h it.1 x.1 x.2 := by
        intro x hx
        obtain ⟨i, hi⟩ := List.getElem?_of_mem hx
        obtain ⟨it, h1, _, h2⟩ := itx i x hi
        exact ⟨it, List.mem_of_getElem? h1, h2⟩
       -- feet of items
       have hfoot : ∀ x ∈ fl, ∀ b, InF b x.2 → ∃ n gr m sz xs, n ∈ mnamesA sig cas ∧ σ.h n = some (.row gr m sz xs) ∧ m ≠ .bor ∧ ftN G n b ∧ ((∀ b, ¬ RowF b (G.g n).px) ∨ m = .live) := by
        intro x hx b hb
        obtain ⟨it, h1, h2⟩ := fmem x hx
        obtain ⟨n, gr, m, sz, xs, e1, e2, e3, e4, e5⟩ := h2.foot H hb
        exact ⟨n, gr, m, sz, xs, by rw [← q6]; exact List.mem_filterMap.2 ⟨it, h1, e1⟩, e2, e3, e4, e5⟩
       have hex : ∀ b, exF fl b → (B ≤ b ∨ E b) := by
        rintro b ⟨x, hx, hb⟩
        obtain ⟨n, gr, m, sz, xs, _, e2, e3, e4, e5⟩ := hfoot x hx b hb
        rcases e4 with ⟨hnl, rfl⟩ | hF
        ·exact (H.own n (by rw [e2]; simp) hnl).2.1
        ·have hmode := (H.row n gr m sz xs e2).mode
         cases m with
         | bor => exact absurd rfl e3
         | froz => exact (hmode.1 b hF).2.2
         | live => exact (hmode.1 b hF).2.2
       have margs : MArgs w sig ds vals pas := by
        refine ⟨q2, q1, q3, fun x hx => ?_, ?_, fun pc hpc x hx b hb hb' => ?_, fun p hp hk => absurd hk (q4 p hp), fun i p s hp _ hk => absurd hk (q4 p (List.mem_of_getElem? hp))⟩
        ·rw [hflE] at hx
         obtain ⟨it, _, h2⟩ := fmem x hx
         exact h2.ok
        ·rw [hflE, List.pairwise_iff_getElem]
         intro i j hi hj hij b hb hb'
         obtain ⟨it, h1, _, h2⟩ := itx i _ (List.getElem?_eq_getElem hi)
         obtain ⟨it', h1', _, h2'⟩ := itx j _ (List.getElem?_eq_getElem hj)
         obtain ⟨n, gr, m, sz, xs, e1, e2, e3, e4, e5⟩ := h2.foot H hb
         obtain ⟨n', gr', m', sz', xs', e1', e2', e3', e4', e5'⟩ := h2'.foot H hb'
         have hne : n ≠ n' := by
          rintro rfl
          have := name_inj hnd' h1 h1' e1 e1'
          omega
         exact H.ft_dis hne e2 e2' e5' e4 e4'
        ·rw [hflE] at hx
         obtain ⟨n', gr', m', sz', xs', e1', e2', e3', e4', e5'⟩ := hfoot x hx b hb'
         rcases q7 pc hpc b hb with hi | ⟨n, gr, m, sz, xs, hn, e2, e4⟩
         ·rcases e4' with ⟨hnl, rfl⟩ | hF
          ·exact (H.own n' (by rw [e2']; simp) hnl).1 hi
          ·rcases e5' with e5' | rfl
           ·exact e5' b hF
           ·exact ((H.row n' gr' .live sz' xs' e2').mode.1 b hF).1 hi
         ·have hne : n ≠ n' := fun e => hn (e ▸ e1')
          exact H.ft_dis hne e2 e2' e5' e4 e4'
       unfold Oper.wp
       rw [hrun]
       refine (hT f sig M hM ds rs outs hM' w vals pas margs).mono fun e w' ⟨prs, p1, p2, p3, p4, p5, qs, p6, p7, p8⟩ => ?_
       subst p2
       rw [hflE] at p5 p7 p8
       obtain ⟨t1, t2, t3, t4⟩ := putOuts_ok hput hnd'
       have hSn : ∀ n, n ∈ mnamesA sig cas → ∃ (i : Nat) (it : MIt × Mode) (x : Mode × PC) (q : PC), its[i]? = some it ∧ fl[i]? = some x ∧ qs[i]? = some q ∧ outs[i]? = some q.er ∧ it.1.name? = some n ∧ ItOk B E w G σ.h it.1 x.1 x.2 ∧ MAfter w' x.1 x.2 q := by
        intro n hn
        rw [← q6, List.mem_filterMap] at hn
        obtain ⟨it, hit, hname⟩ := hn
        obtain ⟨i, hi⟩ := List.getElem?_of_mem hit
        have hlt : i < fl.length := by rw [← q5.len]; exact (List.getElem?_eq_some_iff.1 hi).1
        have hx : fl[i]? = some fl[i] := List.getElem?_eq_getElem hlt
        have hq : qs[i]? = some (qs[i]'(by rw [p7]; exact hlt)) := List.getElem?_eq_getElem _
        exact ⟨i, it, _, _, hi, hx, hq, by rw [← p6, List.getElem?_map, hq]; rfl, hname, (q5.at_ i it _ hi hx).2, p8 i _ _ hx hq⟩
       have hwsame : ∀ b, b < w.heap.size → (∀ n, n ∈ mnamesA sig cas → ¬ ftN G n b) → w'.heap[b]? = w.heap[b]? := by
        intro b hb hno
        refine p5.block b hb ?_
        rintro ⟨x, hx, hbx⟩
        obtain ⟨n, gr, m, sz, xs, e1, e2, e3, e4, e5⟩ := hfoot x hx b hbx
        exact hno n e1 e4
       have hnex : ∀ b, b < w.heap.size → (∀ x ∈ fl, ¬ InF b x.2) → w'.heap[b]? = w.heap[b]? := fun b hb hno => p5.block b hb (by rintro ⟨x, hx, hbx⟩; exact hno x hx hbx)
       obtain ⟨HR', K, hsub⟩ := H.mutate (G' := ghostO G its qs) (h' := σ2.h) (w' := w') (S := fun n => n ∈ mnamesA sig cas) p5.size hwsame (fun b hb => p5.unf b hb) rfl (fun n hn => by
        obtain ⟨i, it, x, q, hi, hxi, hqi, hoi, hname, hok, haf⟩ := hSn n hn
        have hat := hok.at_
        have hout := t4 i it q.er hi hoi
        rw [ghostO_at hnd' hi hqi hname]
        obtain ⟨it1, md⟩ := it
        cases it1 with
        | nil sz => cases hname
        | row n' =>
         injection hname with hname
         have hname : n' = n := hname
         subst hname
         obtain ⟨gr, mo, sz, xs, e1, e2, e3, e4, e5⟩ := hat
         obtain ⟨gr', mo', rs', xs0, xs', g1, g2, g3⟩ := hout
         rw [e1] at g1
         injection g1 with g1
         injection g1 with a1 a2 a3 a4
         subst a1 a2 a3 a4
         rw [e4] at haf
         exact ⟨gr, mo, sz, xs, xs', e1, g3, chg_row H e1 e2 e3 e5 haf g2⟩
        | nest n' k off =>
         injection hname with hname
         have hname : n' = n := hname
         subst hname
         obtain ⟨gr, sz, xs, e1, e2, e3⟩ := hat
         obtain ⟨gr', mo', rs', xs0, ex, g1, g2, g3⟩ := hout
         rw [e1] at g1
         injection g1 with g1
         injection g1 with a1 a2 a3 a4
         subst a1 a2 a3 a4
         rw [e2] at haf
         have hr := H.row n' gr .live sz xs e1
         have hn0 : σ.h n' ≠ none := by rw [e1]; simp
         -- blocks of the row that are not the list's own stay
         have hstay : ∀ b, ftN G n' b → ¬ InF b x.2 → w'.heap[b]? = w.heap[b]? := by
          intro b hb hnx
          have hlt : b < w.heap.size := by
           rcases hb with ⟨hnl, rfl⟩ | hF
           ·exact (H.own n' hn0 hnl).2.2
           ·exact H.rowF_lt e1 hF
          refine hnex b hlt fun y hy hby => ?_
          obtain ⟨j, hj⟩ := List.getElem?_of_mem hy
          by_cases hij : j = i
          ·subst hij
           rw [hxi] at hj
           injection hj with hj
           subst hj
           exact hnx hby
          ·obtain ⟨it', h1', _, h2'⟩ := itx j y hj
           obtain ⟨n2, gr2, m2, sz2, xs2, f1, f2, f3, f4, f5⟩ := h2'.foot H hby
           have hne : n' ≠ n2 := by
            rintro rfl
            exact hij (name_inj hnd' h1' hi f1 rfl)
           exact H.ft_dis hne e1 f2 f5 hb f4
         refine ⟨gr, .live, sz, xs, _, e1, g3, chg_nest H e1 e3 hok.isL (fun hnl => hstay _ (.inl ⟨hnl, rfl⟩) fun hb => ?_) (fun k' j' c hk hne b hb => hstay b (.inr ⟨k', j', c, hk, hb⟩) fun hbx => ?_) haf g2⟩
         ·exact H.live n' gr sz xs e1 _ ⟨k, off, x.2, e3, hb⟩ n' hn0 hnl rfl
         ·exact hr.mode.2.2 _ _ _ _ _ _ b hk e3 hne hb hbx) (fun n hn => ⟨t3 n (by rw [q6]; exact hn), ghostO_not (by rw [q6]; exact hn)⟩)
       have HR2 : HR B E w' (ghostO G its qs) σ2.h σ2.used [] := by rw [t2]; exact HR'
       have hin : InOk B w' (ghostO G its qs) σ2.h (prs.flatMap (·.2)) := by
        refine ⟨p4.good, fun pc hpc b hb => ?_, ?_⟩
        ·obtain ⟨n1, n2⟩ := p4.new pc hpc b hb
         refine ⟨⟨fun hi => ?_, fun q hq hq2 he => ?_, fun q gr mo sz xs hq hbF => ?_⟩, n2, Nat.le_trans r.fr.size n1⟩
         ·have := H.imlt b hi; omega
         ·obtain ⟨k0, k1, k2, _⟩ := K.name q (HR'.dom q hq) hq
          have := (H.own q k0 (k1.symm.trans hq2)).2.2
          rw [← k2] at this
          omega
         ·have hb' := hsub q b hbF
          have hun := HR'.dom q (by rw [hq]; simp)
          obtain ⟨k0, _⟩ := K.name q hun (by rw [hq]; simp)
          cases hh : σ.h q with
          | none => exact absurd hh k0
          | some blk =>
           cases blk with
           | box cs =>
            have : q ∉ mnamesA sig cas := by
             intro hm
             obtain ⟨i, it, x, q', hi, hxi, hqi, hoi, hname, hok, haf⟩ := hSn q hm
             have hat := hok.at_
             obtain ⟨it1, md⟩ := it
             cases it1 with
             | nil sz => cases hname
             | row n' =>
              injection hname with hname
              have hname : n' = q := hname
              subst hname
              obtain ⟨gr, mo, sz, xs, e1, _⟩ := hat
              rw [hh] at e1; cases e1
             | nest n' k off =>
              injection hname with hname
              have hname : n' = q := hname
              subst hname
              obtain ⟨gr, sz, xs, e1, _⟩ := hat
              rw [hh] at e1; cases e1
            have h3 := t3 q (by rw [q6]; exact this)
            rw [h3, hh] at hq
            cases hq
           | row gr' m' sz' xs' => have := H.rowF_lt hh hb'; omega
        ·rw [List.pairwise_iff_getElem]
         intro i j hi hj hij b hb
         exact p4.dis i j _ _ b (by omega) (List.getElem?_eq_getElem hi) (List.getElem?_eq_getElem hj) hb
       rw [← p1] at himp
       obtain ⟨G', b1, b2, b3, b4, b5, b6, b7⟩ := HR.imps HR2 himp p3 hin
       have hfr : Fr B E w0 w' := by
        refine ⟨p5.os.trans r.fr.os, p5.tape.trans r.fr.tape, p5.output.trans r.fr.output, Nat.le_trans r.fr.size p5.size, fun b hb he => ?_, fun b hb => ?_⟩
        ·refine (p5.block b (Nat.lt_of_lt_of_le hb r.fr.size) fun hx => ?_).trans (r.fr.block b hb he)
         rcases hex b hx with h1 | h1
         ·omega
         ·exact he h1
        ·exact (r.fr.unf b hb).trans (p5.unf b (Nat.lt_of_lt_of_le hb r.fr.size))
       have K2 : Keep w G σ.h (fun n => σ.used n = true) w' G' σ3.h := Keep.trans (fun n hn => by rw [t2]; exact hn) K b2
       have r2 : R B E w0 N σ3 a w' G' := r.step (b6.trans t1) (fun q hq => b7 q (by rw [t2]; exact hq)) K2 b1 hfr
       refine ⟨G', r2.put (RA.res1 b3 p3 b4) ?_ hN⟩
       intro q hq
       match ls, hq with
       | [], hq => obtain ⟨x, hx, _⟩ := hq; simp at hx
       | [(true, cs)], hq => obtain ⟨c, hc, hq⟩ := hq; exact b5 (true, cs) (by simp) c hc q hq
       | [(false, [c])], hq => exact b5 (false, [c]) (by simp) c (by simp) q hq
       | [(false, [])], hq => exact absurd hq id
       | [(false, _ :: _ :: _)], hq => exact absurd hq id
       | x :: y :: ls, hq => obtain ⟨x', hx', c, hc, hq⟩ := hq; exact b5 x' hx' c hc q hq
      ·cases hx
     ·cases hx
    ·cases hx
   ·cases hx
  ·cases hx
 ·cases hx
theorem ex_callm (r : R B E w0 N σ a w G) {T : Tab} (hT : TabOkM P T) {m : Mode} {f : FuncId} {xs : Array Operand} {ms : List MO} {ts : Array TypeId} {σ1 : St} (hN : ∀ n, o.dst = some n → n < N)
  (ho : o.op = .call { callee := .value (.func f), args := xs, argTypes := ts }) (hf : chkFun P f = true) (hm : chkMOs xs.toList ms = true)
  (hx : doCallM T m o.dst f (ms.map σ.ev) σ = some σ1) : o.wp P a w (Nx B E w0 N σ1) Q := by
 obtain ⟨e1, e2⟩ := r.evs hm
 refine ex_doCallM r hT (vals := xs.toList.map a.eval) hN ?_ (by simpa using e1) e2 hx
 have he : (xs.toList.map a.eval).toArray = xs.map a.eval := by apply Array.ext'; simp
 rw [he]
 simp [execOp, ho, resolve, Deferred.ofValue, invoke, Act.eval, run_callFunc hf]
end
end Go.Am