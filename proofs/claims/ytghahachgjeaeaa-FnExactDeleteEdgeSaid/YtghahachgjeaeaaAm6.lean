/- Am6: takes. No condition. -/
import Derived.Test.YtghahachgjeaeaaAm5
set_option linter.unusedVariables false
namespace Go.Am

section
variable {B : Nat} {E : Ex} {w0 w w' : World} {G G' : Gh} {h h' : Nat → Option Blk} {used used' : Nat → Bool} {tk : List PC}

theorem Keep.imx (S : Nat → Prop) (u : Nat → Prop) : Keep w G h u w ⟨fun b => G.Im b ∨ S b, G.g⟩ h :=
  ⟨fun _ h => .inl h, fun _ _ _ => rfl, fun _ _ h => ⟨h, rfl, rfl, rfl, rfl, rfl⟩, fun n gr sz xs _ hn => ⟨⟨gr, xs, hn⟩, fun k j pc h1 h2 => ⟨pc, h1, rfl, h2⟩⟩⟩

theorem HR.imx (H : HR B E w G h used tk) (S : Nat → Prop) (h1 : ∀ b, S b → b < w.heap.size) (h2 : ∀ b, S b → ∀ n, h n ≠ none → (G.g n).nl = false → b ≠ (G.g n).b)
    (h3 : ∀ b, S b → ∀ n gr sz xs, h n = some (.row gr .live sz xs) → ¬ RowF b (G.g n).px) : HR B E w ⟨fun b => G.Im b ∨ S b, G.g⟩ h used tk := by
  refine ⟨H.dom, H.wfh, fun n cs hn => ?_, fun n gr m sz xs hn => ?_, fun n hn hl => ?_, H.inj, ?_, H.cross, H.live, fun i pc hi => ?_, H.tkdis, H.tkrow⟩
  · obtain ⟨a1, a2, a3⟩ := H.box n cs hn
    refine ⟨a1, a2, fun j c hj => ?_⟩
    obtain ⟨v, b1, b2, b3⟩ := a3 j c hj
    exact ⟨v, b1, b2, b3.keep (Keep.imx S (fun n => used n = true)) fun q hq => H.wfh n cs c q hn (List.mem_of_getElem? hj) hq⟩
  · have hr := H.row n gr m sz xs hn
    refine ⟨hr.pos, hr.er, hr.nl, hr.lies, hr.room, ?_⟩
    have hm := hr.mode
    cases m with
    | bor => exact fun b hb => .inl (hm b hb)
    | froz => exact ⟨fun b hb => ⟨.inl (hm.1 b hb).1, (hm.1 b hb).2⟩, hm.2⟩
    | live => exact ⟨fun b hb => ⟨fun hi => hi.elim (hm.1 b hb).1 (fun hs => h3 b hs n gr sz xs hn hb), (hm.1 b hb).2⟩, hm.2⟩
  · obtain ⟨a1, a2, a3⟩ := H.own n hn hl
    exact ⟨fun hi => hi.elim a1 (fun hs => h2 _ hs n hn hl rfl), a2, a3⟩
  · exact fun b hb => hb.elim (H.imlt b) (h1 b)
  · obtain ⟨a1, a2⟩ := H.tkok i pc hi
    exact ⟨a1, fun b hb => ⟨.inl (a2 b hb).1, (a2 b hb).2⟩⟩

theorem HR.tkTake {l : List PC} (H : HR B E w G h used (tk ++ l)) : HR B E w G h used tk := by
  have e : ∀ (i : Nat) (pc : PC), tk[i]? = some pc → (tk ++ l)[i]? = some pc := fun i pc hi => by
    rw [List.getElem?_append_left (List.getElem?_eq_some_iff.1 hi).1]; exact hi
  exact ⟨H.dom, H.wfh, H.box, H.row, H.own, H.inj, H.imlt, H.cross, H.live, fun i pc hi => H.tkok i pc (e i pc hi), fun i j pc pc' b hij h1 h2 => H.tkdis i j pc pc' b hij (e i pc h1) (e j pc' h2),
    fun i pc n gr m sz xs b hi => H.tkrow i pc n gr m sz xs b (e i pc hi)⟩

theorem HR.tkAdd (H : HR B E w G h used tk) {pc : PC} (h1 : Sep pc) (h2 : ∀ b, InF b pc → G.Im b ∧ Unf w b ∧ (B ≤ b ∨ E b))
    (h3 : ∀ (i : Nat) (q : PC) (b : Nat), tk[i]? = some q → InF b q → ¬ InF b pc)
    (h4 : ∀ n gr m sz xs b, h n = some (.row gr m sz xs) → m ≠ .bor → InF b pc → ¬ RowF b (G.g n).px) : HR B E w G h used (tk ++ [pc]) := by
  have e : ∀ (i : Nat) (q : PC), (tk ++ [pc])[i]? = some q → (i < tk.length ∧ tk[i]? = some q) ∨ (i = tk.length ∧ q = pc) := fun i q hi => by
    rcases Nat.lt_trichotomy i tk.length with hlt | heq | hgt
    · rw [List.getElem?_append_left hlt] at hi; exact .inl ⟨hlt, hi⟩
    · subst heq; simp at hi; exact .inr ⟨rfl, hi.symm⟩
    · rw [List.getElem?_eq_none (by simp; omega)] at hi; cases hi
  refine ⟨H.dom, H.wfh, H.box, H.row, H.own, H.inj, H.imlt, H.cross, H.live, fun i q hi => ?_, fun i j q q' b hij hi hj hb => ?_, fun i q n gr m sz xs b hi hn hm hb => ?_⟩
  · rcases e i q hi with ⟨_, hi⟩ | ⟨_, rfl⟩
    · exact H.tkok i q hi
    · exact ⟨h1, h2⟩
  · rcases e i q hi with ⟨_, hi'⟩ | ⟨ei, eq⟩
    · rcases e j q' hj with ⟨_, hj'⟩ | ⟨_, eq'⟩
      · exact H.tkdis i j q q' b hij hi' hj' hb
      · rw [eq']; exact h3 i q b hi' hb
    · rcases e j q' hj with ⟨_, hj'⟩ | ⟨ej, eq'⟩
      · rw [eq] at hb; exact fun hb' => h3 j q' b hj' hb' hb
      · omega
  · rcases e i q hi with ⟨_, hi⟩ | ⟨_, rfl⟩
    · exact H.tkrow i q n gr m sz xs b hi hn hm hb
    · exact h4 n gr m sz xs b hn hm hb

theorem Sep.of_scal {pc : PC} (hs : pc.er.scal = true) : Sep pc ∧ ∀ b, ¬ InF b pc := by
  cases pc with
  | int k n => exact ⟨.int k n, fun b hb => by cases hb⟩
  | bool b => exact ⟨.bool b, fun b hb => by cases hb⟩
  | list sz a cap xs => simp [PC.er_list, C.scal] at hs

theorem del_some {n m : Nat} {b : Blk} (hm : upd h n none m = some b) : h m = some b ∧ m ≠ n := by
  by_cases hmn : m = n
  · subst hmn; rw [upd_same] at hm; cases hm
  · rw [upd_ne _ _ _ _ hmn] at hm; exact ⟨hm, hmn⟩

theorem del_ne {n m : Nat} (hm : upd h n none m ≠ none) : h m ≠ none ∧ m ≠ n := by
  cases hh : upd h n none m with
  | none => exact absurd hh hm
  | some b => obtain ⟨a, b⟩ := del_some hh; exact ⟨by rw [a]; simp, b⟩

/-- The blocks below a named row, itself among them. -/
def under (p : PB) : Nat → Prop := fun b => (p.nl = false ∧ b = p.b) ∨ RowF b p.px

/-- A named row goes, and what lies under it is immutable from now on. -/
theorem HR.freeze (H : HR B E w G h used tk) {n : Nat} {gr : Bool} {m : Mode} {rs : Nat} {xs : List (List C)} (hn : h n = some (.row gr m rs xs)) :
    HR B E w ⟨fun b => G.Im b ∨ under (G.g n) b, G.g⟩ (upd h n none) used tk := by
  have hr := H.row n gr m rs xs hn
  have hn0 : h n ≠ none := by rw [hn]; simp
  have hmode : ∀ b, RowF b (G.g n).px → G.Im b ∨ m = .live := fun b hb => by
    have hm := hr.mode
    cases m with
    | bor => exact .inl (hm b hb)
    | froz => exact .inl (hm.1 b hb).1
    | live => exact .inr rfl
  refine (H.del n).imx (under (G.g n)) (fun b hb => ?_) (fun b hb q hq hl => ?_) (fun b hb q gr' sz' xs' hq hbF => ?_)
  · rcases hb with ⟨h1, rfl⟩ | hb
    · exact (H.own n hn0 h1).2.2
    · exact H.rowF_lt hn hb
  · obtain ⟨hq0, hqn⟩ := del_ne hq
    rcases hb with ⟨h1, rfl⟩ | hb
    · exact H.inj n q hn0 hq0 (Ne.symm hqn) h1 hl
    · rcases hmode b hb with hi | rfl
      · rintro rfl; exact (H.own q hq0 hl).1 hi
      · exact H.live n gr rs xs hn b hb q hq0 hl
  · obtain ⟨hq0, hqn⟩ := del_some hq
    rcases hb with ⟨h1, rfl⟩ | hb
    · exact H.live q gr' sz' xs' hq0 _ hbF n hn0 h1 rfl
    · rcases hmode b hb with hi | rfl
      · exact ((H.row q gr' .live sz' xs' hq0).mode.1 b hbF).1 hi
      · exact H.cross n q gr .live rs xs gr' .live sz' xs' hn hq0 (by simp) (by simp) (Ne.symm hqn) b hb hbF

theorem RowSep.sub {px : List (List PC)} (hs : RowSep px) (lo len : Nat) : RowSep ((px.drop lo).take len) := by
  refine ⟨fun k j c hk => hs.1 _ _ _ (at_sub hk).1, fun k j c k' j' c' b hk hk' hne hb => hs.2 _ _ _ _ _ _ b (at_sub hk).1 (at_sub hk').1 (fun e => hne ?_) hb⟩
  injection e with e1 e2
  rw [show k = k' by omega, e2]

theorem HR.takeC {σ σ1 : St} (H : HR B E w G σ.h σ.used tk) {c : ACell} {x : C} {o : Bool} {v : Value} (hx : σ.takeC c = some (x, o, σ1)) (hc : RC w G σ.h c v) :
    ∃ (Im' : Nat → Prop) (pc : PC), pc.er = x ∧ pc.val = v ∧ Good w pc ∧ (∀ b, InF b pc → Im' b) ∧
      HR B E w ⟨Im', G.g⟩ σ1.h σ.used (if o = true then tk ++ [pc] else tk) ∧ Keep w G σ.h (fun n => σ.used n = true) w ⟨Im', G.g⟩ σ1.h ∧ σ1.env = σ.env ∧ σ1.used = σ.used ∧
      (∀ n b, σ1.h n = some b → σ.h n = some b) := by
  cases c with
  | c y =>
    simp only [St.takeC] at hx
    injection hx with hx
    injection hx with hx1 hx2
    injection hx2 with hx2 hx3
    subst hx1 hx2 hx3
    obtain ⟨pc, h1, h2, h3, h4⟩ := hc
    refine ⟨G.Im, pc, h1, h2, h3, h4, ?_, Keep.refl _ _ _ _, rfl, rfl, fun _ _ h => h⟩
    by_cases hs : y.scal = true
    · rw [if_pos hs]
      obtain ⟨s1, s2⟩ := Sep.of_scal (pc := pc) (by rw [h1]; exact hs)
      exact H.tkAdd s1 (fun b hb => absurd hb (s2 b)) (fun _ _ b _ _ => s2 b) (fun _ _ _ _ _ b _ _ hb => absurd hb (s2 b))
    · rw [if_neg hs]; exact H
  | nil sz =>
    simp only [St.takeC] at hx
    split at hx
    · rename_i hpos
      injection hx with hx
      injection hx with hx1 hx2
      injection hx2 with hx2 hx3
      subst hx1 hx2 hx3
      have hc' : v = .slice none 0 0 := hc
      subst hc'
      have hno : ∀ b, ¬ InF b (.list sz none 0 []) := fun b hb => by
        rw [InF.list_iff] at hb
        rcases hb with ⟨hb, _⟩ | ⟨k, j, c, ⟨e, he, _⟩, _⟩
        · exact absurd rfl hb
        · simp at he
      refine ⟨G.Im, .list sz none 0 [], by simp [PC.er_list], rfl, .nil _ _ _ hpos, fun b hb => absurd hb (hno b), ?_, Keep.refl _ _ _ _, rfl, rfl, fun _ _ h => h⟩
      rw [if_pos rfl]
      refine H.tkAdd (.list _ _ _ _ ?_ ?_ ?_) (fun b hb => absurd hb (hno b)) (fun _ _ b _ _ => hno b) (fun _ _ _ _ _ b _ _ hb => absurd hb (hno b))
      · rintro k j c ⟨e, he, _⟩; simp at he
      · rintro b o k j c _ ⟨e, he, _⟩; simp at he
      · rintro k j c k' j' c' b ⟨e, he, _⟩; simp at he
    · cases hx
  | sl n sz lo len =>
    simp only [St.takeC] at hx
    split at hx
    · rename_i gr m rs xs hn
      split at hx
      · rename_i hcond
        obtain ⟨rfl, rfl, hl0⟩ := hcond
        injection hx with hx
        injection hx with hx1 hx2
        injection hx2 with hx2 hx3
        subst hx1 hx2 hx3
        have hl : 0 + len ≤ xs.length := by omega
        have hn0 : σ.h n ≠ none := by rw [hn]; simp
        have hs : SlOk (G.g n) rs 0 len v := hc hn0
        have hr := H.row n gr m rs xs hn
        obtain ⟨a1, a2, a3, a4⟩ := slPC_ok hr hs hl
        have HF := H.freeze hn
        have K1 : Keep w G σ.h (fun n => σ.used n = true) w ⟨fun b => G.Im b ∨ under (G.g n) b, G.g⟩ (upd σ.h n none) :=
          Keep.trans (fun _ h => h) (Keep.del n (fun n => σ.used n = true)) (Keep.imx (under (G.g n)) (fun n => σ.used n = true))
        refine ⟨_, slPC (G.g n) rs 0 len v, by simpa using a1, a2, a3, fun b hb => .inr (a4 b hb), ?_, K1, rfl, rfl, fun q b hq => (del_some hq).1⟩
        by_cases hm : m ≠ .bor
        · rw [if_pos (by simpa using hm)]
          have hown : (∀ b, RowF b (G.g n).px → Unf w b ∧ (B ≤ b ∨ E b)) ∧ RowSep (G.g n).px ∧ (∀ b, RowF b (G.g n).px → (G.g n).nl = false → b ≠ (G.g n).b) := by
            have hmm := hr.mode
            cases m with
            | bor => exact absurd rfl hm
            | froz => exact ⟨fun b hb => (hmm.1 b hb).2, hmm.2, fun b hb hl heq => (H.own n hn0 hl).1 (heq ▸ (hmm.1 b hb).1)⟩
            | live => exact ⟨fun b hb => (hmm.1 b hb).2, hmm.2, fun b hb hl => H.live n gr rs xs hn b hb n hn0 hl⟩
          obtain ⟨o1, o2, o3⟩ := hown
          refine HF.tkAdd ?_ (fun b hb => ⟨.inr (a4 b hb), ?_⟩) (fun i q b hi hb hb' => ?_) (fun q gr' m' sz' xs' b hq hm' hb hbF => ?_)
          · -- Sep
            rcases hs with ⟨hnl, rfl, _, rfl⟩ | ⟨hnl, a, rfl, hcap, ha⟩
            · simp only [slPC]
              have hz : (List.take 0 (List.drop 0 (G.g n).px)) = [] := by simp
              rw [hz]
              refine .list _ _ _ _ ?_ ?_ ?_
              · rintro k j c ⟨e, he, _⟩; simp at he
              · rintro b o k j c _ ⟨e, he, _⟩; simp at he
              · rintro k j c k' j' c' b ⟨e, he, _⟩; simp at he
            · simp only [slPC]
              have hss := o2.sub 0 len
              refine .list _ _ _ _ hss.1 (fun b o k j c hab hk hb => ?_) hss.2
              have hk' := (at_sub hk).1
              have hlen0 : 0 < len := by have := (at_sub hk).2; omega
              have e := ha (.inl (by omega))
              rw [e] at hab
              injection hab with hab
              exact o3 b ⟨_, _, _, hk', hb⟩ hnl (ad_inj hab).1.symm
          · rcases a4 b hb with ⟨hl', rfl⟩ | hb'
            · exact ⟨(hr.lies hl').1, (H.own n hn0 hl').2.1⟩
            · exact o1 b hb'
          · rcases a4 b hb' with ⟨hl', rfl⟩ | hbF
            · exact (H.own n hn0 hl').1 ((H.tkok i q hi).2 _ hb).1
            · exact H.tkrow i q n gr m rs xs b hi hn hm hb hbF
          · obtain ⟨hq0, hqn⟩ := del_some hq
            rcases a4 b hb with ⟨hl', rfl⟩ | hb'
            · have hmm := (H.row q gr' m' sz' xs' hq0).mode
              cases m' with
              | bor => exact absurd rfl hm'
              | froz => exact (H.own n hn0 hl').1 (hmm.1 _ hbF).1
              | live => exact H.live q gr' sz' xs' hq0 _ hbF n hn0 hl' rfl
            · exact H.cross n q gr m rs xs gr' m' sz' xs' hn hq0 hm hm' (Ne.symm hqn) b hb' hbF
        · rw [if_neg (by simpa using hm)]
          exact HF
      · cases hx
    · cases hx
  | ptr _ _ _ _ => simp [St.takeC] at hx
  | dptr _ _ => simp [St.takeC] at hx
  | nsl _ _ _ _ _ _ => simp [St.takeC] at hx
  | fn _ _ => simp [St.takeC] at hx
  | junk => simp [St.takeC] at hx

end
end Go.Am
