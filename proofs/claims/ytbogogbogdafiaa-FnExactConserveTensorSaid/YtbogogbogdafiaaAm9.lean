/- Am6, Am7, Am8, Am9: parts of the proof. No condition. -/
import Derived.Test.YtbogogbogdafiaaAm5
set_option linter.unusedVariables false
section
namespace Go.Am
section
variable {B : Nat} {E : Ex} {w0 w w' : World} {G G' : Gh} {h h' : Nat → Option Blk} {used used' : Nat → Bool} {tk : List PC}
theorem Keep.imx (S : Nat → Prop) (u : Nat → Prop) : Keep w G h u w ⟨fun b => G.Im b ∨ S b, G.g⟩ h :=
 ⟨fun _ h => .inl h, fun _ _ _ => rfl, fun _ _ h => ⟨h, rfl, rfl, rfl, rfl, rfl⟩, fun n gr sz xs _ hn => ⟨⟨gr, xs, hn⟩, fun k j pc h1 h2 => ⟨pc, h1, rfl, h2⟩⟩⟩
theorem HR.imx (H : HR B E w G h used tk) (S : Nat → Prop) (h1 : ∀ b, S b → b < w.heap.size) (h2 : ∀ b, S b → ∀ n, h n ≠ none → (G.g n).nl = false → b ≠ (G.g n).b)
  (h3 : ∀ b, S b → ∀ n gr sz xs, h n = some (.row gr .live sz xs) → ¬ RowF b (G.g n).px) (h4 : ∀ b, S b → B ≤ b ∨ E b ∨ E.a b) : HR B E w ⟨fun b => G.Im b ∨ S b, G.g⟩ h used tk := by
 refine ⟨H.dom, H.wfh, fun n cs hn => ?_, fun n gr m sz xs hn => ?_, fun n hn hl => ?_, H.inj, ?_, fun b hb => hb.elim (H.img b) (h4 b), H.cross, H.live, fun i pc hi => ?_, H.tkdis, H.tkrow⟩
 ·obtain ⟨a1, a2, a3⟩ := H.box n cs hn
  refine ⟨a1, a2, fun j c hj => ?_⟩
  obtain ⟨v, b1, b2, b3⟩ := a3 j c hj
  exact ⟨v, b1, b2, b3.keep (Keep.imx S (fun n => used n = true)) fun q hq => H.wfh n cs c q hn (List.mem_of_getElem? hj) hq⟩
 ·have hr := H.row n gr m sz xs hn
  refine ⟨hr.pos, hr.er, hr.nl, hr.lies, hr.room, ?_⟩
  have hm := hr.mode
  cases m with
  | bor => exact fun b hb => .inl (hm b hb)
  | froz => exact ⟨fun b hb => ⟨.inl (hm.1 b hb).1, (hm.1 b hb).2⟩, hm.2⟩
  | live => exact ⟨fun b hb => ⟨fun hi => hi.elim (hm.1 b hb).1 (fun hs => h3 b hs n gr sz xs hn hb), (hm.1 b hb).2⟩, hm.2⟩
 ·obtain ⟨a1, a2, a3⟩ := H.own n hn hl
  exact ⟨fun hi => hi.elim a1 (fun hs => h2 _ hs n hn hl rfl), a2, a3⟩
 ·exact fun b hb => hb.elim (H.imlt b) (h1 b)
 ·obtain ⟨a1, a2⟩ := H.tkok i pc hi
  exact ⟨a1, fun b hb => ⟨.inl (a2 b hb).1, (a2 b hb).2⟩⟩
theorem HR.tkTake {l : List PC} (H : HR B E w G h used (tk ++ l)) : HR B E w G h used tk := by
 have e : ∀ (i : Nat) (pc : PC), tk[i]? = some pc → (tk ++ l)[i]? = some pc := fun i pc hi => by
  rw [List.getElem?_append_left (List.getElem?_eq_some_iff.1 hi).1]; exact hi
 exact ⟨H.dom, H.wfh, H.box, H.row, H.own, H.inj, H.imlt, H.img, H.cross, H.live, fun i pc hi => H.tkok i pc (e i pc hi), fun i j pc pc' b hij h1 h2 => H.tkdis i j pc pc' b hij (e i pc h1) (e j pc' h2),
  fun i pc n gr m sz xs b hi => H.tkrow i pc n gr m sz xs b (e i pc hi)⟩
theorem HR.tkAdd (H : HR B E w G h used tk) {pc : PC} (h1 : Sep pc) (h2 : ∀ b, InF b pc → G.Im b ∧ Unf w b ∧ (B ≤ b ∨ E b))
  (h3 : ∀ (i : Nat) (q : PC) (b : Nat), tk[i]? = some q → InF b q → ¬ InF b pc)
  (h4 : ∀ n gr m sz xs b, h n = some (.row gr m sz xs) → m ≠ .bor → InF b pc → ¬ RowF b (G.g n).px) : HR B E w G h used (tk ++ [pc]) := by
 have e : ∀ (i : Nat) (q : PC), (tk ++ [pc])[i]? = some q → (i < tk.length ∧ tk[i]? = some q) ∨ (i = tk.length ∧ q = pc) := fun i q hi => by
  rcases Nat.lt_trichotomy i tk.length with hlt | heq | hgt
  ·rw [List.getElem?_append_left hlt] at hi; exact .inl ⟨hlt, hi⟩
  ·subst heq; simp at hi; exact .inr ⟨rfl, hi.symm⟩
  ·rw [List.getElem?_eq_none (by simp; omega)] at hi; cases hi
 refine ⟨H.dom, H.wfh, H.box, H.row, H.own, H.inj, H.imlt, H.img, H.cross, H.live, fun i q hi => ?_, fun i j q q' b hij hi hj hb => ?_, fun i q n gr m sz xs b hi hn hm hb => ?_⟩
 ·rcases e i q hi with ⟨_, hi⟩ | ⟨_, rfl⟩
  ·exact H.tkok i q hi
  ·exact ⟨h1, h2⟩
 ·rcases e i q hi with ⟨_, hi'⟩ | ⟨ei, eq⟩
  ·rcases e j q' hj with ⟨_, hj'⟩ | ⟨_, eq'⟩
   ·exact H.tkdis i j q q' b hij hi' hj' hb
   ·rw [eq']; exact h3 i q b hi' hb
  ·rcases e j q' hj with ⟨_, hj'⟩ | ⟨ej, eq'⟩
   ·rw [eq] at hb; exact fun hb' => h3 j q' b hj' hb' hb
   ·omega
 ·rcases e i q hi with ⟨_, hi⟩ | ⟨_, rfl⟩
  ·exact H.tkrow i q n gr m sz xs b hi hn hm hb
  ·exact h4 n gr m sz xs b hn hm hb
theorem Sep.of_scal {pc : PC} (hs : pc.er.scal = true) : Sep pc ∧ ∀ b, ¬ InF b pc := by
 cases pc with
 | int k n => exact ⟨.int k n, fun b hb => by cases hb⟩
 | bool b => exact ⟨.bool b, fun b hb => by cases hb⟩
 | list sz a cap xs => simp [PC.er_list, C.scal] at hs
theorem del_some {n m : Nat} {b : Blk} (hm : upd h n none m = some b) : h m = some b ∧ m ≠ n := by
 by_cases hmn : m = n
 ·subst hmn; rw [upd_same] at hm; cases hm
 ·rw [upd_ne _ _ _ _ hmn] at hm; exact ⟨hm, hmn⟩
theorem del_ne {n m : Nat} (hm : upd h n none m ≠ none) : h m ≠ none ∧ m ≠ n := by
 cases hh : upd h n none m with
 | none => exact absurd hh hm
 | some b => obtain ⟨a, b⟩ := del_some hh; exact ⟨by rw [a]; simp, b⟩
def under (p : PB) : Nat → Prop := fun b => (p.nl = false ∧ b = p.b) ∨ RowF b p.px
theorem HR.freeze (H : HR B E w G h used tk) {n : Nat} {gr : Bool} {m : Mode} {rs : Nat} {xs : List (List C)} (hn : h n = some (.row gr m rs xs)) :
  HR B E w ⟨fun b => G.Im b ∨ under (G.g n) b, G.g⟩ (upd h n none) used tk := by
 have hr := H.row n gr m rs xs hn
 have hn0 : h n ≠ none := by rw [hn]; simp
 have hmode : ∀ b, RowF b (G.g n).px → G.Im b ∨ m = .live := fun b hb => by
  have hm := hr.mode
  cases m with
  | bor => exact .inl (hm b hb)
  | froz => exact .inl (hm.1 b hb).1
  | live => exact .inr rfl
 refine (H.del n).imx (under (G.g n)) (fun b hb => ?_) (fun b hb q hq hl => ?_) (fun b hb q gr' sz' xs' hq hbF => ?_) (fun b hb => ?_)
 ·rcases hb with ⟨h1, rfl⟩ | hb
  ·exact (H.own n hn0 h1).2.2
  ·exact H.rowF_lt hn hb
 ·obtain ⟨hq0, hqn⟩ := del_ne hq
  rcases hb with ⟨h1, rfl⟩ | hb
  ·exact H.inj n q hn0 hq0 (Ne.symm hqn) h1 hl
  ·rcases hmode b hb with hi | rfl
   ·rintro rfl; exact (H.own q hq0 hl).1 hi
   ·exact H.live n gr rs xs hn b hb q hq0 hl
 ·obtain ⟨hq0, hqn⟩ := del_some hq
  rcases hb with ⟨h1, rfl⟩ | hb
  ·exact H.live q gr' sz' xs' hq0 _ hbF n hn0 h1 rfl
  ·rcases hmode b hb with hi | rfl
   ·exact ((H.row q gr' .live sz' xs' hq0).mode.1 b hbF).1 hi
   ·exact H.cross n q gr .live rs xs gr' .live sz' xs' hn hq0 (by simp) (by simp) (Ne.symm hqn) b hb hbF
 ·rcases hb with ⟨h1, rfl⟩ | hb
  ·exact (H.own n hn0 h1).2.1.imp id .inl
  ·rcases hmode b hb with hi | rfl
   ·exact H.img b hi
   ·exact (hr.mode.1 b hb).2.2.imp id .inl
theorem RowSep.sub {px : List (List PC)} (hs : RowSep px) (lo len : Nat) : RowSep ((px.drop lo).take len) := by
 refine ⟨fun k j c hk => hs.1 _ _ _ (at_sub hk).1, fun k j c k' j' c' b hk hk' hne hb => hs.2 _ _ _ _ _ _ b (at_sub hk).1 (at_sub hk').1 (fun e => hne ?_) hb⟩
 injection e with e1 e2
 rw [show k = k' by omega, e2]
theorem HR.takeC {σ σ1 : St} (H : HR B E w G σ.h σ.used tk) {c : ACell} {x : C} {o : Bool} {v : Value} (hx : σ.takeC c = some (x, o, σ1)) (hc : RC w G σ.h c v) :
  ∃ (Im' : Nat → Prop) (pc : PC), pc.er = x ∧ pc.val = v ∧ Good w pc ∧ (∀ b, InF b pc → Im' b) ∧
   HR B E w ⟨Im', G.g⟩ σ1.h σ.used (if o = true then tk ++ [pc] else tk) ∧ Keep w G σ.h (fun n => σ.used n = true) w ⟨Im', G.g⟩ σ1.h ∧ σ1.env = σ.env ∧ σ1.used = σ.used ∧
   (∀ n b, σ1.h n = some b → σ.h n = some b) := by
 cases c with
 | c y =>
  simp only [St.takeC] at hx
  injection hx with hx
  injection hx with hx1 hx2
  injection hx2 with hx2 hx3
  subst hx1 hx2 hx3
  obtain ⟨pc, h1, h2, h3, h4⟩ := hc
  refine ⟨G.Im, pc, h1, h2, h3, h4, ?_, Keep.refl _ _ _ _, rfl, rfl, fun _ _ h => h⟩
  by_cases hs : y.scal = true
  ·rw [if_pos hs]
   obtain ⟨s1, s2⟩ := Sep.of_scal (pc := pc) (by rw [h1]; exact hs)
   exact H.tkAdd s1 (fun b hb => absurd hb (s2 b)) (fun _ _ b _ _ => s2 b) (fun _ _ _ _ _ b _ _ hb => absurd hb (s2 b))
  ·rw [if_neg hs]; exact H
 | nil sz =>
  simp only [St.takeC] at hx
  split at hx
  ·rename_i hpos
   injection hx with hx
   injection hx with hx1 hx2
   injection hx2 with hx2 hx3
   subst hx1 hx2 hx3
   have hc' : v = .slice none 0 0 := hc
   subst hc'
   have hno : ∀ b, ¬ InF b (.list sz none 0 []) := fun b hb => by
    rw [InF.list_iff] at hb
    rcases hb with ⟨hb, _⟩ | ⟨k, j, c, ⟨e, he, _⟩, _⟩
    ·exact absurd rfl hb
    ·simp at he
   refine ⟨G.Im, .list sz none 0 [], by simp [PC.er_list], rfl, .nil _ _ _ hpos, fun b hb => absurd hb (hno b), ?_, Keep.refl _ _ _ _, rfl, rfl, fun _ _ h => h⟩
   rw [if_pos rfl]
   refine H.tkAdd (.list _ _ _ _ ?_ ?_ ?_) (fun b hb => absurd hb (hno b)) (fun _ _ b _ _ => hno b) (fun _ _ _ _ _ b _ _ hb => absurd hb (hno b))
   ·rintro k j c ⟨e, he, _⟩; simp at he
   ·rintro b o k j c _ ⟨e, he, _⟩; simp at he
   ·rintro k j c k' j' c' b ⟨e, he, _⟩; simp at he
  ·cases hx
 | sl n sz lo len =>
  simp only [St.takeC] at hx
  split at hx
  ·rename_i gr m rs xs hn
   split at hx
   ·rename_i hcond
    obtain ⟨rfl, rfl, hl0⟩ := hcond
    injection hx with hx
    injection hx with hx1 hx2
    injection hx2 with hx2 hx3
    subst hx1 hx2 hx3
    have hl : 0 + len ≤ xs.length := by omega
    have hn0 : σ.h n ≠ none := by rw [hn]; simp
    have hs : SlOk (G.g n) rs 0 len v := hc hn0
    have hr := H.row n gr m rs xs hn
    obtain ⟨a1, a2, a3, a4⟩ := slPC_ok hr hs hl
    have HF := H.freeze hn
    have K1 : Keep w G σ.h (fun n => σ.used n = true) w ⟨fun b => G.Im b ∨ under (G.g n) b, G.g⟩ (upd σ.h n none) :=
     Keep.trans (fun _ h => h) (Keep.del n (fun n => σ.used n = true)) (Keep.imx (under (G.g n)) (fun n => σ.used n = true))
    refine ⟨_, slPC (G.g n) rs 0 len v, by simpa using a1, a2, a3, fun b hb => .inr (a4 b hb), ?_, K1, rfl, rfl, fun q b hq => (del_some hq).1⟩
    by_cases hm : m ≠ .bor
    ·rw [if_pos (by simpa using hm)]
     have hown : (∀ b, RowF b (G.g n).px → Unf w b ∧ (B ≤ b ∨ E b)) ∧ RowSep (G.g n).px ∧ (∀ b, RowF b (G.g n).px → (G.g n).nl = false → b ≠ (G.g n).b) := by
      have hmm := hr.mode
      cases m with
      | bor => exact absurd rfl hm
      | froz => exact ⟨fun b hb => (hmm.1 b hb).2, hmm.2, fun b hb hl heq => (H.own n hn0 hl).1 (heq ▸ (hmm.1 b hb).1)⟩
      | live => exact ⟨fun b hb => (hmm.1 b hb).2, hmm.2, fun b hb hl => H.live n gr rs xs hn b hb n hn0 hl⟩
     obtain ⟨o1, o2, o3⟩ := hown
     refine HF.tkAdd ?_ (fun b hb => ⟨.inr (a4 b hb), ?_⟩) (fun i q b hi hb hb' => ?_) (fun q gr' m' sz' xs' b hq hm' hb hbF => ?_)
     ·-- Sep
      rcases hs with ⟨hnl, rfl, _, rfl⟩ | ⟨hnl, a, rfl, hcap, ha⟩
      ·simp only [slPC]
       have hz : (List.take 0 (List.drop 0 (G.g n).px)) = [] := by simp
       rw [hz]
       refine .list _ _ _ _ ?_ ?_ ?_
       ·rintro k j c ⟨e, he, _⟩; simp at he
       ·rintro b o k j c _ ⟨e, he, _⟩; simp at he
       ·rintro k j c k' j' c' b ⟨e, he, _⟩; simp at he
      ·simp only [slPC]
       have hss := o2.sub 0 len
       refine .list _ _ _ _ hss.1 (fun b o k j c hab hk hb => ?_) hss.2
       have hk' := (at_sub hk).1
       have hlen0 : 0 < len := by have := (at_sub hk).2; omega
       have e := ha (.inl (by omega))
       rw [e] at hab
       injection hab with hab
       exact o3 b ⟨_, _, _, hk', hb⟩ hnl (ad_inj hab).1.symm
     ·rcases a4 b hb with ⟨hl', rfl⟩ | hb'
      ·exact ⟨(hr.lies hl').1, (H.own n hn0 hl').2.1⟩
      ·exact o1 b hb'
     ·rcases a4 b hb' with ⟨hl', rfl⟩ | hbF
      ·exact (H.own n hn0 hl').1 ((H.tkok i q hi).2 _ hb).1
      ·exact H.tkrow i q n gr m rs xs b hi hn hm hb hbF
     ·obtain ⟨hq0, hqn⟩ := del_some hq
      rcases a4 b hb with ⟨hl', rfl⟩ | hb'
      ·have hmm := (H.row q gr' m' sz' xs' hq0).mode
       cases m' with
       | bor => exact absurd rfl hm'
       | froz => exact (H.own n hn0 hl').1 (hmm.1 _ hbF).1
       | live => exact H.live q gr' sz' xs' hq0 _ hbF n hn0 hl' rfl
      ·exact H.cross n q gr m rs xs gr' m' sz' xs' hn hq0 hm hm' (Ne.symm hqn) b hb' hbF
    ·rw [if_neg (by simpa using hm)]
     exact HF
   ·cases hx
  ·cases hx
 | ptr _ _ _ _ => simp [St.takeC] at hx
 | dptr _ _ => simp [St.takeC] at hx
 | nsl _ _ _ _ _ _ => simp [St.takeC] at hx
 | fn _ _ => simp [St.takeC] at hx
 | nptr _ _ _ _ _ _ => simp [St.takeC] at hx
 | junk => simp [St.takeC] at hx
end
end Go.Am
end
section
namespace Go.Am
section
variable {B : Nat} {E : Ex} {w0 w w' : World} {G G' : Gh} {h h' : Nat → Option Blk} {used used' : Nat → Bool} {tk : List PC}
theorem HR.takeL : ∀ {cs : List ACell} {σ σ1 : St} {G : Gh} {tk : List PC} {xs : List C} {o : Bool} {vs : List Value}, HR B E w G σ.h σ.used tk → σ.takeL cs = some (xs, o, σ1) → RCl w G σ.h cs vs →
  (∀ c ∈ cs, ∀ m, c.ref m → σ.used m = true) →
  ∃ (Im' : Nat → Prop) (pcs : List PC), pcs.map PC.er = xs ∧ pcs.map PC.val = vs ∧ (∀ pc ∈ pcs, Good w pc ∧ ∀ b, InF b pc → Im' b) ∧
   HR B E w ⟨Im', G.g⟩ σ1.h σ.used (if o = true then tk ++ pcs else tk) ∧ Keep w G σ.h (fun n => σ.used n = true) w ⟨Im', G.g⟩ σ1.h ∧ σ1.env = σ.env ∧ σ1.used = σ.used ∧
   (∀ n b, σ1.h n = some b → σ.h n = some b)
 | [], σ, σ1, G, tk, xs, o, vs, H, hx, hc, hr => by
  simp only [St.takeL] at hx
  injection hx with hx
  injection hx with hx1 hx2
  injection hx2 with hx2 hx3
  subst hx1 hx2 hx3
  have : vs = [] := List.eq_nil_of_length_eq_zero (by simpa using hc.1)
  subst this
  exact ⟨G.Im, [], rfl, rfl, by simp, by simpa using H, Keep.refl _ _ _ _, rfl, rfl, fun _ _ h => h⟩
 | c :: cs, σ, σ2, G, tk, xs, o, vs, H, hx, hc, hr => by
  simp only [St.takeL] at hx
  split at hx
  ·rename_i x o1 σ1 e1
   split at hx
   ·rename_i xs' o2 σ2' e2
    injection hx with hx
    injection hx with hx1 hx2
    injection hx2 with hx2 hx3
    subst hx1 hx2 hx3
    obtain ⟨hlen, hat⟩ := hc
    match vs, hlen with
    | v :: vs, hlen =>
     obtain ⟨Im1, pc, a1, a2, a3, a4, a5, a6, a7, a8, a9⟩ := H.takeC e1 (hat 0 c v rfl rfl).2
     have hc2 : RCl w ⟨Im1, G.g⟩ σ1.h cs vs := RCl.keep a6 (fun c' hc' m hm => hr c' (by simp [hc']) m hm) ⟨by simpa using hlen, fun j c u h1 h2 => hat (j + 1) c u h1 h2⟩
     rw [← a8] at a5
     obtain ⟨Im2, pcs, b1, b2, b3, b4, b5, b6, b7, b8⟩ := HR.takeL a5 e2 hc2 (fun c' hc' m hm => by rw [a8]; exact hr c' (by simp [hc']) m hm)
     refine ⟨Im2, pc :: pcs, by simp [a1, b1], by simp [a2, b2], fun q hq => ?_, ?_, Keep.trans (fun n hn => by rw [a8]; exact hn) a6 b5, b6.trans a7, b7.trans a8, fun n b hb => a9 n b (b8 n b hb)⟩
     ·cases hq with
      | head => exact ⟨a3, fun b hb => b5.im b (a4 b hb)⟩
      | tail _ hq => exact b3 q hq
     ·rw [a8] at b4
      cases o1 <;> cases o2 <;> simp at b4 ⊢
      ·exact b4
      ·exact b4.tkTake
      ·exact b4.tkTake
      ·exact b4
   ·cases hx
  ·cases hx
theorem RA.cells {x : AVal} {ag : Bool} {cs : List ACell} {v : Value} (hx : x.cells? = some (ag, cs)) (hc : RA w G h x v) : RCl w G h cs v.cells.toList := by
 cases x with
 | one c =>
  have hj : c ≠ .junk ∧ ag = false ∧ cs = [c] := by
   cases c <;> simp [AVal.cells?] at hx <;> (obtain ⟨rfl, rfl⟩ := hx; simp)
  obtain ⟨h1, rfl, rfl⟩ := hj
  rcases hc with rfl | hc
  ·exact absurd rfl h1
  ·have hc' : RCl w G h [c] [v] := hc
   have h1 := (hc'.2 0 c v rfl rfl).1
   cases v <;> first | exact hc' | (simp [Value.oneCell'] at h1)
 | agg cs' =>
  simp [AVal.cells?] at hx
  obtain ⟨rfl, rfl⟩ := hx
  obtain ⟨vs, e, hl⟩ : ∃ vs : List Value, v = .agg vs.toArray ∧ RCl w G h cs' vs := hc
  subst e
  exact hl
 | tup xs => simp [AVal.cells?] at hx
theorem AVal.cells_ref {x : AVal} {ag : Bool} {cs : List ACell} (hx : x.cells? = some (ag, cs)) {c : ACell} (hc : c ∈ cs) {m : Nat} (hm : c.ref m) : x.ref m := by
 cases x with
 | one c' =>
  have hj : cs = [c'] := by
   cases c' <;> simp [AVal.cells?] at hx <;> exact hx.2.symm
  subst hj
  simp at hc
  subst hc
  exact hm
 | agg cs' =>
  simp [AVal.cells?] at hx
  obtain ⟨_, rfl⟩ := hx
  exact ⟨c, hc, hm⟩
 | tup xs => simp [AVal.cells?] at hx
theorem HR.takeEs {sz : Nat} : ∀ {xs : List AVal} {σ σ1 : St} {G : Gh} {tk : List PC} {es : List (List C)} {o : Bool} {vs : List Value}, HR B E w G σ.h σ.used tk → σ.takeEs sz xs = some (es, o, σ1) →
  vs.length = xs.length → (∀ (j : Nat) (x : AVal) (v : Value), xs[j]? = some x → vs[j]? = some v → RA w G σ.h x v) → (∀ x ∈ xs, ∀ m, x.ref m → σ.used m = true) →
  ∃ (Im' : Nat → Prop) (pes : List (List PC)), pes.map (fun e => e.map PC.er) = es ∧ pes.map (fun e => e.map PC.val) = vs.map (fun v => v.cells.toList) ∧ (∀ e ∈ pes, e.length = sz) ∧
   (∀ e ∈ pes, ∀ pc ∈ e, Good w pc ∧ ∀ b, InF b pc → Im' b) ∧
   HR B E w ⟨Im', G.g⟩ σ1.h σ.used (if o = true then tk ++ pes.flatten else tk) ∧ Keep w G σ.h (fun n => σ.used n = true) w ⟨Im', G.g⟩ σ1.h ∧ σ1.env = σ.env ∧ σ1.used = σ.used ∧
   (∀ n b, σ1.h n = some b → σ.h n = some b)
 | [], σ, σ1, G, tk, es, o, vs, H, hx, hl, hc, hr => by
  simp only [St.takeEs] at hx
  injection hx with hx
  injection hx with hx1 hx2
  injection hx2 with hx2 hx3
  subst hx1 hx2 hx3
  have : vs = [] := List.eq_nil_of_length_eq_zero (by simpa using hl)
  subst this
  exact ⟨G.Im, [], rfl, rfl, by simp, by simp, by simpa using H, Keep.refl _ _ _ _, rfl, rfl, fun _ _ h => h⟩
 | x :: xs, σ, σ2, G, tk, es, o, vs, H, hx, hl, hc, hr => by
  simp only [St.takeEs] at hx
  split at hx
  ·rename_i ag cs ecs
   split at hx
   ·rename_i hsz
    split at hx
    ·rename_i e o1 σ1 e1
     split at hx
     ·rename_i es' o2 σ2' e2
      injection hx with hx
      injection hx with hx1 hx2
      injection hx2 with hx2 hx3
      subst hx1 hx2 hx3
      match vs, hl with
      | v :: vs, hl =>
       have hcl := (hc 0 x v rfl rfl).cells ecs
       obtain ⟨Im1, pcs, a1, a2, a3, a5, a6, a7, a8, a9⟩ := H.takeL e1 hcl (fun c' hc' m hm => hr x (by simp) m (AVal.cells_ref ecs hc' hm))
       rw [← a8] at a5
       obtain ⟨Im2, pes, b1, b2, b3, b3', b4, b5, b6, b7, b8⟩ := HR.takeEs (xs := xs) (vs := vs) a5 e2 (by simpa using hl)
        (fun j x v h1 h2 => (hc (j + 1) x v h1 h2).keep a6 (fun m hm => hr x (by simp [List.mem_of_getElem? h1]) m hm)) (fun x' hx' m hm => by rw [a8]; exact hr x' (by simp [hx']) m hm)
       refine ⟨Im2, pcs :: pes, by simp [a1, b1], by simp [a2, b2], fun q hq => ?_, fun q hq pc hpc => ?_, ?_, Keep.trans (fun n hn => by rw [a8]; exact hn) a6 b5, b6.trans a7, b7.trans a8, fun n b hb => a9 n b (b8 n b hb)⟩
       ·cases hq with
        | head =>
         have : (pcs.map PC.er).length = (v.cells.toList).length := by rw [← a2]; simp
         have h2 := hcl.1
         simp at this
         simp at h2
         omega
        | tail _ hq => exact b3 q hq
       ·cases hq with
        | head => exact ⟨(a3 pc hpc).1, fun b hb => b5.im b ((a3 pc hpc).2 b hb)⟩
        | tail _ hq => exact b3' q hq pc hpc
       ·rw [a8] at b4
        cases o1 <;> cases o2 <;> simp at b4 ⊢
        ·exact b4
        ·exact b4.tkTake
        ·exact b4.tkTake
        ·exact b4
     ·cases hx
    ·cases hx
   ·cases hx
  ·cases hx
def InT (b : Nat) (pc : PC) : Prop := InF b pc ∨ ∃ sz o cap xs, pc = .list sz (some (ad b o)) cap xs ∧ cap ≠ 0
def TopOk (w : World) : PC → Prop
 | .list sz a cap xs => 0 < sz ∧ xs.length ≤ cap ∧ (cap = 0 ∨ ∃ b o cur e, a = some (ad b o) ∧ w.heap[b]? = some (.cells cur e (0, 0)) ∧ cur.size = o + cap * sz ∧ cap ≤ maxLen ∧ ∀ k j c, At xs k j c → ¬ InF b c)
 | _ => True
structure RetAll (w : World) (B' : Nat) (ps : List PC) : Prop where
 good : ∀ pc ∈ ps, Good w pc ∧ Sep pc ∧ TopOk w pc
 new : ∀ pc ∈ ps, ∀ b, InT b pc → B' ≤ b ∧ Unf w b
 dis : ∀ (i j : Nat) (pc pc' : PC) (b : Nat), i ≠ j → ps[i]? = some pc → ps[j]? = some pc' → InT b pc → ¬ InT b pc'
def retOne : K × List PC → Value
 | (.one, [pc]) => pc.val
 | (_, pcs) => .agg (pcs.map PC.val).toArray
def retVal : List (K × List PC) → Value
 | [p] => retOne p
 | l => .tuple (l.map retOne).toArray
def PureSpec (P : Program) (f : FuncId) (M : List Dv → Option (List Dv)) : Prop :=
 ∀ ds rs, M ds = some rs → ∀ (w : World) (vals : List Value), ArgsOk w ds vals → Calls P f vals.toArray w fun e w' =>
  ∃ prs : List (K × List PC), prs.map (fun p => (p.1, p.2.map PC.er)) = rs ∧ e = .returned (retVal prs) ∧ (∀ p ∈ prs, p.1 ≠ .ptr ∧ (p.1 = .one → p.2.length = 1)) ∧
   RetAll w' w.heap.size (prs.flatMap (·.2)) ∧ Fr w.heap.size Ex.no w w'
end
end Go.Am
end
section
namespace Go.Am
section
variable {B : Nat} {E : Ex} {w0 w w' : World} {G G' : Gh} {h h' : Nat → Option Blk} {used used' : Nat → Bool} {tk : List PC} {N : Nat}
def Lone (G : Gh) (h : Nat → Option Blk) (b : Nat) : Prop :=
 ¬ G.Im b ∧ (∀ n, h n ≠ none → (G.g n).nl = false → (G.g n).b ≠ b) ∧ ∀ n gr m sz xs, h n = some (.row gr m sz xs) → ¬ RowF b (G.g n).px
theorem HR.lone_new (H : HR B E w G h used tk) : Lone G h w.heap.size :=
 ⟨fun hi => Nat.lt_irrefl _ (H.imlt _ hi), fun n hn hl he => by have := (H.own n hn hl).2.2; omega, fun n gr m sz xs hn hb => Nat.lt_irrefl _ (H.rowF_lt hn hb)⟩
def NewOk (B : Nat) (E : Ex) (w w' : World) (G : Gh) (h : Nat → Option Blk) (p : PB) : Blk → Prop
 | .box cs => p.nl = false ∧ Unf w' p.b ∧ ∀ (j : Nat) (c : ACell), cs[j]? = some c → ∃ v, w'.cell? (ad p.b (p.o + j)) = some v ∧ v.oneCell' = true ∧ RC w G h c v
 | .row gr m sz xs => RowOk B E w' G gr m sz xs p
theorem Keep.insert (H : HR B E w G h used tk) {n : Nat} {blk : Blk} {p : PB} (hn : used n = false) (hw : ∀ b, b < w.heap.size → w'.heap[b]? = w.heap[b]?) :
  Keep w G h (fun n => used n = true) w' ⟨G.Im, upd G.g n p⟩ (upd h n (some blk)) := by
 have ne : ∀ m, used m = true → m ≠ n := fun m hm e => by subst e; rw [hn] at hm; cases hm
 refine ⟨fun _ h => h, fun b hb o => cell_congr (hw b (H.imlt b hb)) o, fun m hm h0 => ?_, fun m gr sz xs hm h0 => ?_⟩
 ·rw [upd_ne _ _ _ _ (ne m hm)] at h0
  simp only [upd_ne _ _ _ _ (ne m hm)]
  exact ⟨h0, trivial, trivial, trivial, trivial, trivial⟩
 ·rw [upd_ne _ _ _ _ (ne m hm)] at h0
  simp only [upd_ne _ _ _ _ (ne m hm)]
  exact ⟨⟨gr, xs, h0⟩, fun k j pc h1 h2 => ⟨pc, h1, rfl, h2⟩⟩
theorem HR.insert (H : HR B E w G h used tk) {n : Nat} {blk : Blk} {p : PB} (hn : used n = false) (hw : ∀ b, b < w.heap.size → w'.heap[b]? = w.heap[b]?) (hsz : w.heap.size ≤ w'.heap.size)
  (hl : p.nl = false → Lone G h p.b ∧ (B ≤ p.b ∨ E p.b) ∧ p.b < w'.heap.size)
  (hwf : ∀ cs c m, blk = .box cs → c ∈ cs → c.ref m → used m = true)
  (hblk : NewOk B E w w' G h p blk)
  (hcross : ∀ gr m sz xs, blk = .row gr m sz xs → m ≠ .bor → ∀ n' gr' m' sz' xs', h n' = some (.row gr' m' sz' xs') → m' ≠ .bor → ∀ b, RowF b p.px → ¬ RowF b (G.g n').px)
  (hlive : ∀ gr sz xs, blk = .row gr .live sz xs → ∀ b, RowF b p.px → (p.nl = false → b ≠ p.b) ∧ ∀ n', h n' ≠ none → (G.g n').nl = false → b ≠ (G.g n').b)
  (htk : ∀ gr m sz xs, blk = .row gr m sz xs → m ≠ .bor → ∀ (i : Nat) (pc : PC) (b : Nat), tk[i]? = some pc → InF b pc → ¬ RowF b p.px) :
  HR B E w' ⟨G.Im, upd G.g n p⟩ (upd h n (some blk)) (upd used n true) tk := by
 have K := Keep.insert H (blk := blk) (p := p) hn hw
 have hdom : h n = none := by
  cases hh : h n with
  | none => rfl
  | some b => have := H.dom n (by rw [hh]; simp); rw [hn] at this; cases this
 have hne : ∀ m, h m ≠ none → m ≠ n := fun m hm e => by subst e; exact hm hdom
 have hu : ∀ m, used m = true → upd used n true m = true := fun m hm => by
  simp only [upd_def]; split
  ·rfl
  ·exact hm
 refine H.put (fun b hb _ => hw b hb) hsz (fun b hb hU => hU.congr (hw b hb)) hu (upd_same _ _ _) (fun hp => ⟨(hl hp).1.1, (hl hp).2⟩) (fun hp m hm h0 hl0 => (hl hp).1.2.1 m h0 hl0)
  (fun hp m gr sz xs hm h0 b hb he => (hl hp).1.2.2 m gr _ sz xs h0 (he ▸ hb)) (fun cs c m hb hc hr => hu m (hwf cs c m hb hc hr)) K ?_
  (fun gr m sz xs hb hm n' gr' m' sz' xs' _ h0 => hcross gr m sz xs hb hm n' gr' m' sz' xs' h0) (fun gr sz xs hb b hbF => ⟨(hlive gr sz xs hb b hbF).1, fun n' _ => (hlive gr sz xs hb b hbF).2 n'⟩) htk
  (fun hp _ b hb he => by obtain ⟨m, gr, mo, sz, xs, _, h0, hbF⟩ := hb; exact (hl hp).1.2.2 m gr mo sz xs h0 (he ▸ hbF))
 cases blk with
 | box cs =>
  obtain ⟨a1, a2, a3⟩ := hblk
  refine ⟨a1, a2, fun j c hj => ?_⟩
  obtain ⟨v, b1, b2, b3⟩ := a3 j c hj
  exact ⟨v, b1, b2, b3.keep K fun m hm => hwf cs c m rfl (List.mem_of_getElem? hj) hm⟩
 | row gr m sz xs =>
  have hr : RowOk B E w' G gr m sz xs p := hblk
  exact ⟨hr.pos, hr.er, hr.nl, hr.lies, hr.room, by
   have := hr.mode
   cases m <;> exact this⟩
theorem R.put {σ : St} {a : Act} (r : R B E w0 N σ a w G) {x : AVal} {v : Value} (hv : RA w G σ.h x v) (hr : ∀ m, x.ref m → σ.used m = true) {d : Option Nat} (hd : ∀ n, d = some n → n < N) :
  R B E w0 N (σ.put d x) (a.put d v) w G := by
 cases d with
 | none => exact r
 | some n =>
  have hn := hd n rfl
  refine ⟨r.defers, by simp [Act.put, r.size], fun s => ?_, fun s m hm => ?_, r.hr, r.fr, r.pin, r.pinu⟩
  ·simp only [St.put, Act.put]
   by_cases hs : s = n
   ·subst hs
    rw [upd_same]
    have : (a.tmps.setIfInBounds s v).getD s undef = v := by
     simp [Array.getD_eq_getD_getElem?, r.size, hn]
    rw [this]
    exact hv
   ·rw [upd_ne _ _ _ _ hs]
    have : (a.tmps.setIfInBounds n v).getD s undef = a.tmps.getD s undef := by
     simp [Array.getD_eq_getD_getElem?, Array.getElem?_setIfInBounds_ne (Ne.symm hs)]
    rw [this]
    exact r.env s
  ·simp only [St.put] at hm ⊢
   by_cases hs : s = n
   ·subst hs; rw [upd_same] at hm; exact hr m hm
   ·rw [upd_ne _ _ _ _ hs] at hm; exact r.wfe s m hm
theorem R.step {σ : St} {a : Act} (r : R B E w0 N σ a w G) {σ' : St} (he : σ'.env = σ.env) (hu : ∀ m, σ.used m = true → σ'.used m = true) (K : Keep w G σ.h (fun n => σ.used n = true) w' G' σ'.h)
  (H : HR B E w' G' σ'.h σ'.used []) (F : Fr B E w0 w') : R B E w0 N σ' a w' G' :=
 ⟨r.defers, r.size, fun s => by rw [he]; exact (r.env s).keep K (fun m hm => r.wfe s m hm), fun s m hm => by rw [he] at hm; exact hu m (r.wfe s m hm), H, F,
  fun n p b hp hb => by
   have hun := r.pinu n (E.lt n p hp)
   obtain ⟨k0, k1, k2, k3, k4, k6⟩ := K.name n hun (by rw [hb]; simp)
   cases h0 : σ.h n with
   | none => exact absurd h0 k0
   | some b0 =>
    obtain ⟨p1, p2, p3, p4, p6, p5⟩ := r.pin n p b0 hp h0
    refine ⟨k1.trans p1, k2.trans p2, k3.trans p3, k4.trans p4, k6.trans p6, fun gr sz xs hbr k j pc hk hL => ?_⟩
    subst hbr
    obtain ⟨⟨gr0, xs0, e0⟩, hl⟩ := K.live n gr sz xs hun hb
    rw [h0] at e0
    injection e0 with e0
    obtain ⟨pc1, q1, q2, q3⟩ := p5 gr0 sz xs0 e0 k j pc hk hL
    obtain ⟨pc2, q4, q5, q6⟩ := hl k j pc1 q1 q3
    exact ⟨pc2, q4, q5.trans q2, q6⟩,
  fun n hn => hu n (r.pinu n hn)⟩
end
def chkC : Value → ACell → Bool
 | .int k n, .c (.int k' n') => decide (k = k') && decide (n = n')
 | .bool b, .c (.bool b') => decide (b = b')
 | .slice none 0 0, .nil sz => true
 | .pointer none, .junk => true
 | _, _ => false
def chkCs : List Value → List ACell → Bool
 | [], [] => true
 | v :: vs, c :: cs => chkC v c && chkCs vs cs
 | _, _ => false
def chkMO : Operand → MO → Bool
 | .tmp n, .t m => n == m
 | .const (.agg vs), .k (.agg cs) => chkCs vs.toList cs
 | .const v, .k (.one c) => chkC v c
 | _, _ => false
section
variable {B : Nat} {E : Ex} {w0 w w' : World} {G G' : Gh} {h h' : Nat → Option Blk} {used used' : Nat → Bool} {tk : List PC} {N : Nat}
theorem chkC_ok {v : Value} {c : ACell} (hc : chkC v c = true) : RC w G h c v ∧ v.oneCell' = true ∧ ∀ m, ¬ c.ref m := by
 unfold chkC at hc
 split at hc
 ·simp at hc
  obtain ⟨rfl, rfl⟩ := hc
  exact ⟨⟨.int _ _, rfl, rfl, .int _ _, fun b hb => by cases hb⟩, rfl, fun m hm => hm⟩
 ·simp at hc
  subst hc
  exact ⟨⟨.bool _, rfl, rfl, .bool _, fun b hb => by cases hb⟩, rfl, fun m hm => hm⟩
 ·exact ⟨rfl, rfl, fun m hm => hm⟩
 ·exact ⟨trivial, rfl, fun m hm => hm⟩
 ·cases hc
theorem chkCs_ok : ∀ {vs : List Value} {cs : List ACell}, chkCs vs cs = true → RCl w G h cs vs ∧ ∀ c ∈ cs, ∀ m, ¬ c.ref m
 | [], [], _ => ⟨⟨rfl, by simp⟩, by simp⟩
 | v :: vs, c :: cs, hc => by
  simp only [chkCs, Bool.and_eq_true] at hc
  obtain ⟨a1, a2, a3⟩ := chkC_ok (w := w) (G := G) (h := h) hc.1
  obtain ⟨⟨b1, b2⟩, b3⟩ := chkCs_ok hc.2
  refine ⟨⟨by simp [b1], fun j c' u hj hu => ?_⟩, fun c' hc' => ?_⟩
  ·cases j with
   | zero => simp at hj hu; subst hj; subst hu; exact ⟨a2, a1⟩
   | succ j => exact b2 j c' u (by simpa using hj) (by simpa using hu)
  ·cases hc' with
   | head => exact a3
   | tail _ hc' => exact b3 c' hc'
 | [], _ :: _, hc => by simp [chkCs] at hc
 | _ :: _, [], hc => by simp [chkCs] at hc
theorem RV.of_one {c : ACell} {v : Value} (h1 : v.oneCell' = true) (h2 : RC w G h c v) : RV w G h false [c] v := by
 show RCl w G h [c] [v]
 exact ⟨rfl, fun j c' u hj hu => by
  cases j with
  | zero => simp at hj hu; subst hj; subst hu; exact ⟨h1, h2⟩
  | succ j => simp at hj⟩
theorem RA.of_one {c : ACell} {v : Value} (h1 : v.oneCell' = true) (h2 : RC w G h c v) : RA w G h (.one c) v := .inr (RV.of_one h1 h2)
theorem R.ev {σ : St} {a : Act} (r : R B E w0 N σ a w G) {x : Operand} {m : MO} (hc : chkMO x m = true) : RA w G σ.h (σ.ev m) (a.eval x) ∧ ∀ n, (σ.ev m).ref n → σ.used n = true := by
 unfold chkMO at hc
 split at hc
 ·simp at hc
  subst hc
  exact ⟨r.env _, fun n hn => r.wfe _ n hn⟩
 ·rename_i vs cs
  obtain ⟨b1, b2⟩ := chkCs_ok (w := w) (G := G) (h := σ.h) hc
  exact ⟨⟨vs.toList, by simp [Act.eval], b1⟩, fun n hn => by obtain ⟨c, hc, hm⟩ := hn; exact absurd hm (b2 c hc n)⟩
 ·obtain ⟨a1, a2, a3⟩ := chkC_ok (w := w) (G := G) (h := σ.h) hc
  exact ⟨RA.of_one a2 a1, fun n hn => absurd hn (a3 n)⟩
 ·cases hc
theorem wp_value {P : Program} {o : Oper} {a : Act} {v : Value} {K : Act → World → Prop} {Q : Exit → Act → World → Prop} (hr : (execOp a.eval o).run P w = .ok (.value v) w') (hK : K (a.put o.dst v) w') : o.wp P a w K Q := by
 unfold Oper.wp
 rw [hr]
 exact hK
theorem wp_skipped {P : Program} {o : Oper} {a : Act} {K : Act → World → Prop} {Q : Exit → Act → World → Prop} (hr : (execOp a.eval o).run P w = .ok .skip w') (hK : K (a.put o.dst undef) w') : o.wp P a w K Q := by
 unfold Oper.wp
 rw [hr]
 exact hK
end
end Go.Am
end
section
namespace Go.Am
section
variable {B : Nat} {E : Ex} {w0 w w' : World} {G G' : Gh} {h h' : Nat → Option Blk} {used used' : Nat → Bool} {tk : List PC} {N : Nat}
variable {P : Program} {o : Oper} {a : Act} {σ σ' : St} {Q : Exit → Act → World → Prop}
def Nx (B : Nat) (E : Ex) (w0 : World) (N : Nat) (σ : St) : Act → World → Prop := fun a w => ∃ G, R B E w0 N σ a w G
theorem alloc_block (w : World) (ob : Obj) (b : Nat) (hb : b < w.heap.size) : (w.alloc ob).heap[b]? = w.heap[b]? := heap_alloc_old w ob b hb
theorem Unf.alloc (w : World) (arr : Array Value) (e : TypeId) : Unf (w.alloc (.cells arr e)) w.heap.size := ⟨arr, e, heap_alloc_new w _⟩
theorem ins_some {σ1 : St} {n : Nat} {b : Blk} (hx : σ.ins n b = some σ1) : σ.used n = false ∧ σ1 = { σ with h := upd σ.h n (some b), used := upd σ.used n true } := by
 unfold St.ins at hx
 split at hx
 ·cases hx
 ·rename_i hu
  injection hx with hx
  exact ⟨by simpa using hu, hx.symm⟩
theorem upd_used (n m : Nat) (hm : used m = true) : upd used n true m = true := by
 simp only [upd_def]; split
 ·rfl
 ·exact hm
theorem R.newBox (r : R B E w0 N σ a w G) {n : Nat} {cs : List ACell} {vs : List Value} {e : TypeId} (hn : σ.used n = false) (hc : RCl w G σ.h cs vs) (href : ∀ c ∈ cs, ∀ m, c.ref m → σ.used m = true) :
  ∃ G', R B E w0 N { σ with h := upd σ.h n (some (.box cs)), used := upd σ.used n true } a (w.alloc (.cells vs.toArray e)) G' ∧
   RA (w.alloc (.cells vs.toArray e)) G' (upd σ.h n (some (.box cs))) (.one (.ptr n 0 0 0)) (.pointer (some (ad w.heap.size 0))) := by
 have H := r.hr
 have hB := r.fr.size
 have hw := alloc_block w (.cells vs.toArray e)
 refine ⟨⟨G.Im, upd G.g n ⟨false, w.heap.size, 0, 0, [], none⟩⟩, r.step rfl (fun m hm => upd_used n m hm) (Keep.insert H hn hw) ?_ (r.fr.grow hw (by simp) rfl rfl rfl), ?_⟩
 ·refine H.insert hn hw (by simp) (fun _ => ⟨H.lone_new, .inl hB, by simp⟩) (fun cs' c m hb hc' hm => ?_) ⟨rfl, Unf.alloc _ _ _, fun j c hj => ?_⟩ (fun gr m sz xs hb => by cases hb) (fun gr sz xs hb => by cases hb) (fun gr m sz xs hb => by cases hb)
  ·injection hb with hb; subst hb; exact href c hc' m hm
  ·have hjl : j < vs.length := by rw [hc.1]; exact (List.getElem?_eq_some_iff.1 hj).1
   have hv : vs[j]? = some vs[j] := List.getElem?_eq_getElem hjl
   obtain ⟨q1, q2⟩ := hc.2 j c _ hj hv
   refine ⟨vs[j], ?_, q1, q2⟩
   simp only [Nat.zero_add]
   unfold ad
   rw [World.cell?_alloc_new]
   simp only [List.getElem?_toArray]; exact hv
 ·exact RA.of_one rfl fun _ => by simp [upd_same]
theorem ex_alloc (r : R B E w0 N σ a w G) {n : Nat} {e : TypeId} {i : TypeInfo} {z : Value} {zs : List ACell} {σ1 : St} (ho : o.op = .alloc e) (hd : o.dst = some n) (hN : n < N)
  (hi : P.info? e = some i) (hz : i.zero = some z) (hc : chkCs z.cells.toList zs = true) (hx : σ.ins n (.box zs) = some σ1) :
  o.wp P a w (Nx B E w0 N (σ1.put o.dst (.one (.ptr n 0 0 0)))) Q := by
 obtain ⟨hn, rfl⟩ := ins_some hx
 obtain ⟨hcl, href⟩ := chkCs_ok (w := w) (G := G) (h := σ.h) hc
 obtain ⟨G', r', hv⟩ := r.newBox (e := e) hn hcl (fun c hc m hm => absurd hm (href c hc m))
 have hrun : (execOp a.eval o).run P w = .ok (.value (.pointer (some (ad w.heap.size 0)))) (w.alloc (.cells z.cells.toList.toArray e)) := by
  simp [execOp, ho, Instr.alloc, zeroValue, typeInfo, hi, hz, newVar, newRow, ad]
 exact wp_value hrun ⟨G', r'.put hv (fun m hm => by have hm' : m = n := hm; subst hm'; exact upd_same _ _ _) (fun m hm => by rw [hd] at hm; injection hm with hm; omega)⟩
theorem ex_box (r : R B E w0 N σ a w G) {n : Nat} {e : TypeId} {x : Operand} {m : MO} {ag : Bool} {cs : List ACell} {σ1 : St} (ho : o.op = .box e x) (hd : o.dst = some n) (hN : n < N)
  (hm : chkMO x m = true) (hcs : (σ.ev m).cells? = some (ag, cs)) (hx : σ.ins n (.box cs) = some σ1) :
  o.wp P a w (Nx B E w0 N (σ1.put o.dst (.one (.ptr n 0 0 0)))) Q := by
 obtain ⟨hn, rfl⟩ := ins_some hx
 obtain ⟨hv, href⟩ := r.ev hm
 obtain ⟨G', r', hv'⟩ := r.newBox (e := e) hn (hv.cells hcs) (fun c hc q hq => href q (AVal.cells_ref hcs hc hq))
 have hrun : (execOp a.eval o).run P w = .ok (.value (.pointer (some (ad w.heap.size 0)))) (w.alloc (.cells (a.eval x).cells.toList.toArray e)) := by
  simp [execOp, ho, Instr.box, newVar, newRow, ad]
 exact wp_value hrun ⟨G', r'.put hv' (fun q hq => by have hq' : q = n := hq; subst hq'; exact upd_same _ _ _) (fun q hq => by rw [hd] at hq; injection hq with hq; omega)⟩
theorem at_flat {α : Type} {sz : Nat} : ∀ {px : List (List α)} (_ : ∀ e ∈ px, e.length = sz) {k j : Nat} {c : α}, At px k j c → px.flatten[k * sz + j]? = some c
 | [], _, k, j, c, hk => by obtain ⟨e, he, _⟩ := hk; simp at he
 | e :: px, hl, k, j, c, hk => by
  obtain ⟨e', he, hj⟩ := hk
  have h0 := hl e (by simp)
  cases k with
  | zero =>
   simp at he
   subst he
   have hjl := (List.getElem?_eq_some_iff.1 hj).1
   simp only [List.flatten_cons, Nat.zero_mul, Nat.zero_add]
   rw [List.getElem?_append_left hjl]
   exact hj
  | succ k =>
   have ih := at_flat (px := px) (fun e he => hl e (by simp [he])) (k := k) (j := j) (c := c) ⟨e', by simpa using he, hj⟩
   simp only [List.flatten_cons]
   rw [List.getElem?_append_right (by rw [h0, Nat.add_mul]; omega)]
   rw [show (k + 1) * sz + j - e.length = k * sz + j by rw [h0, Nat.add_mul]; omega]
   exact ih
structure OwnRow (B : Nat) (E : Ex) (w : World) (G : Gh) (h : Nat → Option Blk) (m : Mode) (pes : List (List PC)) : Prop where
 foot : ∀ b, RowF b pes → G.Im b ∧ Unf w b ∧ (B ≤ b ∨ E b)
 sep : RowSep pes
 cross : ∀ n gr m sz xs, h n = some (.row gr m sz xs) → m ≠ .bor → ∀ b, RowF b pes → ¬ RowF b (G.g n).px
 kind : m = .froz ∨ ∀ b, ¬ RowF b pes
theorem at_inj {α : Type} {sz : Nat} (hsz : 0 < sz) {pes : List (List α)} (hl : ∀ e ∈ pes, e.length = sz) {k j k' j' : Nat} {c c' : α} (h1 : At pes k j c) (h2 : At pes k' j' c') (hne : (k, j) ≠ (k', j')) : k * sz + j ≠ k' * sz + j' := by
 intro heq
 have hj : j < sz := by obtain ⟨e1, he, hj⟩ := h1; rw [← hl e1 (List.mem_of_getElem? he)]; exact (List.getElem?_eq_some_iff.1 hj).1
 have hj' : j' < sz := by obtain ⟨e1, he, hj⟩ := h2; rw [← hl e1 (List.mem_of_getElem? he)]; exact (List.getElem?_eq_some_iff.1 hj).1
 have hk : k = k' := by
  have h3 : (k * sz + j) / sz = k := by rw [Nat.mul_comm, Nat.mul_add_div hsz, Nat.div_eq_of_lt hj]; omega
  have h4 : (k' * sz + j') / sz = k' := by rw [Nat.mul_comm, Nat.mul_add_div hsz, Nat.div_eq_of_lt hj']; omega
  rw [heq] at h3
  omega
 subst hk
 exact hne (by rw [show j = j' by omega])
theorem HR.ownTk {pes : List (List PC)} {sz : Nat} (hsz : 0 < sz) (hl : ∀ e ∈ pes, e.length = sz) (H : HR B E w G h used pes.flatten) : OwnRow B E w G h .froz pes := by
 refine ⟨?_, ⟨fun k j c hk => (H.tkok _ c (at_flat hl hk)).1, fun k j c k' j' c' b hk hk' hne hb => H.tkdis _ _ c c' b (at_inj hsz hl hk hk' hne) (at_flat hl hk) (at_flat hl hk') hb⟩, ?_, .inl rfl⟩
 ·rintro b ⟨k, j, c, hk, hb⟩
  exact (H.tkok _ c (at_flat hl hk)).2 b hb
 ·rintro n gr m sz xs hn hm b ⟨k, j, c, hk, hb⟩
  exact H.tkrow _ c n gr m sz xs b (at_flat hl hk) hn hm hb
theorem Sep.of_noF {w : World} {q : PC} (hq : ∀ b, ¬ InF b q) (hg : Good w q) : Sep q := by
 induction hg with
 | int k n => exact .int k n
 | bool b => exact .bool b
 | nil sz a cap h => exact .list _ _ _ _ (by rintro k j c ⟨e, he, _⟩; simp at he) (by rintro b o k j c _ ⟨e, he, _⟩; simp at he) (by rintro k j c k' j' c' b ⟨e, he, _⟩; simp at he)
 | cons sz b o cap xs h1 h2 h3 h4 h5 h6 ih => exact absurd (.here _ _ _ _ h1) (hq b)
theorem OwnRow.of_noF {m : Mode} {pes : List (List PC)} (hno : ∀ b, ¬ RowF b pes) (hg : ∀ k j c, At pes k j c → Good w c) : OwnRow B E w G h m pes :=
 ⟨fun b hb => absurd hb (hno b), ⟨fun k j c hk => Sep.of_noF (fun b hb => hno b ⟨k, j, c, hk, hb⟩) (hg k j c hk), fun k j c k' j' c' b hk _ _ hb => absurd ⟨k, j, c, hk, hb⟩ (hno b)⟩, fun n gr m sz xs _ _ b hb => absurd hb (hno b), .inr hno⟩
theorem R.newRow (r : R B E w0 N σ a w G) {Im' : Nat → Prop} {σ1 : St} (H : HR B E w ⟨Im', G.g⟩ σ1.h σ.used []) (K : Keep w G σ.h (fun n => σ.used n = true) w ⟨Im', G.g⟩ σ1.h)
  (henv : σ1.env = σ.env) (hus : σ1.used = σ.used)
  {n : Nat} {m : Mode} {sz cap : Nat} {pes : List (List PC)} {arr : Array Value} {e : TypeId} (hn : σ.used n = false) (hsz : 0 < sz) (hl : ∀ e ∈ pes, e.length = sz)
  (hgood : ∀ k j c, At pes k j c → Good w c ∧ ∀ b, InF b c → Im' b) (harr : ∀ k j c, At pes k j c → arr[k * sz + j]? = some c.val) (hcap : pes.length ≤ cap) (hmax : cap ≤ maxLen) (hsize : arr.size = cap * sz)
  (hm : m = .bor ∨ OwnRow B E w ⟨Im', G.g⟩ σ1.h m pes) :
  ∃ G', R B E w0 N { σ1 with h := upd σ1.h n (some (.row true m sz (pes.map fun e => e.map PC.er))), used := upd σ1.used n true } a (w.alloc (.cells arr e)) G' ∧
   RA (w.alloc (.cells arr e)) G' (upd σ1.h n (some (.row true m sz (pes.map fun e => e.map PC.er)))) (.one (.sl n sz 0 pes.length)) (.slice (some (ad w.heap.size 0)) pes.length cap) := by
 have hB := r.fr.size
 have hw := alloc_block w (.cells arr e)
 have Hnew : HR B E (w.alloc (.cells arr e)) ⟨Im', upd G.g n ⟨false, w.heap.size, 0, cap, pes, none⟩⟩ (upd σ1.h n (some (.row true m sz (pes.map fun e => e.map PC.er)))) (upd σ.used n true) [] := by
  refine H.insert (p := ⟨false, w.heap.size, 0, cap, pes, none⟩) hn hw (by simp) (fun _ => ⟨H.lone_new, .inl hB, by simp⟩) (fun cs c m hb => by cases hb) ?_ ?_ ?_ (fun gr m sz xs _ _ i pc b hi => by simp at hi)
  ·refine ⟨hsz, rfl, (fun hl => by cases hl), fun _ => ⟨Unf.alloc _ _ _, ⟨hl, fun k j c hk => ?_, fun k j c hk => ?_⟩, hcap⟩, fun _ _ => ⟨hmax, arr, e, heap_alloc_new w _, (Nat.zero_add _).symm ▸ hsize⟩, ?_⟩
   ·simp only [Nat.zero_add]
    unfold ad
    rw [World.cell?_alloc_new]
    exact harr k j c hk
   ·exact (hgood k j c hk).1.congr fun b hb o => cell_congr (hw b (H.imlt b ((hgood k j c hk).2 b hb))) o
   ·have hfoot : m ≠ .bor → (∀ b, RowF b pes → Im' b ∧ Unf (w.alloc (.cells arr e)) b ∧ (B ≤ b ∨ E b)) ∧ RowSep pes := fun hmb =>
     ⟨fun b hb => by
      have hO := hm.resolve_left hmb
      obtain ⟨q1, q2, q3⟩ := hO.foot b hb
      exact ⟨q1, q2.congr (hw b (H.imlt b q1)), q3⟩, (hm.resolve_left hmb).sep⟩
    cases m with
    | bor =>
     rintro b ⟨k, j, c, hk, hb⟩
     exact (hgood k j c hk).2 b hb
    | froz => exact hfoot (by simp)
    | live =>
     have hO := hm.resolve_left (by simp)
     have hno := hO.kind.resolve_left (by simp)
     exact ⟨fun b hb => absurd hb (hno b), hO.sep⟩
  ·intro gr m' sz' xs' hb hmb n' gr' mo' sz2 xs2 h0 hmo b hbF
   injection hb with _ hb _ _
   subst hb
   exact (hm.resolve_left hmb).cross n' gr' mo' sz2 xs2 h0 hmo b hbF
  ·intro gr sz' xs' hb b hbF
   injection hb with _ hb _ _
   subst hb
   exact absurd hbF ((hm.resolve_left (by simp)).kind.resolve_left (by simp) b)
 have K2 := Keep.trans (u2 := fun n => σ.used n = true) (fun _ h => h) K (Keep.insert H (blk := .row true m sz (pes.map fun e => e.map PC.er)) (p := ⟨false, w.heap.size, 0, cap, pes, none⟩) hn hw)
 refine ⟨⟨Im', upd G.g n ⟨false, w.heap.size, 0, cap, pes, none⟩⟩, r.step henv (fun m hm => by rw [hus]; exact upd_used n m hm) K2 (by rw [hus]; exact Hnew) (r.fr.grow hw (by simp) rfl rfl rfl), ?_⟩
 refine RA.of_one rfl fun _ => .inr ⟨by simp [upd_same], some (ad w.heap.size 0), ?_, ?_, ?_⟩
 ·simp [upd_same]
 ·simp [upd_same]; omega
 ·simp [upd_same]
end
end Go.Am
end
