/- AmT: many elements of a row of ints are written at once. No condition. -/
import Derived.Test.YtbogogbogdafiaaAmS
set_option linter.unusedVariables false
namespace Go.Am
section
variable {B : Nat} {E : Ex} {w0 w w' : World} {G G' : Gh} {N : Nat} {h h' : Nat → Option Blk} {used : Nat → Bool}
variable {P : Program} {o : Oper} {a : Act} {σ σ' : St} {Q : Exit → Act → World → Prop}
theorem R.fill1 (r : R B E w0 N σ a w G) {n : Nat} {gr : Bool} {m : Mode} {xs : List (List C)} (hn : σ.h n = some (.row gr m 1 xs)) (hm : m ≠ .bor) (hs : scalLL xs = true) (hnl : (G.g n).nl = false) {lo : Nat} {pe : List PC}
  (hes : ∀ c ∈ pe, c.er.scal = true) (hfit : lo + pe.length ≤ xs.length) {cur : Array Value} {et : TypeId} (hg : w.heap[(G.g n).b]? = some (.cells cur et (0, 0))) (hcur : (G.g n).o + lo + pe.length ≤ cur.size) :
  ∃ G', R B E w0 N (σ.setB n (.row gr m 1 (splice xs lo (pe.map fun c => [c.er])))) a (wSet w (G.g n).b ((G.g n).o + lo) (pe.map PC.val) cur) G' := by
 have H := r.hr
 have hr := H.row n gr m 1 xs hn
 have hn0 : σ.h n ≠ none := by rw [hn]; simp
 obtain ⟨ho1, ho2, ho3⟩ := H.own n hn0 hnl
 obtain ⟨l1, l2, l3⟩ := hr.lies hnl
 have hxl : xs.length = (G.g n).px.length := by rw [hr.er, List.length_map]
 have hs' := hs
 rw [hr.er] at hs'
 have her := hr.er
 generalize hpx : (G.g n).px = px at *
 have hfp : lo + (pe.map fun c => [c]).length ≤ px.length := by rw [List.length_map]; omega
 have hus : (pe.map PC.val).length = pe.length := List.length_map _
 have hcur' : (G.g n).o + lo + (pe.map PC.val).length ≤ cur.size := by rw [hus]; exact hcur
 have key : ∀ k j c, At (splice px lo (pe.map fun c => [c])) k j c → j = 0 ∧ ((lo ≤ k ∧ k < lo + pe.length ∧ pe[k - lo]? = some c) ∨ (¬ (lo ≤ k ∧ k < lo + pe.length) ∧ At px k j c)) := by
  rintro k j c ⟨e, he, hj⟩
  rw [splice_get hfp, List.length_map] at he
  by_cases hin : lo ≤ k ∧ k < lo + pe.length
  ·rw [if_pos hin, List.getElem?_map] at he
   cases hp : pe[k - lo]? with
   | none => rw [hp] at he; cases he
   | some c0 =>
    rw [hp] at he
    injection he with he
    subst he
    cases j with
    | zero => simp at hj; subst hj; exact ⟨rfl, .inl ⟨hin.1, hin.2, rfl⟩⟩
    | succ j => simp at hj
  ·rw [if_neg hin] at he
   have hel := l2.1 e (List.mem_of_getElem? he)
   have := (List.getElem?_eq_some_iff.1 hj).1
   exact ⟨by omega, .inr ⟨hin, e, he, hj⟩⟩
 have hscal : ∀ k j c, At (splice px lo (pe.map fun c => [c])) k j c → c.er.scal = true := by
  intro k j c hk
  rcases (key k j c hk).2 with ⟨_, _, h1⟩ | ⟨_, e, he, hj⟩
  ·exact hes c (List.mem_of_getElem? h1)
  ·have h6 := List.all_eq_true.1 hs' (e.map PC.er) (by simp only [List.mem_map]; exact ⟨e, List.mem_of_getElem? he, rfl⟩)
   exact List.all_eq_true.1 h6 c.er (by simp only [List.mem_map]; exact ⟨c, List.mem_of_getElem? hj, rfl⟩)
 generalize hw' : wSet w (G.g n).b ((G.g n).o + lo) (pe.map PC.val) cur = w'
 have hwo : ∀ b', b' ≠ (G.g n).b → w'.heap[b']? = w.heap[b']? := fun b' hb' => by rw [← hw']; exact wSet_other b' hb'
 have hcz : ∀ b', Cz w w' b' := fun b' => by
  by_cases hb : b' = (G.g n).b
  ·subst hb; rw [← hw']; exact wSet_cz hg hcur'
  ·exact Cz.of_eq (hwo b' hb)
 have hsize : w.heap.size ≤ w'.heap.size := by rw [← hw', wSet_size]; exact Nat.le_refl _
 have hchg : Chg w' (G.g n) { G.g n with px := splice px lo (pe.map fun c => [c]) } gr m 1 (splice xs lo (pe.map fun c => [c.er])) := by
  refine ⟨hm, .inl (by rw [hpx]; exact flat_noF hs'), rfl, rfl, rfl, rfl, rfl, ?_, (fun h => by rw [hnl] at h; cases h), fun _ => ⟨⟨fun e he => ?_, fun k j c hk => ?_, fun k j c hk => Good.of_scal (hscal k j c hk)⟩, by show (splice px lo _).length ≤ _; rw [splice_length hfp]; exact l3⟩,
   ⟨fun k j c hk => (Sep.of_scal (hscal k j c hk)).1, fun k j c k' j' c' b hk _ _ hb => absurd hb ((Sep.of_scal (hscal k j c hk)).2 b)⟩, fun b ⟨k, j, c, hk, hb⟩ => absurd hb ((Sep.of_scal (hscal k j c hk)).2 b), fun _ k j pc hk hL => ?_⟩
  ·show splice xs lo _ = (splice px lo _).map _
   rw [splice_map, ← her, List.map_map]
   rfl
  ·obtain ⟨k, hk⟩ := List.getElem?_of_mem he
   have hk' : (splice px lo (pe.map fun c => [c]))[k]? = some e := hk
   rw [splice_get hfp] at hk'
   split at hk'
   ·rw [List.getElem?_map] at hk'
    cases hp : pe[k - lo]? with
    | none => rw [hp] at hk'; cases hk'
    | some c0 => rw [hp] at hk'; injection hk' with hk'; rw [← hk']; rfl
   ·exact l2.1 e (List.mem_of_getElem? hk')
  ·obtain ⟨rfl, h1⟩ := key k j c hk
   rw [← hw', wSet_cell hg hcur']
   rcases h1 with ⟨h1, h2, h3⟩ | ⟨h1, h2⟩
   ·rw [if_pos (by rw [hus]; omega), show (G.g n).o + k * 1 + 0 - ((G.g n).o + lo) = k - lo by omega, List.getElem?_map, h3]
    rfl
   ·rw [if_neg (by rw [hus]; omega)]
    exact l2.2.1 _ _ _ h2
  ·rw [hpx] at hk
   have := flat_noL hs' hk
   rw [hL] at this; cases this
 obtain ⟨HR', K, _⟩ := H.mutate (G' := ⟨G.Im, upd G.g n { G.g n with px := splice px lo (pe.map fun c => [c]) }⟩) (h' := upd σ.h n (some (.row gr m 1 (splice xs lo (pe.map fun c => [c.er]))))) (w' := w') (S := fun q => q = n) hsize
  (fun b' hb' hno => hwo b' (by rintro rfl; exact hno n rfl (.inl ⟨hnl, rfl⟩))) (fun b' _ => hcz b') rfl
  (fun q hq => by subst hq; exact ⟨gr, m, 1, xs, _, hn, upd_same _ _ _, by simp only [upd_same]; exact hchg⟩)
  (fun q hq => ⟨upd_ne _ _ _ _ hq, upd_ne _ _ _ _ hq⟩)
 exact ⟨_, r.step (σ' := σ.setB n (.row gr m 1 (splice xs lo (pe.map fun c => [c.er])))) rfl (fun _ h => h) K HR' (r.fr.one ho2 (fun b' _ hne => hwo b' hne) hsize (hcz _) (by rw [← hw']; rfl) (by rw [← hw']; rfl) (by rw [← hw']; rfl))⟩
end
end Go.Am