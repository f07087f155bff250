/- AmS: pointers into lists of live rows. No condition. -/
import Derived.Test.YtbogogbogdafiaaAmO
set_option linter.unusedVariables false
namespace Go.Am
section
variable {B : Nat} {E : Ex} {w0 w w' : World} {G G' : Gh} {N : Nat} {h h' : Nat → Option Blk} {used : Nat → Bool}
variable {P : Program} {o : Oper} {a : Act} {σ σ' : St} {Q : Exit → Act → World → Prop}
theorem viewC_nsl {n k rsz off sz len : Nat} {x : C} (hx : viewC h (.nsl n k rsz off sz len) = some x) : ∃ gr xs, h n = some (.row gr .live rsz xs) ∧ (xs[k]?).bind (·[off]?) = some x := by
 simp only [Am.viewC] at hx
 split at hx
 ·rename_i gr rs xs hn
  split at hx
  ·rename_i hc
   subst hc
   exact ⟨gr, xs, hn, hx⟩
  ·cases hx
 ·cases hx
theorem HR.nested (H : HR B E w G h used []) {n k off rsz : Nat} {gr : Bool} {xs : List (List C)} (hn : h n = some (.row gr .live rsz xs)) {pc : PC} (hat : At (G.g n).px k off pc) :
  (G.g n).nl = false ∧ Good w pc ∧ (xs[k]?).bind (·[off]?) = some pc.er := by
 have hr := H.row n gr .live rsz xs hn
 have hnl : (G.g n).nl = false := by
  cases hq : (G.g n).nl with
  | false => rfl
  | true => obtain ⟨e, he, _⟩ := hat; rw [(hr.nl hq).1] at he; simp at he
 refine ⟨hnl, (hr.lies hnl).2.1.2.2 _ _ _ hat, ?_⟩
 obtain ⟨e, he, hj⟩ := hat
 rw [hr.er]
 simp [he, hj]
theorem ex_idxN (r : R B E w0 N σ a w G) {t e : TypeId} {i : TypeInfo} {x y : Operand} {mx my : MO} {n k rsz off sz sz' len : Nat} {q : Int} {ys : List (List C)} (ho : o.op = .indexAddr t x y) (hN : ∀ n, o.dst = some n → n < N) (hm1 : chkMO x mx = true) (hm2 : chkMO y my = true)
  (ht : P.underlying t = some (.slice e)) (hi : P.info? e = some i) (hsz : i.size = sz) (hq : (σ.ev my).int? = some q) (h0 : 0 ≤ q) (h1 : q < (ys.length : Int))
  (hx : σ.ev mx = .one (.nsl n k rsz off sz' len)) (hv : viewC σ.h (.nsl n k rsz off sz' len) = some (.list sz ys)) :
  o.wp P a w (Nx B E w0 N (σ.put o.dst (.one (.nptr n k rsz off sz q.toNat)))) Q := by
 obtain ⟨x1, x2⟩ := r.ev hm1
 obtain ⟨kk, ey⟩ := (r.ev hm2).1.int hq
 rw [hx] at x1 x2
 obtain ⟨gr, xs, hn, hb⟩ := viewC_nsl hv
 obtain ⟨pc, p1, p2, p3⟩ := (x1.oneRC (by simp)).1 gr xs hn
 obtain ⟨g1, g2, g3⟩ := r.hr.nested hn p1
 rw [hb] at g3
 injection g3 with g3
 cases pc with
 | int k n => simp [PC.er] at g3
 | bool b => simp [PC.er] at g3
 | list s' ya c py =>
  rw [PC.er_list] at g3
  injection g3 with e1 e2
  subst e1
  have hl : ys.length = py.length := by rw [e2]; simp
  have hq' : q < (py.length : Int) := by omega
  have hv0 : PC.val (.list sz ya c py) = .slice ya py.length c := rfl
  generalize hgen : PC.list sz ya c py = p at g2
  cases g2 with
  | int k n => cases hgen
  | bool b => cases hgen
  | nil _ _ _ _ => injection hgen with _ _ _ e4; subst e4; simp at hq'; omega
  | cons _ b oo _ _ q1 q2 q3 q4 q5 q6 =>
   injection hgen with f1 f2 f3 f4
   subst f1 f2 f3 f4
   refine ex_val r (v := .pointer (some (ad b (oo + q.toNat * sz)))) ?_ ?_ (fun m hm => x2 m hm) hN
   ·simp only [execOp, ho, ← p2, PC.val, ey]
    simp [run_idx ht hi hsz h0 hq']
   ·refine RA.of_one rfl fun gr' xs' hn' => ?_
    exact ⟨_, b, oo, py.length, c, p1, rfl, rfl, rfl⟩
theorem dataL_ok : ∀ {vs : List ACell} {cs : List C} {us : List Value}, dataL vs = some cs → RCl w G h vs us → ∃ pe : List PC, pe.map PC.er = cs ∧ pe.map PC.val = us ∧ pe.length = vs.length ∧ ∀ c ∈ pe, c.er.scal = true
 | [], cs, us, hx, hr => by
  simp only [dataL] at hx
  injection hx with hx
  subst hx
  have : us = [] := List.eq_nil_of_length_eq_zero hr.1
  subst this
  exact ⟨[], rfl, rfl, rfl, by simp⟩
 | c :: vs, cs, us, hx, hr => by
  match us, hr with
  | [], hr => exact absurd hr.1 (by simp)
  | u :: us, hr =>
  cases c with
  | c x =>
   simp only [dataL] at hx
   split at hx
   ·rename_i hs
    cases hd : dataL vs with
    | none => rw [hd] at hx; cases hx
    | some l =>
     rw [hd] at hx
     injection hx with hx
     subst hx
     obtain ⟨pe, e1, e2, e3, e4⟩ := dataL_ok (us := us) hd ⟨by have := hr.1; simpa using this, fun j c u hj hu => hr.2 (j + 1) c u (by simpa using hj) (by simpa using hu)⟩
     obtain ⟨_, pc, q1, q2, _⟩ := hr.2 0 _ u rfl rfl
     refine ⟨pc :: pe, by simp [e1, q1], by simp [e2, q2], by simp [e3], fun c hc => ?_⟩
     rcases List.mem_cons.1 hc with rfl | hc
     ·rw [q1]; exact hs
     ·exact e4 c hc
   ·cases hx
  | nil _ => simp [dataL] at hx
  | ptr _ _ _ _ => simp [dataL] at hx
  | dptr _ _ => simp [dataL] at hx
  | sl _ _ _ _ => simp [dataL] at hx
  | nsl _ _ _ _ _ _ => simp [dataL] at hx
  | nptr _ _ _ _ _ _ => simp [dataL] at hx
  | fn _ _ => simp [dataL] at hx
  | junk => simp [dataL] at hx
theorem Good.of_scal {c : PC} (hs : c.er.scal = true) : Good w c := by
 cases c with
 | int k n => exact .int k n
 | bool b => exact .bool b
 | list s a cap xs => rw [PC.er_list] at hs; cases hs
theorem ex_store_nest (r : R B E w0 N σ a w G) {t : TypeId} {i : TypeInfo} {x y : Operand} {mx my : MO} {sz n k rs off s j : Nat} {ag gr : Bool} {xs xs' : List (List C)} {vs : List ACell} (ho : o.op = .store t x y) (hd : o.dst = none) (hm1 : chkMO x mx = true) (hm2 : chkMO y my = true)
  (hi : P.info? t = some i) (hsz : i.size = sz) (hsz0 : 0 < sz) (hp : σ.ev mx = .one (.nptr n k rs off s j)) (hv : (σ.ev my).cells? = some (ag, vs)) (hl : vs.length = sz) (hn : σ.h n = some (.row gr .live rs xs))
  (hx : setNest xs k off s j vs = some xs') : o.wp P a w (Nx B E w0 N (σ.setB n (.row gr .live rs xs'))) Q := by
 have H := r.hr
 obtain ⟨x1, _⟩ := r.ev hm1
 obtain ⟨y1, y2⟩ := r.ev hm2
 rw [hp] at x1
 obtain ⟨pc, b, oo, len, cap, p1, p2, p3, p4⟩ := (x1.oneRC (by simp)).1 gr xs hn
 obtain ⟨hnl, g2, g3⟩ := H.nested hn p1
 have hr := H.row n gr .live rs xs hn
 unfold setNest at hx
 rw [g3] at hx
 have hcl := y1.cells hv
 have hul : (a.eval y).cells.toList.length = sz := by rw [hcl.1, hl]
 cases pc with
 | int kk nn => simp [PC.er] at hx
 | bool bb => simp [PC.er] at hx
 | list s' ya c py =>
 rw [PC.er_list] at hx
 simp only at hx
 split at hx
 ·rename_i hcond
  obtain ⟨rfl, hvs, hj, hsc⟩ := hcond
  cases hdl : dataL vs with
  | none => rw [hdl] at hx; cases hx
  | some cs =>
  rw [hdl] at hx
  injection hx with hx
  obtain ⟨pe, e1, e2, e3, e4⟩ := dataL_ok hdl hcl
  have hj : j < py.length := by simpa using hj
  have hpel : pe.length = s' := by omega
  have hval : PC.val (.list s' ya c py) = .slice ya py.length c := rfl
  rw [hval] at p2
  injection p2 with f1 f2 f3
  subst f1 f2 f3
  generalize hgen : PC.list s' (some (ad b oo)) c py = p at g2
  cases g2 with
  | int k n => cases hgen
  | bool b => cases hgen
  | nil _ _ _ _ => injection hgen with _ _ _ e4; subst e4; simp at hj
  | cons _ b' oo' _ _ q1 q2 q3 q4 q5 q6 =>
  injection hgen with f1 f2 f3 f4
  injection f2 with f2
  obtain ⟨rfl, rfl⟩ := ad_inj f2
  subst f1 f3 f4
  have hin : InF b (PC.list s' (some (ad b oo)) c py) := .here _ _ _ _ q1
  have hF : RowF b (G.g n).px := ⟨k, off, _, p1, hin⟩
  obtain ⟨hnIm, ⟨cur, et, hg⟩, hBE⟩ := hr.mode.1 b hF
  have hfit : oo + j * s' + (a.eval y).cells.toList.length ≤ cur.size := by
   have h2 : (py[j]'hj).length = s' := q4 _ (List.getElem_mem hj)
   have hc := q5 j (s' - 1) ((py[j]'hj)[s' - 1]'(by omega)) ⟨_, List.getElem?_eq_getElem hj, List.getElem?_eq_getElem _⟩
   have := cell_fit hg hc
   omega
  have hscal : ∀ k' j' c', At (py.set j pe) k' j' c' → c'.er.scal = true := by
   intro k' j' c' h
   rcases at_set hj h with ⟨rfl, h1⟩ | ⟨_, h1⟩
   ·exact e4 c' (List.mem_of_getElem? h1)
   ·obtain ⟨e, he, hj'⟩ := h1
    have h6 := List.all_eq_true.1 hsc (e.map PC.er) (by simp only [List.mem_map]; exact ⟨e, List.mem_of_getElem? he, rfl⟩)
    exact List.all_eq_true.1 h6 c'.er (by simp only [List.mem_map]; exact ⟨c', List.mem_of_getElem? hj', rfl⟩)
  have hne : py.set j pe ≠ [] := by
   intro h
   have := congrArg List.length h
   simp at this
   rw [this] at hj
   simp at hj
  have hel : ∀ e ∈ py.set j pe, e.length = s' := by
   intro e he
   rcases List.mem_or_eq_of_mem_set he with he | rfl
   ·exact q4 e he
   ·exact hpel
  generalize hw' : wSet w b (oo + j * s') (a.eval y).cells.toList cur = w'
  have A : MAfter w' .froz (PC.list s' (some (ad b oo)) c py) (PC.list s' (some (ad b oo)) c (py.set j pe)) := by
   refine ⟨by simp [PC.val], .cons _ _ _ _ _ hne (by simpa using q2) q3 hel (fun k' j' c' h => ?_) (fun k' j' c' h => Good.of_scal (hscal k' j' c' h)), .list _ _ _ _ (fun k' j' c' h => (Sep.of_scal (hscal k' j' c' h)).1) (fun b' o' k' j' c' _ h => (Sep.of_scal (hscal k' j' c' h)).2 b')
    (fun k1 j1 c1 k2 j2 c2 b' h _ _ hb => absurd hb ((Sep.of_scal (hscal k1 j1 c1 h)).2 b')), fun b' hb' => ?_, ?_, fun sz0 a0 cap0 xs0 sz1 a1 cap1 xs1 h1 h2 => ?_⟩
   ·have hjs : j' < s' := by
     obtain ⟨e, he, hj'⟩ := h
     have := hel e (List.mem_of_getElem? he)
     have := (List.getElem?_eq_some_iff.1 hj').1
     omega
    rw [← hw', wSet_cell hg hfit]
    rcases at_set hj h with ⟨rfl, h1⟩ | ⟨hkk, h1⟩
    ·rw [if_pos (by omega), show oo + k' * s' + j' - (oo + k' * s') = j' by omega, ← e2, List.getElem?_map, h1]
     rfl
    ·rw [if_neg]
     ·exact q5 _ _ _ h1
     ·rintro ⟨u1, u2⟩
      rcases Nat.lt_or_gt_of_ne hkk with hlt | hgt
      ·have : (k' + 1) * s' ≤ j * s' := Nat.mul_le_mul_right _ hlt
       rw [Nat.add_mul] at this
       omega
      ·have : (j + 1) * s' ≤ k' * s' := Nat.mul_le_mul_right _ hgt
       rw [Nat.add_mul] at this
       omega
   ·rw [InF.list_iff] at hb' ⊢
    rcases hb' with ⟨_, h2⟩ | ⟨k', j', c', h1, h2⟩
    ·exact .inl ⟨q1, h2⟩
    ·exact absurd h2 ((Sep.of_scal (hscal k' j' c' h1)).2 b')
   ·rw [PC.er_list]
    show scalLL _ = true
    rw [scalLL, List.all_eq_true]
    intro e he
    obtain ⟨e0, he0, rfl⟩ := List.mem_map.1 he
    rw [scalL, List.all_eq_true]
    intro c0 hc0
    obtain ⟨c1, hc1, rfl⟩ := List.mem_map.1 hc0
    obtain ⟨k', hk'⟩ := List.getElem?_of_mem he0
    obtain ⟨j', hj'⟩ := List.getElem?_of_mem hc1
    exact hscal k' j' c1 ⟨e0, hk', hj'⟩
   ·injection h1 with a1 a2 a3 a4
    injection h2 with b1 b2 b3 b4
    subst a1 a2 a3 a4 b1 b2 b3 b4
    exact ⟨rfl, rfl, rfl, by simp, fun h => by cases h⟩
  have hwo : ∀ b', b' ≠ b → w'.heap[b']? = w.heap[b']? := fun b' hb' => by rw [← hw']; exact wSet_other b' hb'
  have hcz : ∀ b', Cz w w' b' := fun b' => by
   by_cases hb : b' = b
   ·subst hb; rw [← hw']; exact wSet_cz hg hfit
   ·exact Cz.of_eq (hwo b' hb)
  have hsize : w.heap.size ≤ w'.heap.size := by rw [← hw', wSet_size]; exact Nat.le_refl _
  have hn0 : σ.h n ≠ none := by rw [hn]; simp
  have hbn : (G.g n).b ≠ b := fun h => H.live n gr rs xs hn b hF n hn0 hnl h.symm
  obtain ⟨ex, hex⟩ : ∃ ex, xs[k]? = some ex := by
   cases h : xs[k]? with
   | none => rw [h] at g3; cases g3
   | some ex => exact ⟨ex, rfl⟩
  have hxs' : xs' = xs.set k (ex.set off (PC.list s' (some (ad b oo)) c (py.set j pe)).er) := by
   rw [← hx, PC.er_list, List.map_set, e1, List.getD_eq_getElem?_getD, hex]
   rfl
  have hchg := chg_nest H hn p1 rfl (fun _ => hwo _ hbn) (fun k' j' c' h1 h2 b' hb' => hwo b' (by rintro rfl; exact hr.mode.2.2 _ _ _ _ _ _ b' h1 p1 h2 hb' hin)) A hex
  obtain ⟨HR', K, _⟩ := H.mutate (G' := ⟨G.Im, upd G.g n (newPB (G.g n) (.nest n k off) (PC.list s' (some (ad b oo)) c (py.set j pe)))⟩) (h' := upd σ.h n (some (.row gr .live rs xs'))) (w' := w') (S := fun m => m = n) hsize
   (fun b' hb' hno => hwo b' (by rintro rfl; exact hno n rfl (.inr hF))) (fun b' _ => hcz b') rfl
   (fun m hm => by subst hm; exact ⟨gr, .live, rs, xs, xs', hn, upd_same _ _ _, by simp only [upd_same]; rw [hxs']; exact hchg⟩)
   (fun m hm => ⟨upd_ne _ _ _ _ hm, upd_ne _ _ _ _ hm⟩)
  have r' := r.step (σ' := σ.setB n (.row gr .live rs xs')) rfl (fun _ h => h) K HR' (r.fr.one hBE (fun b' _ hne => hwo b' hne) hsize (hcz b) (by rw [← hw']; rfl) (by rw [← hw']; rfl) (by rw [← hw']; rfl))
  have hrun := run_storeVar (P := P) (w := w) (t := t) (i := i) (b := b) (off := oo + j * s') (v := a.eval y) (cur := cur) (e := et) hi (by rw [hsz, ← hul]; simp) hg (by simpa using hfit) (fun u hu => by
   obtain ⟨j, hj, hju⟩ := List.getElem_of_mem hu
   have hjc : j < vs.length := by omega
   exact (hcl.2 j _ u (List.getElem?_eq_getElem hjc) (by rw [List.getElem?_eq_getElem hj, hju])).1)
  refine wp_skipped (w' := w') ?_ ⟨_, by rw [hd]; exact r'⟩
  rw [← hw']
  simp only [execOp, ho, p4]
  simp [Instr.storeAt, Instr.sureAddr, hrun]
 ·cases hx
end
end Go.Am