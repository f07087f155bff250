/- Am21: regions. No condition. -/
import Derived.Test.YtbogogbogdafiaaAm20
set_option linter.unusedVariables false
namespace Go.Am
def chkGuard (ops : Array Oper) (o : Oper) (mo : MOper) : Bool :=
 match o.guard, mo.guard with
 | none, none => true
 | some (j, want), some (s, want') => decide ((ops[j]?).bind (·.dst) = some s) && (want == want')
 | _, _ => false
def chkOper (P : Program) (N : Nat) (ops : Array Oper) (o : Oper) (mo : MOper) : Bool :=
 decide (o.dst = mo.dst) && (match o.dst with | some n => decide (n < N) | none => true) && chkGuard ops o mo && chkOp P o mo.op
def chkOpers (P : Program) (N : Nat) (ops : Array Oper) : List Oper → List MOper → Bool
 | [], [] => true
 | o :: os, m :: ms => chkOper P N ops o m && chkOpers P N ops os ms
 | _, _ => false
section
variable {B : Nat} {E : Ex} {w0 w w' : World} {G G' : Gh} {N : Nat}
variable {P : Program} {T : Tab} {o : Oper} {mo : MOper} {a : Act} {σ σ' : St} {Q : Exit → Act → World → Prop} {ops : Array Oper}
structure TOk (P : Program) (T : Tab) : Prop where
 spec : TabOk P T
 specM : TabOkM P T
 specV : TabOkV P T
 specW : TabOkW P T
 fn : ∀ f M, Tab.find T.pure f = some M → chkFun P f = true
theorem R.guard (r : R B E w0 N σ a w G) {j s : Nat} {b : Bool} (hj : (ops[j]?).bind (·.dst) = some s) (hb : σ.env s = .one (.c (.bool b))) : yielded ops a.tmps j = some b := by
 have h1 := r.env s
 rw [hb] at h1
 have h2 := h1.boolv
 have h3 : a.tmps[s]? = some (.bool b) := by
  rw [Array.getD_eq_getD_getElem?] at h2
  cases ht : a.tmps[s]? with
  | none => rw [ht] at h2; simp [undef] at h2
  | some v => rw [ht] at h2; simp at h2; rw [h2]
 unfold yielded
 rw [hj]
 simp [h3]
theorem skip_RA {w : World} {G : Gh} {h : Nat → Option Blk} : RA w G h (.tup []) undef := ⟨[], rfl, rfl, fun j x u hx => by simp at hx⟩
theorem skip_ref {u : Nat → Prop} (m : Nat) (hm : (AVal.tup []).ref m) : u m := by
 obtain ⟨c, hc, _⟩ := hm
 cases hc
theorem R.guardU (r : R B E w0 N σ a w G) {j s : Nat} (hj : (ops[j]?).bind (·.dst) = some s) (hb : σ.env s = .tup []) : yielded ops a.tmps j = none := by
 have h1 := r.env s
 rw [hb] at h1
 obtain ⟨vs, h2, h3, _⟩ := h1
 have : vs = [] := List.length_eq_zero_iff.1 h3
 subst this
 rw [Array.getD_eq_getD_getElem?] at h2
 unfold yielded
 rw [hj]
 simp only [Option.bind_some]
 cases ht : a.tmps[s]? with
 | none => rfl
 | some v =>
  rw [ht] at h2
  simp only [Option.getD_some] at h2
  subst h2
  rfl
theorem ex_oper (r : R B E w0 N σ a w G) (hT : TOk P T) (hc : chkOper P N ops o mo = true) (hx : execO T mo σ = some σ') :
  (Region.wanted o (yielded ops a.tmps) = true ∧ o.wp P a w (Nx B E w0 N σ') Q) ∨ (Region.wanted o (yielded ops a.tmps) = false ∧ Nx B E w0 N σ' (a.put o.dst undef) w) := by
 simp only [chkOper, Bool.and_eq_true, decide_eq_true_eq] at hc
 obtain ⟨⟨⟨c1, c2⟩, c3⟩, c4⟩ := hc
 have hN : ∀ n, o.dst = some n → n < N := fun n hn => by rw [hn] at c2; simpa using c2
 unfold chkGuard at c3
 unfold execO at hx
 split at c3
 ·rename_i g1 g2
  simp only [g2] at hx
  rw [← c1] at hx
  exact .inl ⟨by simp [Region.wanted, g1], ex_ok r hT.spec hT.specM hT.specV hT.specW hT.fn hN c4 hx⟩
 ·rename_i j want s want' g1 g2
  simp only [Bool.and_eq_true, decide_eq_true_eq, beq_iff_eq] at c3
  obtain ⟨k1, rfl⟩ := c3
  simp only [g2] at hx
  split at hx
  ·rename_i b hb
   have hy := r.guard k1 hb
   split at hx
   ·rename_i hbw
    rw [← c1] at hx
    exact .inl ⟨by simp [Region.wanted, g1, hy, hbw], ex_ok r hT.spec hT.specM hT.specV hT.specW hT.fn hN c4 hx⟩
   ·rename_i hbw
    injection hx with hx
    subst hx
    refine .inr ⟨by simp [Region.wanted, g1, hy, hbw], G, ?_⟩
    rw [← c1]
    exact r.put (x := .tup []) skip_RA skip_ref hN
  ·rename_i hb
   have hy := r.guardU k1 hb
   injection hx with hx
   subst hx
   refine .inr ⟨by simp [Region.wanted, g1, hy], G, ?_⟩
   rw [← c1]
   exact r.put (x := .tup []) skip_RA skip_ref hN
  ·cases hx
 ·cases c3
theorem R.wf (r : R B E w0 N σ a w G) : Wf σ := ⟨r.wfe, r.hr.wfh⟩
theorem wp_exists {K : Act → World → Prop} (h : o.wp P a w K (fun _ _ _ => False)) : ∃ a' w', K a' w' := by
 unfold Oper.wp at h
 unfold Oper.upon at h
 split at h
 ·exact ⟨_, _, h⟩
 ·exact ⟨_, _, h⟩
 ·exact ⟨_, _, h⟩
 ·obtain ⟨e, w', fr, hR, _⟩ := h []
  cases e with
  | returned v => exact ⟨_, _, hR⟩
  | panicked c => exact hR.elim
  | outgrown => obtain ⟨_, _, hf⟩ := hR; exact hf.elim
 ·obtain ⟨v, w', hR, _⟩ := h default []
  exact ⟨_, _, hR⟩
 ·exact h.elim
 ·exact h.elim
def Real (B : Nat) (E : Ex) (w0 : World) (N : Nat) (σ : St) : Prop := ∃ a w G, R B E w0 N σ a w G
theorem real_step (r : Real B E w0 N σ) (hT : TOk P T) (hc : chkOper P N ops o mo = true) (hx : execO T mo σ = some σ') : Real B E w0 N σ' := by
 obtain ⟨a, w, G, r⟩ := r
 rcases ex_oper (Q := fun _ _ _ => False) r hT hc hx with ⟨_, h⟩ | ⟨_, G', h⟩
 ·obtain ⟨a', w', G', h⟩ := wp_exists h
  exact ⟨a', w', G', h⟩
 ·exact ⟨_, _, G', h⟩
theorem wpList_sound (hT : TOk P T) : ∀ {l : List Oper} {ms : List MOper} {σ σ' : St} {a : Act} {w : World} {G : Gh}, chkOpers P N ops l ms = true → execs T ms σ = some σ' → R B E w0 N σ a w G →
  (∀ a w G, R B E w0 N σ' a w G → Q .normal a w) → wpList P ops Q l a w
 | [], [], σ, σ', a, w, G, hc, hx, r, hQ => by
  simp only [execs] at hx
  injection hx with hx
  subst hx
  exact hQ _ _ _ r
 | o :: l, m :: ms, σ, σ', a, w, G, hc, hx, r, hQ => by
  simp only [chkOpers, Bool.and_eq_true] at hc
  simp only [execs] at hx
  split at hx
  ·rename_i σ1 e1
   unfold wpList
   rcases ex_oper (Q := Q) r hT hc.1 e1 with ⟨hw, h⟩ | ⟨hw, G', h⟩
   ·rw [if_pos hw]
    exact .inl (Oper.wp_mono (fun a' w' ⟨G', r'⟩ => wpList_sound hT hc.2 hx r' hQ) h)
   ·rw [if_neg (by simp [hw])]
    exact wpList_sound hT hc.2 hx h hQ
  ·cases hx
 | [], _ :: _, _, _, _, _, _, hc, _, _, _ => by simp [chkOpers] at hc
 | _ :: _, [], _, _, _, _, _, hc, _, _, _ => by simp [chkOpers] at hc
def execL (T : Tab) (ms : List MOper) : List Nat → St → Option St
 | [], σ => some σ
 | i :: L, σ => match ms[i]? with
  | some o => match execO T o σ with
   | some σ1 => execL T ms L σ1
   | none => none
  | none => none
inductive Before (ops : Array Oper) : Nat → Nat → Prop where
 | edge (i : Nat) (o : Oper) (e : _) : ops[i]? = some o → e ∈ o.after → Region.binds .any e = true → Before ops i e.on
 | step (i j : Nat) (o : Oper) (e : _) : ops[i]? = some o → e ∈ o.after → Region.binds .any e = true → Before ops e.on j → Before ops i j
def edgesOf (o : Oper) : List Nat := (o.after.toList.filter (Region.binds .any)).map (·.on)
def maskOf (acc : List Nat) : List Nat → Nat
 | [] => 0
 | j :: js => (Nat.shiftLeft 1 j ||| acc.getD j 0) ||| maskOf acc js
def masks : List Oper → List Nat → List Nat
 | [], acc => acc
 | o :: os, acc => masks os (acc ++ [maskOf acc (edgesOf o)])
theorem mem_edgesOf {o : Oper} {j : Nat} (h : j ∈ edgesOf o) : ∃ e ∈ o.after, Region.binds .any e = true ∧ e.on = j := by
 unfold edgesOf at h
 simp only [List.mem_map, List.mem_filter] at h
 obtain ⟨e, ⟨h1, h2⟩, h3⟩ := h
 exact ⟨e, Array.mem_toList_iff.1 h1, h2, h3⟩
theorem maskOf_bit {acc : List Nat} : ∀ {js : List Nat} {k : Nat}, (maskOf acc js).testBit k = true → ∃ j ∈ js, j = k ∨ (acc.getD j 0).testBit k = true
 | [], k, h => by simp [maskOf] at h
 | j :: js, k, h => by
  simp only [maskOf, Nat.testBit_or, Bool.or_eq_true] at h
  rcases h with (h | h) | h
  ·refine ⟨j, by simp, .inl ?_⟩
   have h' : (1 <<< j).testBit k = true := h
   rw [Nat.one_shiftLeft, Nat.testBit_two_pow] at h'
   exact of_decide_eq_true h'
  ·exact ⟨j, by simp, .inr h⟩
  ·obtain ⟨j', h1, h2⟩ := maskOf_bit h
   exact ⟨j', by simp [h1], h2⟩
theorem masks_ok {ops : Array Oper} : ∀ (os : List Oper) (acc : List Nat) (pre : List Oper), ops.toList = pre ++ os → acc.length = pre.length → (∀ i k, (acc.getD i 0).testBit k = true → Before ops i k) →
  ∀ i k, ((masks os acc).getD i 0).testBit k = true → Before ops i k
 | [], acc, pre, _, _, h, i, k, hb => h i k hb
 | o :: os, acc, pre, he, hl, h, i, k, hb => by
  refine masks_ok os _ (pre ++ [o]) (by simp [he]) (by simp [hl]) (fun i k hb => ?_) i k hb
  by_cases hlt : i < acc.length
  ·rw [List.getD_eq_getElem?_getD, List.getElem?_append_left hlt, ← List.getD_eq_getElem?_getD] at hb
   exact h i k hb
  ·by_cases hi : i = acc.length
   ·subst hi
    rw [List.getD_eq_getElem?_getD, List.getElem?_append_right (Nat.le_refl _), Nat.sub_self] at hb
    simp only [List.getElem?_cons_zero, Option.getD_some] at hb
    have ho : ops[acc.length]? = some o := by
     have : ops.toList[acc.length]? = some o := by rw [he, hl, List.getElem?_append_right (Nat.le_refl _), Nat.sub_self]; rfl
     simpa using this
    obtain ⟨j, h1, h2⟩ := maskOf_bit hb
    obtain ⟨e, e1, e2, rfl⟩ := mem_edgesOf h1
    rcases h2 with rfl | h2
    ·exact .edge _ o e ho e1 e2
    ·exact .step _ _ o e ho e1 e2 (h _ _ h2)
   ·rw [List.getD_eq_getElem?_getD, List.getElem?_eq_none (by simp; omega)] at hb
    simp at hb
def chkDraw (ops : List Oper) (ms : List MOper) : Bool :=
 (fun ks : List Nat => (List.range ops.length).all fun i => match ops[i]?, ms[i]? with
  | some o, some m => (o.after.toList.all fun e => !Region.binds .any e || decide (e.on < i)) &&
    (List.range i).all fun j => (ks.getD i 0).testBit j || (match ms[j]? with | some mj => commO mj m | none => false)
  | _, _ => false) (masks ops [])
structure DrawOk (ops : Array Oper) (ms : List MOper) : Prop where
 back : ∀ (i : Nat) (o : Oper), ops[i]? = some o → ∀ e ∈ o.after, Region.binds .any e = true → e.on < i
 pair : ∀ (i j : Nat) (o : Oper) (m : MOper), ops[i]? = some o → ms[i]? = some m → j < i → Before ops i j ∨ ∃ mj, ms[j]? = some mj ∧ commO mj m = true
theorem chkDraw_ok {ms : List MOper} (h : chkDraw ops.toList ms = true) : DrawOk ops ms := by
  simp only [chkDraw, List.all_eq_true, List.mem_range] at h
  have key : ∀ (i : Nat) (o : Oper), ops[i]? = some o → ∃ m, ms[i]? = some m ∧ (o.after.toList.all fun e => !Region.binds .any e || decide (e.on < i)) = true ∧
        ∀ j, j < i → (((masks ops.toList []).getD i 0).testBit j || (match ms[j]? with | some mj => commO mj m | none => false)) = true := by
    intro i o ho
    have hi : i < ops.toList.length := by simpa using (Array.getElem?_eq_some_iff.1 ho).1
    have hi' := h i hi
    have ho' : ops.toList[i]? = some o := by simpa using ho
    rw [ho'] at hi'
    cases hm : ms[i]? with
    | none => rw [hm] at hi'; cases hi'
    | some m =>
      rw [hm] at hi'
      simp only [Bool.and_eq_true, List.all_eq_true, List.mem_range] at hi'
      exact ⟨m, rfl, by rw [List.all_eq_true]; exact hi'.1, hi'.2⟩
  refine ⟨fun i o ho e he hb => ?_, fun i j o m ho hm hj => ?_⟩
  · obtain ⟨m, _, k1, _⟩ := key i o ho
    have := List.all_eq_true.1 k1 e (Array.mem_toList_iff.2 he)
    simp [hb] at this
    exact this
  · obtain ⟨m', hm', _, k2⟩ := key i o ho
    rw [hm] at hm'
    injection hm' with hm'
    subst hm'
    have := k2 j hj
    rw [Bool.or_eq_true] at this
    rcases this with h1 | h1
    · exact .inl (masks_ok ops.toList [] [] rfl rfl (by intro i k hb; simp at hb) i j h1)
    · cases hmj : ms[j]? with
      | none => rw [hmj] at h1; cases h1
      | some mj => rw [hmj] at h1; exact .inr ⟨mj, rfl, h1⟩

def Closed (ops : Array Oper) (listed : Array Bool) : Prop :=
 ∀ (k : Nat) (o : Oper), ops[k]? = some o → listed.getD k true = true → ∀ e ∈ o.after, Region.binds .any e = true → listed.getD e.on true = true
theorem before_done {listed : Array Bool} (hc : Closed ops listed) {i j : Nat} (hb : Before ops i j) : (∀ o, ops[i]? = some o → ∀ e ∈ o.after, Region.binds .any e = true → listed.getD e.on true = true) → listed.getD j true = true := by
 induction hb with
 | edge i o e ho he hb => exact fun h => h o ho e he hb
 | step i j o e ho he hb _ ih => exact fun h => ih fun o' ho' => hc _ o' ho' (h o ho e he hb)
theorem execL_front (hT : TOk P T) {ms : List MOper} (hall : ∀ (i : Nat) (m : MOper), ms[i]? = some m → ∃ o, ops[i]? = some o ∧ chkOper P N ops o m = true) {i : Nat} {mi : MOper} (hi : ms[i]? = some mi) {post : List Nat} {σf : St} :
  ∀ {pre : List Nat} {σ : St}, Real B E w0 N σ → execL T ms (pre ++ i :: post) σ = some σf → (∀ j ∈ pre, ∃ mj, ms[j]? = some mj ∧ commO mj mi = true) →
  ∃ τ, execO T mi σ = some τ ∧ execL T ms (pre ++ post) τ = some σf
 | [], σ, hr, hx, hc => by
  simp only [List.nil_append, execL, hi] at hx
  split at hx
  ·rename_i σ1 e; exact ⟨σ1, e, hx⟩
  ·cases hx
 | j :: pre, σ, hr, hx, hc => by
  obtain ⟨mj, hj, hcm⟩ := hc j (by simp)
  simp only [List.cons_append, execL, hj] at hx
  split at hx
  ·rename_i σ1 e1
   obtain ⟨oj, _, hcj⟩ := hall j mj hj
   obtain ⟨τ1, t1, t2⟩ := execL_front hT hall hi (real_step hr hT hcj e1) hx (fun k hk => hc k (by simp [hk]))
   obtain ⟨a, w, G, r⟩ := hr
   obtain ⟨τ, s1, s2⟩ := comm r.wf hcm e1 t1
   exact ⟨τ, s1, by simp only [List.cons_append, execL, hj, s2]; exact t2⟩
  ·cases hx
theorem wpAny_ok (hT : TOk P T) {ms : List MOper} (hall : ∀ (i : Nat) (m : MOper), ms[i]? = some m → ∃ o, ops[i]? = some o ∧ chkOper P N ops o m = true) (hlen : ms.length = ops.size) (hd : DrawOk ops ms) {σf : St}
  (hQ : ∀ a w G, R B E w0 N σf a w G → Q .normal a w) :
  ∀ (fuel : Nat) (L : List Nat) (listed : Array Bool) (σ : St) (a : Act) (w : World) (G : Gh), R B E w0 N σ a w G → execL T ms L σ = some σf → L.Pairwise (· < ·) → L.length ≤ fuel → listed.size = ops.size →
   (∀ j, j ∈ L ↔ listed.getD j true = false) → Closed ops listed → wpAny P .any ops Q fuel listed a w := by
 have first : ∀ (L : List Nat) (listed : Array Bool), L.Pairwise (· < ·) → listed.size = ops.size → (∀ j, j ∈ L ↔ listed.getD j true = false) → Region.ready .any ops listed = [] → L = [] := by
  intro L listed hp hs hL hr
  cases L with
  | nil => rfl
  | cons j L =>
   exfalso
   have hj := (hL j).1 (by simp)
   have hjs : j < ops.size := by
    rw [← hs]
    rcases Nat.lt_or_ge j listed.size with h | h
    ·exact h
    ·simp [Array.getElem?_eq_none h] at hj
   have ho : ops[j]? = some ops[j] := Array.getElem?_eq_getElem hjs
   have : j ∈ Region.ready .any ops listed := by
    rw [mem_ready]
    refine ⟨hj, _, ho, fun e he hb => ?_⟩
    have hlt := hd.back j _ ho e he hb
    have hnot : e.on ∉ j :: L := by
     intro hm
     cases hm with
     | head => omega
     | tail _ hm => have := (List.pairwise_cons.1 hp).1 _ hm; omega
    have hne : listed.getD e.on true ≠ false := fun h => hnot ((hL e.on).2 h)
    have hes : e.on < listed.size := by omega
    simp [hes] at hne ⊢
    exact hne
   rw [hr] at this
   cases this
 intro fuel
 induction fuel with
 | zero =>
  intro L listed σ a w G r hx hp hl hs hL hC
  have hL0 : L = [] := List.eq_nil_of_length_eq_zero (by omega)
  subst hL0
  simp only [execL] at hx
  injection hx with hx
  subst hx
  refine ⟨?_, hQ _ _ _ r⟩
  cases hr : Region.ready .any ops listed with
  | nil => rfl
  | cons i l =>
   have hm : i ∈ Region.ready .any ops listed := by rw [hr]; simp
   have := (hL i).2 (mem_ready.1 hm).1
   cases this
 | succ fuel ih =>
  intro L listed σ a w G r hx hp hl hs hL hC
  refine ⟨fun hr => ?_, fun i hi => ?_⟩
  ·have hL0 := first L listed hp hs hL hr
   subst hL0
   simp only [execL] at hx
   injection hx with hx
   subst hx
   exact hQ _ _ _ r
  ·obtain ⟨hiu, oi, hoi, hall2⟩ := mem_ready.1 hi
   have him : i ∈ L := (hL i).2 hiu
   obtain ⟨pre, post, rfl⟩ := List.append_of_mem him
   have his : i < ops.size := (Array.getElem?_eq_some_iff.1 hoi).1
   have hmi : ms[i]? = some ms[i] := List.getElem?_eq_getElem (by omega)
   obtain ⟨o', ho', hci⟩ := hall i _ hmi
   rw [hoi] at ho'
   injection ho' with ho'
   subst ho'
   have hpp := List.pairwise_append.1 hp
   obtain ⟨τ, t1, t2⟩ := execL_front (ops := ops) hT hall hmi ⟨a, w, G, r⟩ hx (fun j hj => by
    have hji : j < i := hpp.2.2 j hj i (by simp)
    rcases hd.pair i j oi _ hoi hmi hji with hbf | h
    ·have h1 := before_done hC hbf (fun o ho e he hb => by
      rw [hoi] at ho
      injection ho with ho
      subst ho
      have h1 := hall2 e he hb
      have hlt := hd.back i _ hoi e he hb
      have hes : e.on < listed.size := by omega
      simp [hes] at h1 ⊢
      exact h1)
     have h2 := (hL j).1 (by simp [hj])
     rw [h1] at h2
     cases h2
    ·exact h)
   have hstep : ∀ a' w', Nx B E w0 N τ a' w' → wpAny P .any ops Q fuel (listed.setIfInBounds i true) a' w' := by
    rintro a' w' ⟨G', r'⟩
    refine ih (pre ++ post) _ τ a' w' G' r' t2 ?_ (by simp at hl ⊢; omega) (by simpa using hs) (fun j => ?_) (fun k o ho hk e he hb => ?_)
    ·rw [List.pairwise_append]
     exact ⟨hpp.1, (List.pairwise_cons.1 hpp.2.1).2, fun x hx y hy => hpp.2.2 x hx y (by simp [hy])⟩
    ·by_cases hji : j = i
     ·subst hji
      have hjs : j < listed.size := by omega
      simp only [List.mem_append]
      constructor
      ·rintro (h | h)
       ·have := hpp.2.2 j h j (by simp); omega
       ·have := (List.pairwise_cons.1 hpp.2.1).1 j h; omega
      ·intro h
       simp [hjs] at h
     ·rw [getD_set_ne true (Ne.symm hji), ← hL j]
      simp [hji]
    ·have hmono : ∀ q, listed.getD q true = true → (listed.setIfInBounds i true).getD q true = true := by
      intro q hq
      by_cases hqi : q = i
      ·subst hqi
       have : q < listed.size := by omega
       simp [this]
      ·rw [getD_set_ne true (Ne.symm hqi)]; exact hq
     by_cases hki : k = i
     ·subst hki
      rw [hoi] at ho
      injection ho with ho
      subst ho
      have h1 := hall2 e he hb
      have hlt := hd.back k _ hoi e he hb
      have hes : e.on < listed.size := by omega
      refine hmono _ ?_
      simp [hes] at h1 ⊢
      exact h1
     ·rw [getD_set_ne true (Ne.symm hki)] at hk
      exact hmono _ (hC k o ho hk e he hb)
   unfold wpOp
   rw [hoi]
   simp only
   rcases ex_oper (Q := Q) r hT hci t1 with ⟨hw, h⟩ | ⟨hw, h⟩
   ·rw [if_pos hw]
    exact .inl (Oper.wp_mono hstep h)
   ·rw [if_neg (by simp [hw])]
    exact hstep _ _ h
theorem execL_execs : ∀ (post pre : List MOper) (σ : St), execL T (pre ++ post) (List.range' pre.length post.length) σ = execs T post σ
 | [], pre, σ => by simp [execL, execs]
 | m :: post, pre, σ => by
  simp only [List.length_cons, List.range'_succ, execL, execs]
  rw [List.getElem?_append_right (Nat.le_refl _), Nat.sub_self]
  simp only [List.getElem?_cons_zero]
  cases execO T m σ with
  | none => rfl
  | some σ1 =>
   have := execL_execs post (pre ++ [m]) σ1
   simp only [List.length_append, List.length_cons, List.length_nil, List.append_assoc, List.singleton_append, Nat.zero_add] at this
   exact this
theorem chkOpers_get : ∀ {l : List Oper} {ms : List MOper}, chkOpers P N ops l ms = true → ms.length = l.length ∧ ∀ (i : Nat) (m : MOper), ms[i]? = some m → ∃ o, l[i]? = some o ∧ chkOper P N ops o m = true
 | [], [], _ => ⟨rfl, by simp⟩
 | o :: l, m :: ms, hc => by
  simp only [chkOpers, Bool.and_eq_true] at hc
  obtain ⟨i1, i2⟩ := chkOpers_get hc.2
  refine ⟨by simp [i1], fun i m' hm => ?_⟩
  cases i with
  | zero => simp at hm; subst hm; exact ⟨o, rfl, hc.1⟩
  | succ i => exact i2 i m' (by simpa using hm)
 | [], _ :: _, hc => by simp [chkOpers] at hc
 | _ :: _, [], hc => by simp [chkOpers] at hc
theorem R.drawn (r : R B E w0 N σ a w G) (k : Nat) : R B E w0 N σ a { w with drawn := k } G := by
 have hw : ∀ b, b < w.heap.size → ({ w with drawn := k } : World).heap[b]? = w.heap[b]? := fun _ _ => rfl
 exact r.step rfl (fun _ h => h) (Keep.world (fun b hb => hw b (r.hr.imlt b hb)) _) (r.hr.grow hw (Nat.le_refl _)) (r.fr.grow hw (Nat.le_refl _) rfl rfl rfl)
theorem region_sound (hT : TOk P T) (hm : P.follows .mixedOrders = true) {id : Nat} {draw : Bool} {ms : List MOper} (hc : chkOpers P N ops ops.toList ms = true) (hd : draw = true → chkDraw ops.toList ms = true)
  (hx : execs T ms σ = some σ') (r : R B E w0 N σ a w G) (hQ : ∀ a w G, R B E w0 N σ' a w G → Q .normal a w) : (Code.region id ops draw).wp P Q a w := by
 cases draw with
 | false => exact wp_region_list (wpList_sound hT hc hx r hQ)
 | true =>
  obtain ⟨k1, k2⟩ := chkOpers_get hc
  have hlen : ms.length = ops.size := by simpa using k1
  refine wp_region_any hm (wpAny_ok (B := B) (E := E) (w0 := w0) (N := N) hT (fun i m h => by
   obtain ⟨o, h1, h2⟩ := k2 i m h; exact ⟨o, by simpa using h1, h2⟩) hlen (chkDraw_ok (hd rfl)) hQ ops.size (List.range ops.size) _ σ a _ G (r.drawn _) ?_ ?_ (by simp) (by simp) (fun j => ?_) (fun k o ho hk => ?_))
  ·have := execL_execs (T := T) ms [] σ
   simp only [List.nil_append, List.length_nil, hlen, ← List.range_eq_range'] at this
   rw [this]
   exact hx
  ·exact List.pairwise_lt_range
  ·rw [List.mem_range]
   constructor
   ·intro h; simp [h]
   ·intro h
    rcases Nat.lt_or_ge j ops.size with h' | h'
    ·exact h'
    ·simp [Array.getElem?_eq_none (show (Array.replicate ops.size false).size ≤ j by simpa using h')] at h
  ·exfalso
   have hks : k < ops.size := (Array.getElem?_eq_some_iff.1 ho).1
   simp [hks] at hk
end
end Go.Am