/- Am20: two operations change places. No condition. -/
import Derived.Test.YtbogogbogdafiaaAm19
set_option linter.unusedVariables false
namespace Go.Am
def putE (e : Nat → AVal) (d : Option Nat) (v : AVal) : Nat → AVal :=
 match d with
 | some n => upd e n v
 | none => e
theorem put_eq (σ : St) (d : Option Nat) (v : AVal) : σ.put d v = σ.we (putE σ.env d v) := by cases d <;> rfl
theorem putE_ne {e : Nat → AVal} {d : Option Nat} {v : AVal} {n : Nat} (h : d ≠ some n) : putE e d v n = e n := by
 cases d with
 | none => rfl
 | some m => exact upd_ne _ _ _ _ (fun he => h (by rw [he]))
theorem putE_comm (e : Nat → AVal) {d d' : Option Nat} (v v' : AVal) (h : ∀ n, d = some n → d' ≠ some n) : putE (putE e d v) d' v' = putE (putE e d' v') d v := by
 cases d with
 | none => rfl
 | some n => cases d' with
  | none => rfl
  | some m =>
   have hne : m ≠ n := fun he => h n rfl (by rw [he])
   funext k
   simp only [putE, upd_def]
   by_cases h1 : k = m
   ·by_cases h2 : k = n
    ·omega
    ·simp [h1, hne]
   ·by_cases h2 : k = n
    ·simp [h2, Ne.symm hne]
    ·simp [h1, h2]
def valAt (d : Option Nat) (x : Nat → AVal) : AVal :=
 match d with
 | some n => x n
 | none => .one .junk
theorem updO_eq (e : Nat → AVal) (d : Option Nat) (x : Nat → AVal) : updO e d x = putE e d (valAt d x) := by cases d <;> rfl
theorem ins_swap {σ σ1 σ2 : St} {n m : Nat} {b c : Blk} (h1 : σ.ins n b = some σ1) (h2 : σ1.ins m c = some σ2) : ∃ τ, σ.ins m c = some τ ∧ τ.ins n b = some σ2 := by
 obtain ⟨u1, rfl⟩ := ins_some h1
 obtain ⟨u2, rfl⟩ := ins_some h2
 have hne : m ≠ n := fun e => by subst e; simp [upd_same] at u2
 have um : σ.used m = false := by simpa [upd_ne _ _ _ _ hne] using u2
 have un : upd σ.used m true n = false := by rw [upd_ne _ _ _ _ (Ne.symm hne)]; exact u1
 refine ⟨_, by unfold St.ins; rw [if_neg (by simp [um])], ?_⟩
 unfold St.ins
 simp only [un, Bool.false_eq_true, if_false]
 congr 2 <;> (funext k; simp only [upd_def]; by_cases h1 : k = m <;> by_cases h2 : k = n <;> simp_all)
theorem insAll_ins_swap {m : Nat} {c : Blk} : ∀ {A : List (Nat × Blk)} {σ σ1 σ2 : St}, σ.insAll A = some σ1 → σ1.ins m c = some σ2 → ∃ τ, σ.ins m c = some τ ∧ τ.insAll A = some σ2
 | [], σ, σ1, σ2, h1, h2 => by
  simp only [St.insAll] at h1
  injection h1 with h1
  subst h1
  exact ⟨σ2, h2, rfl⟩
 | (n, b) :: A, σ, σ1, σ2, h1, h2 => by
  simp only [St.insAll] at h1
  split at h1
  ·rename_i σ0 e
   obtain ⟨τ, t1, t2⟩ := insAll_ins_swap h1 h2
   obtain ⟨τ', s1, s2⟩ := ins_swap e t1
   exact ⟨τ', s1, by simp only [St.insAll, s2]; exact t2⟩
  ·cases h1
theorem insAll_swap : ∀ {Bs A : List (Nat × Blk)} {σ σ1 σ2 : St}, σ.insAll A = some σ1 → σ1.insAll Bs = some σ2 → ∃ τ, σ.insAll Bs = some τ ∧ τ.insAll A = some σ2
 | [], A, σ, σ1, σ2, h1, h2 => by
  simp only [St.insAll] at h2
  injection h2 with h2
  subst h2
  exact ⟨σ, rfl, h1⟩
 | (m, c) :: Bs, A, σ, σ1, σ2, h1, h2 => by
  simp only [St.insAll] at h2
  split at h2
  ·rename_i σ3 e
   obtain ⟨τ, t1, t2⟩ := insAll_ins_swap h1 e
   obtain ⟨τ', s1, s2⟩ := insAll_swap t2 h2
   exact ⟨τ', by simp only [St.insAll, t1]; exact s1, s2⟩
  ·cases h2
theorem insAll_old : ∀ {A : List (Nat × Blk)} {σ σ1 : St}, σ.insAll A = some σ1 → (∀ n, σ.used n = true → σ1.used n = true ∧ σ1.h n = σ.h n) ∧ σ1.env = σ.env
 | [], σ, σ1, h1 => by
  simp only [St.insAll] at h1
  injection h1 with h1
  subst h1
  exact ⟨fun n hn => ⟨hn, rfl⟩, rfl⟩
 | (m, c) :: A, σ, σ1, h1 => by
  simp only [St.insAll] at h1
  split at h1
  ·rename_i σ0 e
   obtain ⟨u1, rfl⟩ := ins_some e
   obtain ⟨t1, t2⟩ := insAll_old h1
   refine ⟨fun n hn => ?_, t2⟩
   have hne : n ≠ m := fun he => by subst he; rw [u1] at hn; cases hn
   obtain ⟨s1, s2⟩ := t1 n (upd_used _ _ hn)
   exact ⟨s1, by rw [s2]; exact upd_ne _ _ _ _ hne⟩
  ·cases h1
structure Wf (σ : St) : Prop where
 env : ∀ s m, (σ.env s).ref m → σ.used m = true
 box : ∀ m cs c n, σ.h m = some (.box cs) → c ∈ cs → c.ref n → σ.used n = true
def ACell.flat : ACell → Bool
 | .c _ | .nil _ | .junk => true
 | _ => false
def MO.flat : MO → Bool
 | .t _ => true
 | .k (.one c) => c.flat
 | .k (.agg cs) => cs.all ACell.flat
 | .k (.tup xs) => xs.isEmpty
theorem ACell.flat_ref {c : ACell} (h : c.flat = true) (m : Nat) : ¬ c.ref m := by
 cases c <;> first | exact id | (simp [ACell.flat] at h)
theorem Wf.arg {σ : St} (W : Wf σ) {x : MO} (hx : x.flat = true) (m : Nat) (hm : (σ.ev x).ref m) : σ.used m = true := by
 cases x with
 | t n => exact W.env n m hm
 | k v => cases v with
  | one c => exact absurd hm (ACell.flat_ref hx m)
  | agg cs =>
   obtain ⟨c, hc, hm⟩ := hm
   exact absurd hm (ACell.flat_ref (List.all_eq_true.1 hx c hc) m)
  | tup xs =>
   have : xs = [] := by simpa [MO.flat] using hx
   subst this
   obtain ⟨c, hc, _⟩ := hm
   cases hc
theorem rd_none (T : Tab) (d : Option Nat) (op : MOp) (ev : MO → AVal) (h : Nat → Option Blk) (hc : op.cls = 0) {x : AVal × List (Nat × Blk)} (hx : rd T d op ev h = some x) : x.2 = [] := by
 cases op <;> simp [MOp.cls] at hc <;> simp only [rd] at hx
 all_goals
  repeat' split at hx
  all_goals first | (cases hx; rfl) | (cases hx)
theorem ev_put {σ : St} {e : Nat → AVal} {x : MO} (h : ∀ n, x = .t n → e n = σ.env n) : (σ.we e).ev x = σ.ev x := by
 cases x with
 | t n => exact h n rfl
 | k v => rfl
section
variable {T : Tab} {dx dy : Option Nat} {x y : MOp} {σ σ1 σ2 : St}
theorem exec_env (hdx : ∀ sz p v, x = .store sz p v → dx = none) (h1 : exec T dx x σ = some σ1) : σ1.env = putE σ.env dx (valAt dx σ1.env) := by
 have h := exec_we T dx x σ σ.env (fun _ _ => rfl) hdx
 rw [we_self, h1] at h
 simp only [Option.map_some] at h
 injection h with h
 rw [← updO_eq]
 calc σ1.env = (σ1.we (updO σ.env dx σ1.env)).env := by rw [← h]
  _ = _ := rfl
theorem comm0 (W : Wf σ) (hd : ∀ n, dx = some n → dy ≠ some n) (hxy : ∀ n, dx = some n → MO.t n ∉ y.args) (hyx : ∀ n, dy = some n → MO.t n ∉ x.args)
  (hfx : ∀ a ∈ x.args, a.flat = true) (hfy : ∀ a ∈ y.args, a.flat = true)
  (hdx : ∀ sz p v, x = .store sz p v → dx = none) (hdy : ∀ sz p v, y = .store sz p v → dy = none) (hcls : x.cls = 0 ∨ y.cls = 0 ∨ (x.cls ≤ 1 ∧ y.cls ≤ 1))
  (h1 : exec T dx x σ = some σ1) (h2 : exec T dy y σ1 = some σ2) : ∃ τ, exec T dy y σ = some τ ∧ exec T dx x τ = some σ2 := by
 have hyargs : ∀ (e : Nat → AVal) (v : AVal) (s : St), ∀ a ∈ y.args, (s.we (putE s.env dx v)).ev a = s.ev a := fun e v s a ha => ev_put fun n hn => putE_ne fun hdn => hxy n hdn (hn ▸ ha)
 have hxargs : ∀ (e : Nat → AVal) (v : AVal) (s : St), ∀ a ∈ x.args, (s.we (putE s.env dy v)).ev a = s.ev a := fun e v s a ha => ev_put fun n hn => putE_ne fun hdn => hyx n hdn (hn ▸ ha)
 by_cases cx : x.cls = 0
 ·rw [exec_rd T dx x σ (by omega)] at h1
  cases hr : rd T dx x σ.ev σ.h with
  | none => rw [hr] at h1; cases h1
  | some p =>
   obtain ⟨v, bs⟩ := p
   have hb : bs = [] := rd_none T dx x _ _ cx hr
   subst hb
   rw [hr] at h1
   simp only [Option.bind_some, fin, St.insAll, Option.map_some] at h1
   injection h1 with h1
   rw [put_eq] at h1
   subst h1
   rw [exec_we T dy y σ _ (hyargs σ.env v σ) hdy] at h2
   cases hy : exec T dy y σ with
   | none => rw [hy] at h2; cases h2
   | some τ =>
    rw [hy] at h2
    simp only [Option.map_some] at h2
    injection h2 with h2
    refine ⟨τ, rfl, ?_⟩
    have hte := exec_env hdy hy
    rw [exec_rd T dx x τ (by omega), rd_val T dx x τ.ev σ.h τ.h cx, rd_ev T dx x (ev := σ.ev) (ev' := τ.ev) σ.h (fun a ha => by
     cases a with
     | t n =>
      show τ.env n = σ.env n
      rw [hte]
      exact putE_ne fun hdn => hyx n hdn ha
     | k v => rfl), hr]
    simp only [Option.bind_some, fin, St.insAll, Option.map_some]
    rw [← h2, put_eq]
    congr 1
    have : putE τ.env dx v = updO (putE σ.env dx v) dy τ.env := by
     rw [updO_eq, putE_comm σ.env _ _ hd]
     rw [← hte]
    rw [this]
 ·by_cases cy : y.cls = 0
  ·rw [exec_rd T dy y σ1 (by omega)] at h2
   cases hr : rd T dy y σ1.ev σ1.h with
   | none => rw [hr] at h2; cases h2
   | some p =>
    obtain ⟨v, bs⟩ := p
    have hb : bs = [] := rd_none T dy y _ _ cy hr
    subst hb
    rw [hr] at h2
    simp only [Option.bind_some, fin, St.insAll, Option.map_some] at h2
    injection h2 with h2
    have hte := exec_env hdx h1
    refine ⟨σ.put dy v, ?_, ?_⟩
    ·rw [exec_rd T dy y σ (by omega), rd_val T dy y σ.ev σ1.h σ.h cy, rd_ev T dy y (ev := σ1.ev) (ev' := σ.ev) σ1.h (fun a ha => by
      cases a with
      | t n =>
       show σ.env n = σ1.env n
       rw [hte]
       exact (putE_ne fun hdn => hxy n hdn ha).symm
      | k v => rfl), hr]
     rfl
    ·rw [put_eq, exec_we T dx x σ _ (hxargs σ.env v σ) hdx, h1]
     simp only [Option.map_some]
     rw [← h2, put_eq]
     congr 2
     rw [updO_eq, ← putE_comm σ.env _ _ hd, ← hte]
  ·have cx1 : x.cls ≤ 1 := by omega
   have cy1 : y.cls ≤ 1 := by omega
   rw [exec_rd T dx x σ cx1] at h1
   cases hr : rd T dx x σ.ev σ.h with
   | none => rw [hr] at h1; cases h1
   | some p =>
    obtain ⟨v, A⟩ := p
    rw [hr] at h1
    simp only [Option.bind_some, fin] at h1
    cases hA : σ.insAll A with
    | none => rw [hA] at h1; cases h1
    | some σa =>
     rw [hA] at h1
     simp only [Option.map_some] at h1
     injection h1 with h1
     rw [put_eq] at h1
     subst h1
     obtain ⟨oa, ea⟩ := insAll_old hA
     rw [exec_rd T dy y _ cy1] at h2
     have hry : rd T dy y (σa.we (putE σa.env dx v)).ev (σa.we (putE σa.env dx v)).h = rd T dy y σ.ev σ.h := by
      rw [rd_ev T dy y (ev := σ.ev) _ (fun a ha => by rw [hyargs σ.env v σa a ha]; cases a with
       | t n => show σa.env n = σ.env n; rw [ea]
       | k v => rfl)]
      exact rd_h (u := fun n => σ.used n = true) T dy y σ.ev (fun n hn => (oa n hn).2) W.box (fun a ha m hm => W.arg (hfy a ha) m hm)
     rw [hry] at h2
     cases hr2 : rd T dy y σ.ev σ.h with
     | none => rw [hr2] at h2; cases h2
     | some q =>
      obtain ⟨v2, Bs⟩ := q
      rw [hr2] at h2
      simp only [Option.bind_some, fin, insAll_we] at h2
      cases hB : σa.insAll Bs with
      | none => rw [hB] at h2; cases h2
      | some σab =>
       rw [hB] at h2
       simp only [Option.map_some] at h2
       injection h2 with h2
       obtain ⟨σb, b1, b2⟩ := insAll_swap hA hB
       obtain ⟨ob, eb⟩ := insAll_old b1
       obtain ⟨oab, eab⟩ := insAll_old hB
       refine ⟨σb.put dy v2, ?_, ?_⟩
       ·rw [exec_rd T dy y σ cy1, hr2]
        simp [fin, b1]
       ·rw [put_eq, exec_rd T dx x _ cx1]
        have hrx : rd T dx x (σb.we (putE σb.env dy v2)).ev (σb.we (putE σb.env dy v2)).h = rd T dx x σ.ev σ.h := by
         rw [rd_ev T dx x (ev := σ.ev) _ (fun a ha => by rw [hxargs σ.env v2 σb a ha]; cases a with
          | t n => show σb.env n = σ.env n; rw [eb]
          | k v => rfl)]
         exact rd_h (u := fun n => σ.used n = true) T dx x σ.ev (fun n hn => (ob n hn).2) W.box (fun a ha m hm => W.arg (hfx a ha) m hm)
        rw [hrx, hr]
        simp only [Option.bind_some, fin, insAll_we, b2, Option.map_some]
        rw [← h2, put_eq, put_eq]
        congr 1
        show σab.we (putE (putE σb.env dy v2) dx v) = σab.we (putE (putE σa.env dx v) dy v2)
        rw [eb, ea, putE_comm σ.env _ _ hd]
end
theorem execO_eff (T : Tab) (o : MOper) (σ : St) : execO T o σ = (effOp o σ.env).bind fun op => exec T o.dst op σ := by
 unfold execO effOp
 cases hg : o.guard with
 | none => rfl
 | some g =>
  obtain ⟨s, want⟩ := g
  simp only
  generalize σ.env s = v
  cases v with
  | one c => cases c with
   | c x => cases x with
    | bool b => simp only; split <;> rfl
    | _ => rfl
   | _ => rfl
  | agg cs => rfl
  | tup xs => cases xs <;> rfl
def MOper.noTmp (o : MOper) (n : Nat) : Bool := (o.op.args.all fun a => match a with | .t m => m != n | _ => true) && (match o.guard with | some (s, _) => s != n | none => true)
def MOper.fine (o : MOper) : Bool := o.op.args.all MO.flat && (match o.op with | .store .. => o.dst.isNone | _ => true)
def commO (x y : MOper) : Bool :=
 (match x.dst with | some d => y.noTmp d && (match y.dst with | some e => e != d | none => true) | none => true) &&
 (match y.dst with | some d => x.noTmp d | none => true) && x.fine && y.fine && (x.op.cls == 0 || y.op.cls == 0 || (decide (x.op.cls ≤ 1) && decide (y.op.cls ≤ 1)))
theorem MOper.noTmp_args {o : MOper} {n : Nat} (h : o.noTmp n = true) : MO.t n ∉ o.op.args := by
 intro hm
 simp only [MOper.noTmp, Bool.and_eq_true, List.all_eq_true] at h
 have := h.1 _ hm
 simp at this
theorem effOp_mem {o : MOper} {e : Nat → AVal} {op : MOp} (h : effOp o e = some op) : op = o.op ∨ op = .mv (.k (.tup [])) := by
 unfold effOp at h
 split at h
 ·injection h with h; exact .inl h.symm
 ·split at h
  ·split at h
   ·injection h with h; exact .inl h.symm
   ·injection h with h; exact .inr h.symm
  ·injection h with h; exact .inr h.symm
  ·cases h
theorem effOp_put {o : MOper} {e e' : Nat → AVal} (h : ∀ s w, o.guard = some (s, w) → e' s = e s) : effOp o e' = effOp o e := by
 unfold effOp
 cases hg : o.guard with
 | none => rfl
 | some g => obtain ⟨s, w⟩ := g; simp only; rw [h s w hg]
theorem comm {T : Tab} {x y : MOper} {σ σ1 σ2 : St} (W : Wf σ) (hc : commO x y = true) (h1 : execO T x σ = some σ1) (h2 : execO T y σ1 = some σ2) :
  ∃ τ, execO T y σ = some τ ∧ execO T x τ = some σ2 := by
 simp only [commO, Bool.and_eq_true] at hc
 obtain ⟨⟨⟨⟨c1, c2⟩, c3⟩, c4⟩, c5⟩ := hc
 rw [execO_eff] at h1 h2
 cases ex : effOp x σ.env with
 | none => rw [ex] at h1; cases h1
 | some opx =>
  rw [ex] at h1
  have h1 : exec T x.dst opx σ = some σ1 := h1
  have jx : opx = x.op ∨ opx = .mv (.k (.tup [])) := effOp_mem ex
  have stx : ∀ sz p v, opx = .store sz p v → x.dst = none := by
   intro sz p v he
   rcases jx with rfl | rfl
   ·simp only [MOper.fine, Bool.and_eq_true, he] at c3; simpa using c3.2
   ·cases he
  have hte := exec_env stx h1
  have hyg : ∀ s w, y.guard = some (s, w) → x.dst ≠ some s := by
   intro s w hg hd
   rw [hd] at c1
   simp [MOper.noTmp, hg] at c1
  have hxg : ∀ s w, x.guard = some (s, w) → y.dst ≠ some s := by
   intro s w hg hd
   rw [hd] at c2
   simp [MOper.noTmp, hg] at c2
  have ey1 : effOp y σ1.env = effOp y σ.env := effOp_put fun s w hg => by rw [hte]; exact putE_ne (hyg s w hg)
  rw [ey1] at h2
  cases ey : effOp y σ.env with
  | none => rw [ey] at h2; cases h2
  | some opy =>
   rw [ey] at h2
   have h2 : exec T y.dst opy σ1 = some σ2 := h2
   have jy : opy = y.op ∨ opy = .mv (.k (.tup [])) := effOp_mem ey
   have sty : ∀ sz p v, opy = .store sz p v → y.dst = none := by
    intro sz p v he
    rcases jy with rfl | rfl
    ·simp only [MOper.fine, Bool.and_eq_true, he] at c4; simpa using c4.2
    ·cases he
   have flx : ∀ a ∈ opx.args, a.flat = true := by
    rcases jx with rfl | rfl
    ·simp only [MOper.fine, Bool.and_eq_true, List.all_eq_true] at c3; exact c3.1
    ·intro a ha; simp [MOp.args] at ha; subst ha; rfl
   have fly : ∀ a ∈ opy.args, a.flat = true := by
    rcases jy with rfl | rfl
    ·simp only [MOper.fine, Bool.and_eq_true, List.all_eq_true] at c4; exact c4.1
    ·intro a ha; simp [MOp.args] at ha; subst ha; rfl
   have hxy : ∀ n, x.dst = some n → MO.t n ∉ opy.args := by
    intro n hd
    rcases jy with rfl | rfl
    ·rw [hd] at c1
     simp only [Bool.and_eq_true] at c1
     exact MOper.noTmp_args c1.1
    ·simp [MOp.args]
   have hyx : ∀ n, y.dst = some n → MO.t n ∉ opx.args := by
    intro n hd
    rcases jx with rfl | rfl
    ·rw [hd] at c2
     exact MOper.noTmp_args c2
    ·simp [MOp.args]
   have hdd : ∀ n, x.dst = some n → y.dst ≠ some n := by
    intro n hd he
    rw [hd, he] at c1
    simp at c1
   have hcl : opx.cls = 0 ∨ opy.cls = 0 ∨ (opx.cls ≤ 1 ∧ opy.cls ≤ 1) := by
    rcases jx with rfl | rfl
    ·rcases jy with rfl | rfl
     ·simp only [Bool.or_eq_true, beq_iff_eq, Bool.and_eq_true, decide_eq_true_eq, or_assoc] at c5
      exact c5
     ·exact .inr (.inl rfl)
    ·exact .inl rfl
   obtain ⟨τ, t1, t2⟩ := comm0 W hdd hxy hyx flx fly stx sty hcl h1 h2
   refine ⟨τ, ?_, ?_⟩
   ·rw [execO_eff, ey]; exact t1
   ·rw [execO_eff, effOp_put (e := σ.env) (fun s w hg => by rw [exec_env sty t1]; exact putE_ne (hxg s w hg)), ex]; exact t2
end Go.Am