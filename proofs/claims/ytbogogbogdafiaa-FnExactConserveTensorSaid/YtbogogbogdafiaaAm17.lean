/- Am17: is an operation of the program what the abstract one says? No condition. -/
import Derived.Test.YtbogogbogdafiaaAmR
import Derived.Test.YtbogogbogdafiaaAmX
set_option linter.unusedVariables false
set_option linter.unusedSimpArgs false
namespace Go.Am
def chkOMO : Option Operand → Option MO → Bool
 | none, none => true
 | some x, some m => chkMO x m
 | _, _ => false
def chkSl (P : Program) (t : TypeId) (sz : Nat) (k : TypeInfo → Value → Bool) : Bool :=
 match P.underlying t with
 | some (.slice e) => match P.info? e with
  | some i => match i.zero with
   | some z => i.size == sz && decide (0 < sz) && k i z
   | none => false
  | none => false
 | _ => false
theorem chkSl_ok {P : Program} {t : TypeId} {sz : Nat} {k : TypeInfo → Value → Bool} (h : chkSl P t sz k = true) :
  ∃ e i z, P.underlying t = some (.slice e) ∧ P.info? e = some i ∧ i.zero = some z ∧ i.size = sz ∧ 0 < sz ∧ k i z = true := by
 unfold chkSl at h
 split at h
 ·rename_i e he
  split at h
  ·rename_i i hi
   split at h
   ·rename_i z hz
    simp only [Bool.and_eq_true, beq_iff_eq, decide_eq_true_eq] at h
    exact ⟨e, i, z, he, hi, hz, h.1.1, h.1.2, h.2⟩
   ·cases h
  ·cases h
 ·cases h
def chkZero (P : Program) (t : TypeId) (zs : List ACell) : Bool :=
 match P.info? t with
 | some i => match i.zero with
  | some z => chkCs z.cells.toList zs
  | none => false
 | none => false
theorem chkZero_ok {P : Program} {t : TypeId} {zs : List ACell} (h : chkZero P t zs = true) : ∃ i z, P.info? t = some i ∧ i.zero = some z ∧ chkCs z.cells.toList zs = true := by
 unfold chkZero at h
 split at h
 ·rename_i i hi
  split at h
  ·rename_i z hz; exact ⟨i, z, hi, hz, h⟩
  ·cases h
 ·cases h
def chkBuild (P : Program) (t : TypeId) (parts : List (Nat × Operand)) (zs : List ACell) (ms : List (Nat × Nat × MO)) : Bool :=
 match P.underlying t with
 | some (.struct fields) => match fields.toList.mapM (fun f => (P.info? f.type).map fun i => (f.offset, i.size)) with
  | some places => chkZero P t zs && chkParts places parts ms
  | none => false
 | _ => false
def chkStore (P : Program) (t : TypeId) (sz : Nat) : Bool :=
 match P.info? t with
 | some i => i.size == sz && decide (0 < sz)
 | none => false
def chkConv (P : Program) (t u : TypeId) (k : IntKind) : Bool :=
 match P.underlying t, P.underlying u with
 | some _, some (.int k') => k == k'
 | _, _ => false
def isBool (P : Program) (t : TypeId) : Bool :=
 match P.underlying t with
 | some .bool => true
 | _ => false
def chkOp (P : Program) (o : Oper) (mo : MOp) : Bool :=
 match mo, o.op with
 | .mv m, .move x => chkMO x m
 | .mv m, .assign x => chkMO x m
 | .pick c x y, .pick c' x' y' => chkMO c' c && chkMO x' x && chkMO y' y
 | .alloc zs, .alloc e => chkZero P e zs
 | .box sz m, .box e x => chkMO x m
 | .build zs ms, .build t parts => chkBuild P t parts.toList zs ms
 | .bslice sz ms, .buildSlice t len parts => chkSl P t sz (fun _ _ => true) && (ms.length == len) && decide (parts.toList.map (·.1) = List.range len) && decide (len * sz ≤ 16777216) && chkMOs (parts.toList.map (·.2)) ms
 | .load ag sz m, .load t x => chkMO x m && chkLoad P t ag sz
 | .loadd ag sz m, .load t x => chkMO x m && chkLoad P t ag sz
 | .store sz mx my, .store t x y => o.dst.isNone && chkMO x mx && chkMO y my && chkStore P t sz
 | .nilchk m, .nilCheck x => chkMO x m
 | .bin op mx my, .binOp op' t x y t' => decide (op = op') && chkMO x mx && chkMO y my
 | .binb op mx my, .binOp op' t x y t' => decide (op = op') && chkMO x mx && chkMO y my && isBool P t
 | .un op mx, .unOp op' t x => decide (op = op') && chkMO x mx
 | .conv k mx, .convert t u x => chkMO x mx && chkConv P t u k
 | .mkslice m sz by_ zs ml mc, .makeSlice t l c => chkMO l ml && chkMO c mc && chkSl P t sz (fun i z => (i.bytes == by_) && decide (0 < by_) && chkZs z.cells.toList zs)
 | .slice sz mx mlo mhi, .slice t x lo hi none => chkMO x mx && chkOMO lo mlo && chkOMO hi mhi && chkSl P t sz (fun _ _ => true)
 | .tail sz mx ml, .slice t x (some y) none none => chkMO x mx && chkMO y ml && chkSl P t sz (fun _ _ => true)
 | .fieldA off mx, .fieldAddr s x f => chkMO x mx && chkField P s f off
 | .idxA sz mx mi, .indexAddr t x i => chkMO x mx && chkMO i mi && chkSl P t sz (fun _ _ => true)
 | .ext i mx, .extract x j => (i == j) && chkMO x mx
 | .fld ag off sz mx, .field s x f => chkMO x mx && chkFld P s f off ag sz
 | .rowm f col mx, .call c => match c.callee, c.args.toList with
  | .value (.func g), [x] => (f == g) && chkFun P f && chkRowF P f col && chkMO x mx
  | _, _ => false
 | .len mx, .call c => match c.callee, c.args.toList, c.argTypes.toList with
  | .builtin .len, [x], [t] => chkMO x mx && (match P.underlying t with | some (.slice _) => true | _ => false)
  | _, _, _ => false
 | .append fl sz by_ mx my, .call c => match c.callee, c.args.toList, c.argTypes.toList with
  | .builtin .append, [x, y], [t, t'] => (t == t') && chkMO x mx && chkMO y my && chkSl P t sz (fun i z => (i.bytes == by_) && decide (0 < by_) && (z.cells.size == sz))
  | _, _, _ => false
 | .copy sz mx my, .call c => match c.callee, c.args.toList, c.argTypes.toList with
  | .builtin .copy, [x, y], [t, t'] => (sz == 1) && chkMO x mx && chkMO y my && chkSl P t 1 (fun _ _ => true)
  | _, _, _ => false
 | .clr zc mx, .call c => match c.callee, c.args.toList, c.argTypes.toList with
  | .builtin .clear, [x], [t] => chkMO x mx && chkSl P t 1 (fun _ z => chkZs z.cells.toList [zc])
  | _, _, _ => false
 | .mm b mx my, .call c => match c.callee, c.args.toList with
  | .builtin .max, [x, y] => b && chkMO x mx && chkMO y my
  | .builtin .min, [x, y] => !b && chkMO x mx && chkMO y my
  | _, _ => false
 | .call m f ms, .call c => match c.callee with
  | .value (.func g) => (f == g) && chkFun P f && chkMOs c.args.toList ms
  | _ => false
 | .calld f ms, .call c => match c.callee with
  | .value (.func g) => (f == g) && chkFun P f && chkMOs c.args.toList ms
  | _ => false
 | .callm m f ms, .call c => match c.callee with
  | .value (.func g) => (f == g) && chkFun P f && chkMOs c.args.toList ms
  | _ => false
 | .callb f ms, .call c => match c.callee with
  | .value (.func g) => (f == g) && chkFun P f && chkMOs c.args.toList ms
  | _ => false
 | .callw f ms, .call c => match c.callee with
  | .value (.func g) => (f == g) && chkFun P f && chkMOs c.args.toList ms
  | _ => false
 | .mkfn f ms, .makeFunc (.func g) first xs => (f == g) && first.isEmpty && chkFun P f && chkMOs xs.toList ms
 | .callv m mx ms, .call c => match c.callee with
  | .value (.tmp t) => chkMO (.tmp t) mx && chkMOs c.args.toList ms
  | _ => false
 | _, _ => false
theorem chkMOs_get : ∀ {xs : List Operand} {ms : List MO}, chkMOs xs ms = true → xs.length = ms.length ∧ ∀ (j : Nat) (x : Operand) (m : MO), xs[j]? = some x → ms[j]? = some m → chkMO x m = true
 | [], [], _ => ⟨rfl, by simp⟩
 | x :: xs, m :: ms, hc => by
  simp only [chkMOs, Bool.and_eq_true] at hc
  obtain ⟨i1, i2⟩ := chkMOs_get hc.2
  refine ⟨by simp [i1], fun j x' m' hj hm => ?_⟩
  cases j with
  | zero => simp at hj hm; subst hj; subst hm; exact hc.1
  | succ j => exact i2 j x' m' (by simpa using hj) (by simpa using hm)
 | [], _ :: _, hc => by simp [chkMOs] at hc
 | _ :: _, [], hc => by simp [chkMOs] at hc
section
variable {B : Nat} {E : Ex} {w0 w w' : World} {G G' : Gh} {h h' : Nat → Option Blk} {used used' : Nat → Bool} {tk : List PC} {N : Nat}
variable {P : Program} {o : Oper} {a : Act} {σ σ' : St} {Q : Exit → Act → World → Prop}
theorem ex_okW (r : R B E w0 N σ a w G) {T : Tab} (hTW : TabOkW P T) {f : FuncId} {ms : List MO} (hN : ∀ n, o.dst = some n → n < N) (hc : chkOp P o (.callw f ms) = true) (hx : exec T o.dst (.callw f ms) σ = some σ') : o.wp P a w (Nx B E w0 N σ') Q := by
 obtain ⟨dst, op, ty, pos, after, guard⟩ := o
 cases op <;> simp only [chkOp] at hc <;> first | cases hc | skip
 rename_i c
 obtain ⟨callee, args, argTypes⟩ := c
 split at hc
 ·rename_i g hcl
  simp only at hcl
  subst hcl
  simp only [Bool.and_eq_true, beq_iff_eq] at hc
  obtain ⟨⟨rfl, c1⟩, c2⟩ := hc
  simp only [exec] at hx
  split at hx
  ·rename_i v0 hv0
   injection hx with hx
   subst hx
   exact ex_callw r hTW hN rfl c1 c2 hv0
  ·cases hx
 ·cases hc
theorem ex_okB (r : R B E w0 N σ a w G) {T : Tab} (hTV : TabOkV P T) {f : FuncId} {ms : List MO} (hN : ∀ n, o.dst = some n → n < N) (hc : chkOp P o (.callb f ms) = true) (hx : exec T o.dst (.callb f ms) σ = some σ') : o.wp P a w (Nx B E w0 N σ') Q := by
 obtain ⟨dst, op, ty, pos, after, guard⟩ := o
 cases op <;> simp only [chkOp] at hc <;> first | cases hc | skip
 rename_i c
 obtain ⟨callee, args, argTypes⟩ := c
 split at hc
 ·rename_i g hcl
  simp only at hcl
  subst hcl
  simp only [Bool.and_eq_true, beq_iff_eq] at hc
  obtain ⟨⟨rfl, c1⟩, c2⟩ := hc
  simp only [exec] at hx
  exact ex_callb r hTV hN rfl c1 c2 hx
 ·cases hc
theorem ex_ok (r : R B E w0 N σ a w G) {T : Tab} (hT : TabOk P T) (hTM : TabOkM P T) (hTV : TabOkV P T) (hTW : TabOkW P T) (hF : ∀ f M, Tab.find T.pure f = some M → chkFun P f = true) {mo : MOp} (hN : ∀ n, o.dst = some n → n < N) (hc : chkOp P o mo = true) (hx : exec T o.dst mo σ = some σ') :
  o.wp P a w (Nx B E w0 N σ') Q := by
 obtain ⟨dst, op, ty, pos, after, guard⟩ := o
 cases mo with
 | mv m =>
  simp only [exec] at hx
  injection hx with hx
  subst hx
  cases op <;> simp only [chkOp] at hc <;> first | cases hc | skip
  ·exact ex_mv r (.inl rfl) hN hc
  ·exact ex_mv r (.inr rfl) hN hc
 | pick c x y =>
  cases op <;> simp only [chkOp] at hc <;> first | cases hc | skip
  rename_i c' x' y'
  simp only [Bool.and_eq_true] at hc
  simp only [exec] at hx
  split at hx
  ·rename_i b hb
   have := ex_pick (P := P) (Q := Q) r (o := ⟨dst, .pick c' x' y', ty, pos, after, guard⟩) rfl hN hc.1.1 hc.1.2 hc.2 hb
   cases b <;> simp at hx <;> subst hx <;> exact this
  ·cases hx
 | alloc zs =>
  cases op <;> simp only [chkOp] at hc <;> first | cases hc | skip
  obtain ⟨i, z, h1, h2, h3⟩ := chkZero_ok hc
  simp only [exec] at hx
  split at hx
  ·rename_i n
   split at hx
   ·rename_i σ1 hi
    injection hx with hx
    subst hx
    exact ex_alloc r rfl rfl (hN n rfl) h1 h2 h3 hi
   ·cases hx
  ·cases hx
 | box sz m =>
  cases op <;> simp only [chkOp] at hc <;> first | cases hc | skip
  simp only [exec] at hx
  split at hx
  ·rename_i n ag cs hcs
   split at hx
   ·split at hx
    ·rename_i σ1 hi
     injection hx with hx
     subst hx
     exact ex_box r rfl rfl (hN _ rfl) hc hcs hi
    ·cases hx
   ·cases hx
  ·cases hx
 | build zs ms =>
  cases op <;> simp only [chkOp] at hc <;> first | cases hc | skip
  simp only [exec] at hx
  split at hx
  ·rename_i cs hcs
   injection hx with hx
   subst hx
   unfold chkBuild at hc
   split at hc
   ·rename_i fields hu
    split at hc
    ·rename_i places hpl
     simp only [Bool.and_eq_true] at hc
     obtain ⟨i, z, h1, h2, h3⟩ := chkZero_ok hc.1
     exact ex_build r rfl hN h1 h2 hu hpl h3 hc.2 hcs
    ·cases hc
   ·cases hc
  ·cases hx
 | bslice sz ms =>
  cases op <;> simp only [chkOp] at hc <;> first | cases hc | skip
  simp only [Bool.and_eq_true, beq_iff_eq, decide_eq_true_eq] at hc
  obtain ⟨⟨⟨⟨c1, c2⟩, c3⟩, c4⟩, c5⟩ := hc
  obtain ⟨e, i, z, h1, h2, h3, h4, h5, _⟩ := chkSl_ok c1
  simp only [exec] at hx
  split at hx
  ·rename_i n es ow σ1 htk
   split at hx
   ·rename_i σ2 hi
    injection hx with hx
    subst hx
    refine ex_bslice r rfl rfl (hN _ rfl) h1 h2 h3 h4 h5 c2 c3 c4 (fun j p m hp hm => ?_) htk hi
    exact (chkMOs_get c5).2 j p.2 m (by simp [hp]) hm
   ·cases hx
  ·cases hx
 | load ag sz m =>
  cases op <;> simp only [chkOp] at hc <;> first | cases hc | skip
  simp only [Bool.and_eq_true] at hc
  simp only [exec] at hx
  split at hx
  ·rename_i p hp
   split at hx
   ·rename_i cs hcs
    injection hx with hx
    subst hx
    exact ex_load r rfl hN hc.1 hc.2 hp hcs
   ·cases hx
  ·cases hx
 | loadd ag sz m =>
  cases op <;> simp only [chkOp] at hc <;> first | cases hc | skip
  simp only [Bool.and_eq_true] at hc
  simp only [exec] at hx
  split at hx
  ·rename_i p hp
   split at hx
   ·rename_i σ1 hf
    split at hx
    ·rename_i cs hcs
     injection hx with hx
     subst hx
     exact ex_loadd r rfl hN hc.1 hc.2 hp hf hcs
    ·cases hx
   ·cases hx
  ·cases hx
 | store sz mx my =>
  cases op <;> simp only [chkOp] at hc <;> first | cases hc | skip
  simp only [Bool.and_eq_true] at hc
  obtain ⟨⟨⟨c0, c1⟩, c2⟩, c3⟩ := hc
  have hd : dst = none := by simpa using c0
  unfold chkStore at c3
  split at c3
  ·rename_i i hi
   simp only [Bool.and_eq_true, beq_iff_eq, decide_eq_true_eq] at c3
   simp only [exec] at hx
   split at hx
   ·rename_i n k rsz off ag vs hp hv
    split at hx
    ·rename_i hl
     split at hx
     ·rename_i cs hn
      split at hx
      ·rename_i hk
       injection hx with hx
       subst hx
       exact ex_store_box r rfl hd c1 c2 hi c3.1 c3.2 hp hv hl hn hk.1 hk.2
      ·cases hx
     ·rename_i gr m rs xs hn
      split at hx
      ·rename_i hrs
       subst hrs
       split at hx
       ·rename_i el hel
        exact ex_store_row r rfl hd c1 c2 hi c3.1 c3.2 hp hv hl hn hel hx
       ·cases hx
      ·cases hx
     ·cases hx
    ·cases hx
   ·rename_i n k rsz off s i ag vs hp hv
    split at hx
    ·rename_i hl
     split at hx
     ·rename_i gr rs xs hn
      split at hx
      ·rename_i hrs
       subst hrs
       split at hx
       ·rename_i xs' hst
        injection hx with hx
        subst hx
        exact ex_store_nest r rfl hd c1 c2 hi c3.1 c3.2 hp hv hl hn hst
       ·cases hx
      ·cases hx
     ·cases hx
    ·cases hx
   ·cases hx
  ·cases c3
 | nilchk m =>
  cases op <;> simp only [chkOp] at hc <;> first | cases hc | skip
  simp only [exec] at hx
  split at hx
  ·rename_i n k sz off hp
   split at hx
   ·rename_i hn
    injection hx with hx
    subst hx
    rw [← hp]
    exact ex_nilchk r rfl hN hc (.inl ⟨_, _, _, _, hp, hn⟩)
   ·cases hx
  ·rename_i xs off hp
   injection hx with hx
   subst hx
   rw [← hp]
   exact ex_nilchk r rfl hN hc (.inr ⟨_, _, hp⟩)
  ·cases hx
 | bin op' mx my =>
  cases op <;> simp only [chkOp] at hc <;> first | cases hc | skip
  simp only [Bool.and_eq_true, decide_eq_true_eq] at hc
  obtain ⟨⟨rfl, c1⟩, c2⟩ := hc
  simp only [exec] at hx
  split at hx
  ·rename_i c hb
   injection hx with hx
   subst hx
   exact ex_bin r rfl hN c1 c2 hb
  ·cases hx
 | binb op' mx my =>
  cases op <;> simp only [chkOp] at hc <;> first | cases hc | skip
  simp only [Bool.and_eq_true, decide_eq_true_eq] at hc
  obtain ⟨⟨⟨rfl, c1⟩, c2⟩, c3⟩ := hc
  unfold isBool at c3
  split at c3
  ·rename_i ht
   simp only [exec] at hx
   split at hx
   ·rename_i c hb
    injection hx with hx
    subst hx
    exact ex_binb r rfl hN c1 c2 ht hb
   ·cases hx
  ·cases c3
 | un op' mx =>
  cases op <;> simp only [chkOp] at hc <;> first | cases hc | skip
  simp only [Bool.and_eq_true, decide_eq_true_eq] at hc
  obtain ⟨rfl, c1⟩ := hc
  simp only [exec] at hx
  split at hx
  ·rename_i c hb
   injection hx with hx
   subst hx
   exact ex_un r rfl hN c1 hb
  ·cases hx
 | conv k mx =>
  cases op <;> simp only [chkOp] at hc <;> first | cases hc | skip
  simp only [Bool.and_eq_true] at hc
  obtain ⟨c1, c2⟩ := hc
  unfold chkConv at c2
  split at c2
  ·rename_i d k' ht hu
   have hk : k = k' := by simpa using c2
   subst hk
   simp only [exec] at hx
   split at hx
   ·rename_i k2 n hb
    injection hx with hx
    subst hx
    exact ex_conv r rfl hN c1 ht hu hb
   ·cases hx
  ·cases c2
 | mkslice m sz by_ zs ml mc =>
  cases op <;> simp only [chkOp] at hc <;> first | cases hc | skip
  simp only [Bool.and_eq_true] at hc
  obtain ⟨⟨c1, c2⟩, c3⟩ := hc
  obtain ⟨e, i, z, h1, h2, h3, h4, h5, h6⟩ := chkSl_ok c3
  simp only [Bool.and_eq_true, beq_iff_eq, decide_eq_true_eq] at h6
  simp only [exec] at hx
  split at hx
  ·rename_i n q q' hq hq'
   split at hx
   ·rename_i hcond
    obtain ⟨k1, k2, k3, k4⟩ := hcond
    split at hx
    ·rename_i σ1 hi
     injection hx with hx
     subst hx
     exact ex_mkslice r rfl rfl (hN _ rfl) c1 c2 h1 h2 h3 h4 h6.1.1 h6.1.2 h5 h6.2 hq hq' k1 k2 k3 k4 hi
    ·cases hx
   ·cases hx
  ·cases hx
 | slice sz mx mlo mhi =>
  cases op <;> simp only [chkOp] at hc <;> first | cases hc | skip
  rename_i t x lo hi mm
  cases mm <;> simp only [chkOp] at hc <;> first | cases hc | skip
  simp only [Bool.and_eq_true] at hc
  obtain ⟨⟨⟨c1, c2⟩, c3⟩, c4⟩ := hc
  obtain ⟨e, i, z, h1, h2, h3, h4, h5, _⟩ := chkSl_ok c4
  have hlo : ∀ l, (match mlo with | none => some 0 | some l => (σ.ev l).int?) = some l → (lo = none ∧ l = 0) ∨ ∃ y my, lo = some y ∧ chkMO y my = true ∧ (σ.ev my).int? = some l := by
   intro l hl
   cases mlo with
   | none => cases lo <;> simp [chkOMO] at c2; simp at hl; exact .inl ⟨rfl, hl.symm⟩
   | some my => cases lo <;> simp [chkOMO] at c2; exact .inr ⟨_, my, rfl, c2, hl⟩
  have hhi : ∀ (len : Nat) hh, (match mhi with | none => some (len : Int) | some h => (σ.ev h).int?) = some hh → (hi = none ∧ hh = len) ∨ ∃ y my, hi = some y ∧ chkMO y my = true ∧ (σ.ev my).int? = some hh := by
   intro len l hl
   cases mhi with
   | none => cases hi <;> simp [chkOMO] at c3; simp at hl; exact .inl ⟨rfl, hl.symm⟩
   | some my => cases hi <;> simp [chkOMO] at c3; exact .inr ⟨_, my, rfl, c3, hl⟩
  simp only [exec] at hx
  split at hx
  ·rename_i n s l0 len l hp hl
   split at hx
   ·rename_i hh hhh
    split at hx
    ·rename_i hcond
     obtain ⟨rfl, k1, k2, k3, k4⟩ := hcond
     injection hx with hx
     subst hx
     exact ex_slice r rfl hN c1 h1 h2 h4 h5 (hlo l hl) (hhi len hh hhh) k1 k2 k3 (.inl ⟨n, l0, hp, k4, rfl⟩)
    ·cases hx
   ·cases hx
  ·rename_i s xs l hp hl
   split at hx
   ·rename_i hh hhh
    split at hx
    ·rename_i hcond
     obtain ⟨rfl, k1, k2, k3⟩ := hcond
     injection hx with hx
     subst hx
     exact ex_slice r rfl hN c1 h1 h2 h4 h5 (hlo l hl) (hhi xs.length hh hhh) k1 k2 k3 (.inr ⟨xs, hp, rfl, rfl⟩)
    ·cases hx
   ·cases hx
  ·cases hx
 | tail sz mx ml =>
  cases op <;> simp only [chkOp] at hc <;> first | cases hc | skip
  rename_i t x lo hi mm
  cases mm <;> cases hi <;> cases lo <;> simp only [chkOp] at hc <;> first | cases hc | skip
  rename_i y
  simp only [Bool.and_eq_true] at hc
  obtain ⟨⟨c1, c2⟩, c4⟩ := hc
  obtain ⟨e, i, z, h1, h2, h3, h4, h5, _⟩ := chkSl_ok c4
  simp only [exec] at hx
  split at hx
  ·rename_i n a0 s len l hp hl
   split at hx
   ·rename_i m rs xs hn
    split at hx
    ·rename_i hcond
     obtain ⟨rfl, rfl, rfl, k1, k2⟩ := hcond
     split at hx
     ·rename_i σ1 e1
      injection hx with hx
      subst hx
      exact ex_tail r rfl rfl (hN _ rfl) c1 c2 h1 h2 h4 h5 hp hl k1 k2 hn e1
     ·cases hx
    ·cases hx
   ·cases hx
  ·cases hx
 | fieldA off mx =>
  cases op <;> simp only [chkOp] at hc <;> first | cases hc | skip
  simp only [Bool.and_eq_true] at hc
  simp only [exec] at hx
  split at hx
  ·rename_i n k sz q hp
   split at hx
   ·rename_i hn
    injection hx with hx
    subst hx
    exact ex_fieldA r rfl hN hc.1 hc.2 (.inl ⟨_, _, _, _, hp, hn, rfl⟩)
   ·cases hx
  ·rename_i xs q hp
   injection hx with hx
   subst hx
   exact ex_fieldA r rfl hN hc.1 hc.2 (.inr ⟨_, _, hp, rfl⟩)
  ·cases hx
 | idxA sz mx mi =>
  cases op <;> simp only [chkOp] at hc <;> first | cases hc | skip
  simp only [Bool.and_eq_true] at hc
  obtain ⟨⟨c1, c2⟩, c3⟩ := hc
  obtain ⟨e, i, z, h1, h2, h3, h4, h5, _⟩ := chkSl_ok c3
  simp only [exec] at hx
  split at hx
  ·rename_i n s lo len k hp hk
   split at hx
   ·rename_i hcond
    obtain ⟨rfl, k1, k2, k3⟩ := hcond
    injection hx with hx
    subst hx
    exact ex_idxA r rfl hN c1 c2 h1 h2 h4 hk k1 (.inl ⟨_, _, _, hp, k2, k3, rfl⟩)
   ·cases hx
  ·rename_i s xs k hp hk
   split at hx
   ·rename_i hcond
    obtain ⟨rfl, k1⟩ := hcond
    split at hx
    ·rename_i el hel
     injection hx with hx
     subst hx
     exact ex_idxA r rfl hN c1 c2 h1 h2 h4 hk k1 (.inr ⟨_, _, hp, hel, rfl⟩)
    ·cases hx
   ·cases hx
  ·rename_i n kk rsz off s len k hp hk
   split at hx
   ·rename_i s' ys hvw
    split at hx
    ·rename_i hcond
     obtain ⟨rfl, k1, k2⟩ := hcond
     injection hx with hx
     subst hx
     exact ex_idxN r rfl hN c1 c2 h1 h2 h4 hk k1 k2 hp hvw
    ·cases hx
   ·cases hx
  ·cases hx
 | ext i mx =>
  cases op <;> simp only [chkOp] at hc <;> first | cases hc | skip
  simp only [Bool.and_eq_true, beq_iff_eq] at hc
  obtain ⟨rfl, c1⟩ := hc
  simp only [exec] at hx
  split at hx
  ·rename_i xs hp
   split at hx
   ·rename_i ag cs hcs
    injection hx with hx
    subst hx
    refine ex_ext r rfl hN c1 hp hcs fun hag => ?_
    subst hag
    obtain ⟨y1, _⟩ := r.ev c1
    rw [hp] at y1
    obtain ⟨vs, _, hl, hv⟩ := y1
    have hi : i < vs.length := by rw [hl]; exact (List.getElem?_eq_some_iff.1 hcs).1
    have : RCl w G σ.h cs [vs[i]] := hv i (false, cs) vs[i] hcs (List.getElem?_eq_getElem hi)
    exact List.length_eq_one_iff.1 this.1.symm
   ·cases hx
  ·cases hx
 | fld ag off sz mx =>
  cases op <;> simp only [chkOp] at hc <;> first | cases hc | skip
  simp only [Bool.and_eq_true] at hc
  simp only [exec] at hx
  split at hx
  ·rename_i cs hp
   split at hx
   ·rename_i l hl
    injection hx with hx
    subst hx
    exact ex_fld r rfl hN hc.1 hc.2 hp hl
   ·cases hx
  ·cases hx
 | rowm f col mx =>
  cases op <;> simp only [chkOp] at hc <;> first | cases hc | skip
  rename_i c
  obtain ⟨cal, args, atys⟩ := c
  simp only at hc
  split at hc
  ·rename_i g x hargs
   simp only [Bool.and_eq_true, beq_iff_eq] at hc
   obtain ⟨⟨⟨hfg, c1⟩, c2⟩, c3⟩ := hc
   subst hfg
   have ea : args = #[x] := by apply Array.ext'; simpa using hargs
   subst ea
   simp only [exec] at hx
   split at hx
   ·rename_i n sz lo len hp
    split at hx
    ·rename_i hs
     injection hx with hx
     subst hx
     exact ex_rowm r hN rfl c1 c2 c3 hp (.inl ⟨n, sz, lo, rfl, hs⟩)
    ·cases hx
   ·rename_i sz xs hp
    injection hx with hx
    subst hx
    exact ex_rowm r hN rfl c1 c2 c3 hp (.inr (.inl ⟨sz, xs, rfl, rfl⟩))
   ·rename_i sz hp
    injection hx with hx
    subst hx
    exact ex_rowm r (len := 0) hN rfl c1 c2 c3 hp (.inr (.inr ⟨sz, rfl, rfl⟩))
   ·cases hx
  ·cases hc
 | len mx =>
  cases op <;> simp only [chkOp] at hc <;> first | cases hc | skip
  rename_i c
  obtain ⟨callee, args, argTypes⟩ := c
  split at hc
  ·rename_i x t hcl ha ht
   simp only at hcl ha ht
   subst hcl
   have ha' : args = #[x] := by apply Array.ext'; exact ha
   have ht' : argTypes = #[t] := by apply Array.ext'; exact ht
   subst ha' ht'
   simp only [Bool.and_eq_true] at hc
   obtain ⟨c1, c2⟩ := hc
   split at c2
   ·rename_i e hu
    simp only [exec] at hx
    split at hx
    ·rename_i n sz lo len hp
     split at hx
     ·rename_i hn
      injection hx with hx
      subst hx
      exact ex_len r rfl hN c1 hu (.inl ⟨_, _, _, hp, hn⟩)
     ·cases hx
    ·rename_i sz xs hp
     injection hx with hx
     subst hx
     exact ex_len r rfl hN c1 hu (.inr (.inl ⟨_, _, hp, rfl⟩))
    ·rename_i sz hp
     injection hx with hx
     subst hx
     exact ex_len r rfl hN c1 hu (.inr (.inr (.inl ⟨_, hp, rfl⟩)))
    ·rename_i n k rsz off sz len hp
     split at hx
     ·rename_i s ys hys
      injection hx with hx
      subst hx
      exact ex_len r rfl hN c1 hu (.inr (.inr (.inr ⟨_, _, _, _, _, _, _, _, hp, hys, rfl⟩)))
     ·cases hx
    ·cases hx
   ·cases c2
  ·cases hc
 | append fl sz by_ mx my =>
  cases op <;> simp only [chkOp] at hc <;> first | cases hc | skip
  rename_i c
  obtain ⟨callee, args, argTypes⟩ := c
  split at hc
  ·rename_i x y t t' hcl ha ht
   simp only at hcl ha ht
   subst hcl
   have ha' : args = #[x, y] := by apply Array.ext'; exact ha
   have ht' : argTypes = #[t, t'] := by apply Array.ext'; exact ht
   subst ha' ht'
   simp only [Bool.and_eq_true, beq_iff_eq] at hc
   obtain ⟨⟨⟨rfl, c1⟩, c2⟩, c3⟩ := hc
   obtain ⟨e, i, z, h1, h2, h3, h4, h5, h6⟩ := chkSl_ok c3
   simp only [Bool.and_eq_true, beq_iff_eq, decide_eq_true_eq] at h6
   simp only [exec] at hx
   split at hx
   ·cases hx
   ·rename_i n
    split at hx
    ·cases hx
    ·rename_i xs m σ1 hl
     split at hx
     ·cases hx
     ·rename_i ys m2 σ2 hr
      split at hx
      ·rename_i hb
       split at hx
       ·rename_i σ3 hi
        injection hx with hx
        subst hx
        exact ex_append r rfl rfl (hN _ rfl) c1 c2 h1 h2 h3 h4 h5 h6.1.1 h6.1.2 h6.2 hl hr hb hi
       ·cases hx
      ·cases hx
  ·cases hc
 | copy sz mx my =>
  cases op <;> simp only [chkOp] at hc <;> first | cases hc | skip
  rename_i c
  obtain ⟨callee, args, argTypes⟩ := c
  split at hc
  ·rename_i x y t t' hcl ha ht
   simp only at hcl ha ht
   subst hcl
   have ha' : args = #[x, y] := by apply Array.ext'; exact ha
   have ht' : argTypes = #[t, t'] := by apply Array.ext'; exact ht
   subst ha' ht'
   simp only [Bool.and_eq_true, beq_iff_eq] at hc
   obtain ⟨⟨⟨c0, c1⟩, c2⟩, c3⟩ := hc
   obtain ⟨e, i, z, h1, h2, h3, h4, h5, _⟩ := chkSl_ok c3
   simp only [exec] at hx
   split at hx
   ·rename_i n s lo len cc hp hq
    split at hx
    ·rename_i gr m rs xs s' ys hn hv
     split at hx
     ·rename_i hcond
      obtain ⟨rfl, rfl, rfl, rfl, k1, k2, k3, k4⟩ := hcond
      injection hx with hx
      subst hx
      exact ex_copy r rfl hN c1 c2 h1 h2 h4 hp hq hn hv k1 k2 k3 k4
     ·cases hx
    ·cases hx
   ·cases hx
  ·cases hc
 | clr zc mx =>
  cases op <;> simp only [chkOp] at hc <;> first | cases hc | skip
  rename_i c
  obtain ⟨callee, args, argTypes⟩ := c
  split at hc
  ·rename_i x t hcl ha ht
   simp only at hcl ha ht
   subst hcl
   have ha' : args = #[x] := by apply Array.ext'; exact ha
   have ht' : argTypes = #[t] := by apply Array.ext'; exact ht
   subst ha' ht'
   simp only [Bool.and_eq_true] at hc
   obtain ⟨c1, c3⟩ := hc
   obtain ⟨e, i, z, h1, h2, h3, h4, h5, h6⟩ := chkSl_ok c3
   simp only [exec] at hx
   split at hx
   ·rename_i n s lo len hp
    split at hx
    ·rename_i gr m rs xs hn
     split at hx
     ·rename_i hcond
      obtain ⟨rfl, rfl, k0, k1, k2, k3⟩ := hcond
      injection hx with hx
      subst hx
      exact ex_clr r rfl hN c1 h1 h2 h3 h6 k0 hp hn k1 k2 k3
     ·cases hx
    ·cases hx
   ·cases hx
  ·cases hc
 | mm b mx my =>
  cases op <;> simp only [chkOp] at hc <;> first | cases hc | skip
  rename_i c
  obtain ⟨callee, args, argTypes⟩ := c
  have key : ∀ x y, callee = .builtin (if b = true then .max else .min) → args = #[x, y] → chkMO x mx = true → chkMO y my = true → 
    Oper.wp P ⟨dst, .call ⟨callee, args, argTypes⟩, ty, pos, after, guard⟩ a w (Nx B E w0 N σ') Q := by
   intro x y hcl ha c1 c2
   subst hcl ha
   simp only [exec] at hx
   split at hx
   ·rename_i k n k' m h1 h2
    have := ex_mm (P := P) (Q := Q) (mx' := b) r (o := ⟨dst, .call ⟨.builtin (if b = true then .max else .min), #[x, y], argTypes⟩, ty, pos, after, guard⟩) rfl hN c1 c2 h1 h2
    cases b
    ·simp at hx this
     split at hx <;> (rename_i hlt; injection hx with hx; subst hx; simpa [hlt] using this)
    ·simp at hx this
     split at hx <;> (rename_i hlt; injection hx with hx; subst hx; simpa [hlt] using this)
   ·cases hx
  split at hc
  ·rename_i x y hcl ha
   simp only [Bool.and_eq_true] at hc
   obtain ⟨⟨rfl, c1⟩, c2⟩ := hc
   exact key x y hcl (by apply Array.ext'; exact ha) c1 c2
  ·rename_i x y hcl ha
   simp only [Bool.and_eq_true, Bool.not_eq_true'] at hc
   obtain ⟨⟨rfl, c1⟩, c2⟩ := hc
   exact key x y hcl (by apply Array.ext'; exact ha) c1 c2
  ·cases hc
 | call m f ms =>
  cases op <;> simp only [chkOp] at hc <;> first | cases hc | skip
  rename_i c
  obtain ⟨callee, args, argTypes⟩ := c
  split at hc
  ·rename_i g hcl
   simp only at hcl
   subst hcl
   simp only [Bool.and_eq_true, beq_iff_eq] at hc
   obtain ⟨⟨rfl, c1⟩, c2⟩ := hc
   exact ex_call r hT hN rfl c1 c2 hx
  ·cases hc
 | calld f ms =>
  cases op <;> simp only [chkOp] at hc <;> first | cases hc | skip
  rename_i c
  obtain ⟨callee, args, argTypes⟩ := c
  split at hc
  ·rename_i g hcl
   simp only at hcl
   subst hcl
   simp only [Bool.and_eq_true, beq_iff_eq] at hc
   obtain ⟨⟨rfl, c1⟩, c2⟩ := hc
   simp only [exec] at hx
   split at hx
   ·rename_i z hz
    injection hx with hx
    subst hx
    exact ex_calld r hT hN rfl c1 c2 hz
   ·cases hx
  ·cases hc
 | callm m f ms =>
  cases op <;> simp only [chkOp] at hc <;> first | cases hc | skip
  rename_i c
  obtain ⟨callee, args, argTypes⟩ := c
  split at hc
  ·rename_i g hcl
   simp only at hcl
   subst hcl
   simp only [Bool.and_eq_true, beq_iff_eq] at hc
   obtain ⟨⟨rfl, c1⟩, c2⟩ := hc
   simp only [exec] at hx
   exact ex_callm r hTM hN rfl c1 c2 hx
  ·cases hc
 | callb f ms => exact ex_okB r hTV hN hc hx
 | callw f ms => exact ex_okW r hTW hN hc hx
 | mkfn f ms =>
  cases op <;> simp only [chkOp] at hc <;> first | cases hc | skip
  rename_i fn first xs
  cases fn <;> simp only at hc <;> first | cases hc | skip
  simp only [Bool.and_eq_true, beq_iff_eq] at hc
  obtain ⟨⟨⟨rfl, c0⟩, c1⟩, c2⟩ := hc
  have hf0 : first = #[] := by simpa using c0
  subst hf0
  obtain ⟨g1, g2⟩ := chkMOs_get c2
  simp only [exec] at hx
  split at hx
  ·rename_i cs hcs
   split at hx
   ·rename_i hj
    injection hx with hx
    subst hx
    exact ex_mkfn r rfl hN ⟨by simpa using g1.symm, g2⟩ hcs (fun c hc hcj => by
     have := List.all_eq_true.1 hj c hc
     subst hcj
     simp [ACell.notJunk] at this)
   ·cases hx
  ·cases hx
 | callv m mx ms =>
  cases op <;> simp only [chkOp] at hc <;> first | cases hc | skip
  rename_i c
  obtain ⟨callee, args, argTypes⟩ := c
  split at hc
  ·rename_i t hcl
   simp only at hcl
   subst hcl
   simp only [Bool.and_eq_true] at hc
   simp only [exec] at hx
   split at hx
   ·rename_i f caps hp
    have hfk : chkFun P f = true := by
     have hx' := hx
     unfold doCall at hx'
     split at hx'
     ·split at hx'
      ·rename_i M hM; exact hF f M hM
      ·cases hx'
     ·cases hx'
    exact ex_callv r hT hN rfl hfk hc.1 hc.2 hp hx
   ·cases hx
  ·cases hc
end
end Go.Am