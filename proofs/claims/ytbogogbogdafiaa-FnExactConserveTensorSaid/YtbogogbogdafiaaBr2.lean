/- Br2: a law whose model is true at all data holds. No condition. -/
import Derived.Test.YtbogogbogdafiaaBr1
import Derived.WalkKit
import Derived.ProofKit
import Derived.OpenShut
set_option linter.unusedVariables false
namespace Go.Am
open Go.ChangeShapes Go.WideShapes Go.ChangeAt Go.RowKit
def WfA : (as : Sig) → DLL as.tys → Prop
 | [], _ => True
 | [a], x => Ty.WfL a.2 x
 | a :: b :: as, x => Ty.WfL a.2 x.1 ∧ WfA (b :: as) x.2
theorem consDLL_wf (a : K × List Ty) (as : Sig) (x : Ty.DL a.2) (y : DLL (Sig.tys as)) : Ty.WfL a.2 x → WfA as y → WfA (a :: as) (consDLL a.2 (Sig.tys as) x y) := by
 intro h1 h2
 cases as with
 | nil => exact h1
 | cons b as => exact ⟨h1, h2⟩
def chkParam (P : Program) (t : TypeId) (a : K × List Ty) : Bool :=
 match tyOf P 30 t with
 | some ts => Ty.beqL ts a.2 && (match P.underlying t, a.1 with
  | some (.struct _), .agg => true
  | some (.int _), .one => true
  | some .bool, .one => true
  | some (.slice _), .one => true
  | _, _ => false)
 | none => false
def chkParams (P : Program) : List TypeId → Sig → Bool
 | [], [] => true
 | t :: ts, a :: as => chkParam P t a && chkParams P ts as
 | _, _ => false
section
variable {H : Type} {enc : TypeId × Value → H} {P : Program} {w w' : World} {sp : Nat → Bool} {held : Bool}
theorem arg_ok {t : TypeId} {a : K × List Ty} {v : Value} {d : DataW H} {ps : List MemPlace} (hc : chkParam P t a = true) (hv : Value.okWide P w .any 0 t v) (hd : DataW.Trod enc P w 0 sp held t v d ps) :
  ∃ x : Ty.DL a.2, ArgOk w (a.1, Ty.erL a.2 x) v ∧ Ty.WfL a.2 x := by
 obtain ⟨fuel, hd⟩ := hd
 unfold chkParam at hc
 split at hc
 ·rename_i ts hts
  simp only [Bool.and_eq_true] at hc
  obtain ⟨h1, h2⟩ := hc
  have h1 := Ty.beqL_eq h1
  subst h1
  obtain ⟨x, pcs, e1, e2, e3, e4⟩ := trod_reads fuel t v.cells.toList _ 30 a.2 hd hts
  refine ⟨x, ?_, e4⟩
  unfold Value.okWide at hv
  have one : (∀ cs, v ≠ .agg cs) → a.1 = .one → ArgOk w (a.1, Ty.erL a.2 x) v := by
   intro hn ha
   have hcells : v.cells.toList = [v] := by cases v <;> first | rfl | (rename_i cs; exact absurd rfl (hn cs))
   rw [ha]
   exact ⟨pcs, e1, e3, by rw [e2, hcells]⟩
  split at h2
  ·rename_i fs hu ha
   rw [hu] at hv
   obtain ⟨cs, rfl, _, _⟩ := hv
   rw [ha]
   exact ⟨pcs, e1, e3, by rw [e2]; rfl⟩
  ·rename_i k hu ha
   refine one (fun cs e => ?_) ha
   subst e
   rw [hu] at hv
   simp [Cell.okWide, hu, Cell.ok] at hv
  ·rename_i hu ha
   refine one (fun cs e => ?_) ha
   subst e
   rw [hu] at hv
   simp [Cell.okWide, hu, Cell.ok] at hv
  ·rename_i e hu ha
   refine one (fun cs e => ?_) ha
   subst e
   rw [hu] at hv
   simp [Cell.okWide, hu, Cell.ok] at hv
  ·cases h2
 ·cases hc
theorem args_ok : ∀ {ts : List TypeId} {as : Sig} {vs : List Value} {ds : List (DataW H)} {ps : List MemPlace}, chkParams P ts as = true → (∀ (j : Nat) (t : TypeId) (v : Value), ts[j]? = some t → vs[j]? = some v → Value.okWide P w .any 0 t v) →
  DataW.TrodAll enc P w 0 sp held ts vs ds ps → ∃ x : DLL (Sig.tys as), ArgsOk w (erA as x) vs ∧ WfA as x
 | [], [], vs, ds, ps, hc, hv, h => by
  obtain ⟨rfl, rfl, rfl⟩ := trodAll_nil h
  exact ⟨(), ⟨rfl, by intro j d v hj; simp [erA] at hj⟩, trivial⟩
 | t :: ts, a :: as, vs, ds, ps, hc, hv, h => by
  simp only [chkParams, Bool.and_eq_true] at hc
  obtain ⟨v, vs1, d, ds1, p, q, rfl, rfl, rfl, h1, h2⟩ := trodAll_cons h
  obtain ⟨x, a1, a2⟩ := arg_ok hc.1 (hv 0 t v rfl rfl) h1
  obtain ⟨y, b1, b2⟩ := args_ok hc.2 (fun j t v h3 h4 => hv (j + 1) t v (by simpa using h3) (by simpa using h4)) h2
  refine ⟨consDLL a.2 (Sig.tys as) x y, ?_, consDLL_wf a as x y a2 b2⟩
  rw [erA_cons]
  refine ⟨by simp [b1.1], fun j d v hj hv' => ?_⟩
  cases j with
  | zero => simp at hj hv'; subst hj; subst hv'; exact a1
  | succ j => exact b1.2 j d v (by simpa using hj) (by simpa using hv')
 | [], _ :: _, vs, ds, ps, hc, hv, h => by simp [chkParams] at hc
 | _ :: _, [], vs, ds, ps, hc, hv, h => by simp [chkParams] at hc
theorem trodAll_carry (hw : ∀ b, b < w.heap.size → w'.heap[b]? = w.heap[b]?) : ∀ {ts : List TypeId} {vs : List Value} {ds : List (DataW H)} {ps : List MemPlace}, DataW.TrodAll enc P w 0 sp held ts vs ds ps → DataW.TrodAll enc P w' 0 sp held ts vs ds ps
 | [], [], [], _, h => h
 | t :: ts, v :: vs, d :: ds, _, ⟨p, q, ⟨n, h1⟩, h2, e⟩ => by
  refine ⟨p, q, ⟨n, DataW.trod_carry n t _ _ h1 fun pl hpl => ?_⟩, trodAll_carry hw h2, e⟩
  have hlt := DataW.trod_lt n t _ _ h1 pl hpl
  cases pl with
  | cell b o =>
   have hb := hw b hlt
   simp only [World.sameAt, World.cell?, hb]
  | map b => exact hw b hlt
 | [], [], _ :: _, _, h => h.elim
 | [], _ :: _, _, _, h => h.elim
 | _ :: _, [], _, _, h => h.elim
 | _ :: _, _ :: _, [], _, h => h.elim
theorem keptBut_of (h1 : w'.os = w.os) (h2 : w'.output = w.output) (hw : ∀ b, b < w.heap.size → w'.heap[b]? = w.heap[b]?) (may : MemPlace → Prop) : w.keptBut w' may := by
 have base := World.keptBut_refl w may
 refine ⟨h1, h2, fun i hi => ?_⟩
 rw [hw i hi]
 exact base.2.2 i hi
theorem post_same {f : Func} {s : ChangeSpec} {apart fresh handsOn again : Bool} {W W' : World} {args : Array Value} {v : Value} {ds gs : List (DataW H)} {before pa pv : List MemPlace}
  (hW : DataW.Whole enc P f.params.toList s.vars apart W args.toList ds gs before)
  (hres : ∀ (b : Nat) (sp : Nat → Bool) (hd : Bool), DataW.TrodAll enc P W' b sp hd f.resultTypes.toList (v.resultList f.resultTypes.size) (s.fn H (ds ++ gs)).results [])
  (hargs : ∀ sp : Nat → Bool, (∀ p ∈ before, sp p.block = true) → DataW.TrodAll enc P W' 0 sp true f.params.toList args.toList (s.fn H (ds ++ gs)).args pa)
  (hvars : ∀ sp : Nat → Bool, (∀ p ∈ before, sp p.block = true) → DataW.TrodVars enc P W' sp s.vars (s.fn H (ds ++ gs)).vars pv)
  (hps : before = pa ++ pv) (hk : W.keptBut W' (· ∈ before)) (hfz : ∀ a : Addr, a.block < W.heap.size → W'.frozen? a = W.frozen? a)
  (hok : ∀ (j : Nat) (t : TypeId) (r : Value), f.resultTypes[j]? = some t → (v.resultList f.resultTypes.size)[j]? = some r → Value.okWide P W' .any 0 t r) :
  s.post enc P f apart fresh handsOn again W args v W' := by
 have hold : ∀ p ∈ before, (fun b => decide (b < W.heap.size)) p.block = true := fun p hp => by simpa using hW.lt p hp
 have hlt := hW.lt
 refine ⟨ds, gs, before, [], pa, pv, hW, hres _ _ _, hargs _ hold, hvars _ hold, World.keptBut_mono (fun p hp => ⟨hp, ?_⟩) hk, fun _ => ?_⟩
 ·rw [hps, List.mem_append] at hp
  exact Or.inr hp
 ·obtain ⟨_, _, _, _, _, hz, hn⟩ := hW
  refine ⟨hok, _, _, ([] ++ pa) ++ pv, ⟨[] ++ pa, pv, trodAll_append (hargs _ (fun _ _ => rfl)) (hres _ _ _), hvars _ (fun _ _ => rfl), rfl, ?_, ?_⟩, ?_⟩
  ·intro b off hp
   have hp' : MemPlace.cell b off ∈ before := by rw [hps]; simpa using hp
   rw [hfz ⟨b, off, none⟩ (hlt _ hp')]
   exact hz b off hp'
  ·intro ha
   have := hn ha
   rw [hps] at this
   simpa using this
  ·intro p hp _
   rw [hps]
   simpa using hp
theorem ret_true {prs : List (K × List PC)} {b : Bool} (h : prs.map (fun p => (p.1, p.2.map PC.er)) = [(K.one, [C.bool b])]) : retVal prs = .bool b := by
 match prs, h with
 | [], h => simp at h
 | _ :: _ :: _, h => simp at h
 | [(k, pcs)], h =>
  simp only [List.map_cons, List.map_nil, List.cons.injEq, Prod.mk.injEq, and_true] at h
  obtain ⟨rfl, h⟩ := h
  match pcs, h with
  | [], h => simp at h
  | _ :: _ :: _, h => simp at h
  | [pc], h =>
   simp only [List.map_cons, List.map_nil, List.cons.injEq, and_true] at h
   cases pc with
   | bool b => simp [PC.er] at h; subst h; rfl
   | int k n => simp [PC.er] at h
   | list sz a cap xs => rw [PC.er_list] at h; cases h
theorem trodAll_len : ∀ {ts : List TypeId} {vs : List Value} {ds : List (DataW H)} {ps : List MemPlace}, DataW.TrodAll enc P w 0 sp held ts vs ds ps → ds.length = ts.length
 | [], vs, ds, ps, h => by obtain ⟨rfl, rfl, rfl⟩ := trodAll_nil h; rfl
 | t :: ts, vs, ds, ps, h => by
  obtain ⟨v, vs1, d, ds1, p, q, rfl, rfl, rfl, h1, h2⟩ := trodAll_cons h
  simp [trodAll_len h2]
def fullB (P : Program) : Bool := (List.range P.types.size).all fun t => match P.underlying t with | some (.slice e) => decide (0 < P.cellsOf e) | _ => true
theorem law_ok {f : FuncId} {fn : Func} {s : ChangeSpec} {sg : Sig} {M : List Dv → Option (List Dv)} {tb : TypeId} (hl : laidOutB P = true) (hmr : mapsRowed P = true)
  (hz : fullB P = true)
  (hts : ∀ t ∈ fn.params.toList, t < P.types.size)
  (hp : chkParams P fn.params.toList sg = true) (hr : fn.resultTypes = #[tb]) (hb : P.underlying tb = some .bool) (hs : s.vars = [])
  (hsp : ∀ ds : List (DataW H), ds.length = fn.params.toList.length → (s.fn H ds).results = [.lit (.bool true)] ∧ (s.fn H ds).args = ds ∧ (s.fn H ds).vars = [])
  (hpure : PureSpec P f M) (hM : ∀ x : DLL (Sig.tys sg), WfA sg x → M (erA sg x) = some [(.one, [.bool true])]) {apart fresh handsOn again : Bool}
  {W : World} {base : Nat} {args : Array Value} {ds gs : List (DataW H)} {before : List MemPlace}
  (hval : ∀ (j : Nat) t v, fn.params[j]? = some t → args[j]? = some v → Value.okWide P W .any base t v) (hW : DataW.Whole enc P fn.params.toList s.vars apart W args.toList ds gs before) :
  Calls P f args W fun e W' => ∃ v, e = .returned v ∧ s.post enc P fn apart fresh handsOn again W args v W' := by
 have hW' := hW
 obtain ⟨p, q, hA, hV, rfl, hfz, hnd⟩ := hW
 rw [hs] at hV
 obtain ⟨rfl, rfl⟩ := trodVars_none hV
 obtain ⟨x, hx, hwf⟩ := args_ok hp (fun j t v h1 h2 => Value.okWide_any_base <| hval j t v (by rw [← Array.getElem?_toList]; exact h1) (by rw [← Array.getElem?_toList]; exact h2)) hA
 have hcall := hpure _ _ (hM x hwf) W args.toList hx
 have harr : args.toList.toArray = args := by cases args; rfl
 rw [harr] at hcall
 refine hcall.mono fun e W' ⟨prs, p1, p2, p3, p4, p5⟩ => ?_
 have hv := ret_true p1
 have hblk : ∀ b, b < W.heap.size → W'.heap[b]? = W.heap[b]? := fun b hb => p5.block b hb id
 have hlen := trodAll_len hA
 obtain ⟨s1, s2, s3⟩ := hsp ds hlen
 refine ⟨_, p2, ?_⟩
 rw [hv]
 refine post_same (pa := p) (pv := []) hW' (fun _ _ _ => ?_) (fun sp hsp => ?_) (fun _ _ => ?_) (by simp) (keptBut_of p5.os p5.output hblk _) (fun a ha => ?_) ?_
 ·rw [List.append_nil, s1, hr]
  exact trodAll_cons_mk (shut_bool hb _) trodAll_mk0
 ·rw [List.append_nil, s2]
  exact DataW.TrodAll.respare (kids_rows hl hmr) (slices_full_of P hz) hts (trodAll_carry hblk hA) (fun pl hpl => hsp pl (by simpa using hpl))
 ·rw [List.append_nil, hs, s3]
  rfl
 ·simp only [World.frozen?, hblk a.block ha]
 ·rw [hr]
  rw [← hr]
  exact ok_one hr rfl (okWide_bool_mk hb _)
end
end Go.Am