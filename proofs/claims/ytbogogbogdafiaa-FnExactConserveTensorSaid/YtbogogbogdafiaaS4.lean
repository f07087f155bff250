/- S4: operations of the typed evaluator. No condition. -/
import Derived.Test.YtbogogbogdafiaaS3
set_option linter.unusedVariables false
namespace Go.Am
theorem mapGet {α β : Type} (f : α → β) {l : List α} {i : Nat} {e : α} (h : l[i]? = some e) : (l.map f)[i]? = some (f e) := by rw [List.getElem?_map, h]; rfl
section
variable {ρ : Type}
def ownM : Bool → Mode
 | true => .froz
 | false => .bor
theorem ownM_eq (o : Bool) : (if o = true then Mode.froz else .bor) = ownM o := by cases o <;> rfl
def optI (σ : SSt) (d : Int) (o : Option SMO) : Option Int :=
 match o with
 | none => some d
 | some q => (σ.ev q).int?
theorem optI_er {σ : SSt} {d l : Int} {o : Option SMO} (h : optI σ d o = some l) : (match o.map SMO.er with | none => some d | some q => (σ.er.ev q).int?) = some l := by
 cases o with
 | none => exact h
 | some q => simp only [Option.map_some, SSt.er_ev]; exact SV.int_er h
def srowC (col : Bool) (n : Int) (c : SC) : List SC := match col with
 | true => [.v (.int .i64) n, .v (.int .i64) (1 : Int), c]
 | false => [.v (.int .i64) (1 : Int), .v (.int .i64) n, c]
theorem srowC_er (col : Bool) (n : Int) (c : SC) : (srowC col n c).map SC.er = rowC col n c.er := by cases col <;> rfl
def sdataL : List SC → Option (List TD)
 | [] => some []
 | .v t x :: l => match t.scal with
  | true => match sdataL l with
   | some ds => some (⟨t, x⟩ :: ds)
   | none => none
  | false => none
 | _ :: _ => none
theorem sdataL_er : ∀ {vs : List SC} {ds : List TD}, sdataL vs = some ds → dataL (vs.map SC.er) = some (erD ds)
 | [], ds, h => by simp only [sdataL] at h; injection h with h; subst h; rfl
 | c :: vs, ds, h => by
  cases c with
  | v t x =>
   simp only [sdataL] at h
   split at h
   ·rename_i hs
    split at h
    ·rename_i l hl
     injection h with h
     subst h
     simp only [List.map_cons, SC.er, dataL, Ty.scal_er, hs, if_true, sdataL_er hl, erD, Option.map_some]
    ·cases h
   ·cases h
  | _ => simp [sdataL] at h
def ssetNest (us : List Ty) (e : Ty.DL us) (off s i : Nat) (vs : List SC) (k : Ty.DL us → Option ρ) : Option ρ :=
 match (Ty.dats us e)[off]? with
 | some ⟨.list ts, ys⟩ => onEq ts.length s (onEq vs.length s (onB (Ty.scalL ts) ((getN (α := Ty.DL ts) ys i).bnd fun _ => match sdataL vs with
  | some ds => match mkDL ts ds with
   | some el => match setDL us e off ⟨.list ts, setL (α := Ty.DL ts) ys i el⟩ with
    | some e' => k e'
    | none => none
   | none => none
  | none => none)))
 | _ => none
theorem setNest_er {us ts : List Ty} {xs : List (Ty.DL us)} {kk off i : Nat} {e e' : Ty.DL us} {vs : List SC} {ds : List TD} {el y0 : Ty.DL ts} (ys : List (Ty.DL ts)) (he : xs[kk]? = some e) (hd : (Ty.dats us e)[off]? = some ⟨.list ts, ys⟩)
  (hvs : vs.length = ts.length) (hs : Ty.scalL ts = true) (hy : ys[i]? = some y0) (hds : sdataL vs = some ds) (hel : mkDL ts ds = some el) (hse : setDL us e off ⟨.list ts, setL ys i el⟩ = some e') :
  setNest (List.map (Ty.erL us) xs) kk off ts.length i (vs.map SC.er) = some (List.map (Ty.erL us) (setL xs kk e')) := by
 have hget : (Ty.erL us e)[off]? = some (.list ts.length (List.map (Ty.erL ts) ys)) := dats_get hd
 have hx : (List.map (Ty.erL us) xs)[kk]? = some (Ty.erL us e) := by rw [List.getElem?_map, he]; rfl
 have hi : i < (List.map (Ty.erL ts) ys).length := by rw [List.length_map]; exact (List.getElem?_eq_some_iff.1 hy).1
 have hse' : Ty.erL us e' = (Ty.erL us e).set off (.list ts.length (List.map (Ty.erL ts) (setL ys i el))) := setDL_er hse
 unfold setNest
 rw [hx, Option.bind_some, hget]
 simp only
 rw [if_pos ⟨trivial, by simpa using hvs, hi, scalLL_er' ts ys hs⟩, sdataL_er hds, List.getD_eq_getElem?_getD, hx]
 simp only [Option.map_some, Option.getD_some]
 unfold setL at hse' ⊢
 rw [List.map_set, hse', List.map_set, mkDL_er hel]
theorem ssetNest_ok {us : List Ty} {xs : List (Ty.DL us)} {kk : Nat} {e : Ty.DL us} {off s i : Nat} {vs : List SC} {k : Ty.DL us → Option ρ} {r : ρ} (he : xs[kk]? = some e) (h : ssetNest us e off s i vs k = some r) :
  ∃ e', setNest (List.map (Ty.erL us) xs) kk off s i (vs.map SC.er) = some (List.map (Ty.erL us) (setL xs kk e')) ∧ k e' = some r := by
 unfold ssetNest at h
 split at h
 ·rename_i ts ys hd
  have he1 := (onEq_some h).1; replace h := (onEq_some h).2
  have he2 := (onEq_some h).1; replace h := (onEq_some h).2
  have hs := (onB_some h).1; replace h := (onB_some h).2
  rw [bnd_some] at h
  obtain ⟨y0, hy, h⟩ := h
  split at h
  ·rename_i ds hds
   split at h
   ·rename_i el hel
    split at h
    ·rename_i e' hse
     subst he1
     exact ⟨e', setNest_er ys he hd he2 hs hy hds hel hse, h⟩
    ·cases h
   ·cases h
  ·cases h
 ·cases h
def sexec (T : List SFn) (d : Option Nat) (op : SOp) (σ : SSt) (k : SSt → Option ρ) : Option ρ :=
 match op with
 | .mv x => k (σ.put d (σ.ev x))
 | .pick c x y => match σ.ev c with
  | .one (.v .bool b) => match σ.ev x, σ.ev y with
   | .one (.v t x'), .one (.v u y') => match Ty.cast u t y' with
    | some z => k (σ.put d (.one (.v t (cnd b x' z))))
    | none => cnd b (k (σ.put d (σ.ev x))) (k (σ.put d (σ.ev y)))
   | _, _ => cnd b (k (σ.put d (σ.ev x))) (k (σ.put d (σ.ev y)))
  | _ => none
 | .alloc zs => match d with
  | some n => match σ.ins n (.box zs) with
   | some σ1 => k (σ1.put d (.one (.ptr n 0 0 0)))
   | none => none
  | none => none
 | .box sz x => match d, (σ.ev x).cells? with
  | some n, some (_, cs) => onEq cs.length sz (match σ.ins n (.box cs) with
    | some σ1 => k (σ1.put d (.one (.ptr n 0 0 0)))
    | none => none)
  | _, _ => none
 | .build zs parts => match ssetParts σ.ev zs parts with
  | some cs => k (σ.put d (.agg cs))
  | none => none
 | .bslice ts parts => match d with
  | some n => stakeEs ts σ (parts.map σ.ev) fun es o σ1 => match σ1.ins n (.row true (ownM o) ts es) with
   | some σ2 => k (σ2.put d (.one (.sl n ts.length 0 es.length)))
   | none => none
  | none => none
 | .load ag sz x => match σ.ev x with
  | .one p => sload σ.h p sz fun cs => k (σ.put d (toS ag cs))
  | _ => none
 | .loadd ag sz x => match σ.ev x with
  | .one p => sfrz σ p fun σ1 => sload σ1.h p sz fun cs => k (σ1.put d (toS ag cs))
  | _ => none
 | .store sz x v => match σ.ev x, (σ.ev v).cells? with
  | .one (.ptr n kk rsz off), some (_, vs) => onEq vs.length sz (match σ.h n with
   | some (.box cs) => onEq kk 0 (onB (Nat.ble (off + sz) cs.length) (k (σ.setB n (.box (splice cs off vs)))))
   | some (.row gr m ts xs) => onEq rsz ts.length ((getN xs kk).bnd fun e => sstoreRow σ n gr m ts xs kk off e vs k)
   | none => none)
  | .one (.nptr n kk rsz off s i), some (_, vs) => onEq vs.length sz (match σ.h n with
   | some (.row gr .live us xs) => onEq rsz us.length ((getN xs kk).bnd fun e => ssetNest us e off s i vs fun e' => k (σ.setB n (.row gr .live us (setL xs kk e'))))
   | _ => none)
  | _, _ => none
 | .nilchk x => match σ.ev x with
  | .one (.ptr n kk sz off) => onB (σ.h n).isSome (k (σ.put d (.one (.ptr n kk sz off))))
  | .one (.dptr ts x off) => k (σ.put d (.one (.dptr ts x off)))
  | _ => none
 | .bin op x y => binS op (σ.ev x) (σ.ev y) fun t z => k (σ.put d (.one (.v t z)))
 | .binb op x y => binBS op (σ.ev x) (σ.ev y) fun t z => k (σ.put d (.one (.v t z)))
 | .un op x => unS op (σ.ev x) fun t z => k (σ.put d (.one (.v t z)))
 | .conv kd x => match σ.ev x with
  | .one (.v (.int _) n) => k (σ.put d (.one (.v (.int kd) (convI kd n))))
  | _ => none
 | .mkslice m ts by_ z l c => match d, (σ.ev l).int?, (σ.ev c).int? with
  | some n, some a, some b => (mkI a b by_).bnd fun len => match σ.ins n (.row true m ts (repL len z)) with
   | some σ1 => k (σ1.put d (.one (.sl n ts.length 0 len)))
   | none => none
  | _, _, _ => none
 | .slice sz x lo hi =>
  match σ.ev x, optI σ 0 lo with
  | .one (.sl n s l0 len), some l =>
   match optI σ (natI len) hi with
   | some h => onEq s sz (onB (σ.h n).isSome ((sliI l h len).bnd fun p => k (σ.put d (.one (.sl n s (addN l0 p.1) p.2)))))
   | none => none
  | .one (.v (.list ts) xs), some l =>
   match optI σ (natI (lenN (α := Ty.DL ts) xs)) hi with
   | some h => onEq ts.length sz ((sliI l h (lenN (α := Ty.DL ts) xs)).bnd fun p => k (σ.put d (.one (.v (.list ts) (sldL (α := Ty.DL ts) xs p.1 p.2)))))
   | none => none
  | _, _ => none
 | .tail sz x lo => match d, σ.ev x, (σ.ev lo).int? with
  | some n, .one (.sl a s l0 len), some l => match σ.h a with
   | some (.row true m ts xs) => onEq s ts.length (onEq ts.length sz (onEq l0 0 ((fulI l0 len (lenN xs)).bnd fun _ => (sliI l (natI (lenN xs)) (lenN xs)).bnd fun p =>
     match (σ.del a).ins n (.row true m ts (sldL xs p.1 p.2)) with
     | some σ1 => k (σ1.put d (.one (.sl n sz 0 p.2)))
     | none => none)))
   | _ => none
  | _, _, _ => none
 | .fieldA off x => match σ.ev x with
  | .one (.ptr n kk sz o) => onB (σ.h n).isSome (k (σ.put d (.one (.ptr n kk sz (o + off)))))
  | .one (.dptr ts x o) => k (σ.put d (.one (.dptr ts x (o + off))))
  | _ => none
 | .idxA sz x i => match σ.ev x, (σ.ev i).int? with
  | .one (.sl n s lo len), some j => onEq s sz (onB (σ.h n).isSome ((chkI j len).bnd fun q => k (σ.put d (.one (.ptr n (addN lo q) s 0)))))
  | .one (.v (.list ts) xs), some j => onEq ts.length sz ((getI (α := Ty.DL ts) xs j).bnd fun e => k (σ.put d (.one (.dptr ts e 0))))
  | .one (.nsl n kk rsz off s len), some j => sviewC σ.h (.nsl n kk rsz off s len) fun t x => match t, x with
   | .list ts, ys => onEq ts.length sz ((chkI j (lenN (α := Ty.DL ts) ys)).bnd fun q => k (σ.put d (.one (.nptr n kk rsz off sz q))))
   | _, _ => none
  | _, _ => none
 | .ext i x => match σ.ev x with
  | .tup xs => match xs[i]? with
   | some (ag, cs) => k (σ.put d (toS ag cs))
   | none => none
  | _ => none
 | .fld ag off sz x => match σ.ev x with
  | .agg cs => match sub cs off sz with
   | some l => k (σ.put d (toS ag l))
   | none => none
  | _ => none
 | .rowm f col x => match σ.ev x with
  | .one (.sl n sz lo len) => onB (σ.h n).isSome (k (σ.put d (.agg (srowC col (natI len) (.sl n sz lo len)))))
  | .one (.v (.list ts) xs) => k (σ.put d (.agg (srowC col (natI (lenN (α := Ty.DL ts) xs)) (.v (.list ts) xs))))
  | .one (.nil ts) => k (σ.put d (.agg (srowC col (0 : Int) (.nil ts))))
  | _ => none
 | .len x => match σ.ev x with
  | .one (.sl n sz lo len) => onB (σ.h n).isSome (k (σ.put d (.one (.v (.int .i64) (natI len)))))
  | .one (.v (.list ts) xs) => k (σ.put d (.one (.v (.int .i64) (natI (lenN (α := Ty.DL ts) xs)))))
  | .one (.nil ts) => k (σ.put d (.one (.v (.int .i64) (0 : Int))))
  | .one (.nsl n kk rsz off sz len) => sviewC σ.h (.nsl n kk rsz off sz len) fun t x => match t, x with
   | .list ts, ys => k (σ.put d (.one (.v (.int .i64) (natI (lenN (α := Ty.DL ts) ys)))))
   | _, _ => none
  | _ => none
 | .append fl ts by_ x y => match d with
  | none => none
  | some n => sappLeft σ ts (σ.ev x) fun xs m σ1 => sappRight fl σ1 ts m (σ.ev y) fun ys m2 σ2 =>
    (fitI (addN (lenN xs) (lenN ys)) by_).bnd fun _ => match σ2.ins n (.row true m2 ts (appL xs ys)) with
     | some σ3 => k (σ3.put d (.one (.sl n ts.length 0 (addN (lenN xs) (lenN ys)))))
     | none => none
 | .mm mx x y => match σ.ev x, σ.ev y with
  | .one (.v (.int kd) a), .one (.v (.int kd') b) => match mx with
   | true => k (σ.put d (.one (.v (.int kd) (maxI a b))))
   | false => k (σ.put d (.one (.v (.int kd) (minI a b))))
  | _, _ => none
 | .call m f xs => sdoCall T m d f (xs.map σ.ev) σ k
 | .calld f xs => sdoCallD T d f (xs.map σ.ev) σ k
 | .copy x y => match σ.ev x, σ.ev y with
  | .one (.sl n s lo len), .one c => match σ.h n with
   | some (.row gr m ts xs) => onEq s 1 (onEq ts.length 1 (onB (m.own && Ty.scalL ts) (sviewC σ.h c fun u ys => match u, ys with
    | .list us, ys => match Ty.cast (.list us) (.list ts) ys with
     | some zs => (cpyL (α := Ty.DL ts) xs lo len (List.take (α := Ty.DL ts) len zs)).bnd fun xs' => k ((σ.setB n (.row gr m ts xs')).put d (.one (.v (.int .i64) (natI (Nat.min (lenN (α := Ty.DL ts) zs) len)))))
     | none => none
    | _, _ => none)))
   | _ => none
  | _, _ => none
 | .clr t z x => match σ.ev x with
  | .one (.sl n s lo len) => match σ.h n with
   | some (.row gr m ts xs) => onEq s 1 (onB (m.own && t.scal) (match mkDL ts [⟨t, z⟩] with
    | some e => (cpyL (α := Ty.DL ts) xs lo len (repL len e)).bnd fun xs' => k ((σ.setB n (.row gr m ts xs')).put d (.tup []))
    | none => none))
   | _ => none
  | _ => none
 | .mkfn f xs => match smkfn (xs.map σ.ev) with
  | some cs => k (σ.put d (.one (.fn f cs)))
  | none => none
 | .callv m x xs => match σ.ev x with
  | .one (.fn f caps) => sdoCall T m d f (xs.map σ.ev ++ caps.map .one) σ k
  | _ => none
 | .callm m f xs => sdoCallM T m d f (xs.map σ.ev) σ k
 | .callb f xs => sdoCallB T d f (xs.map σ.ev) σ k
 | .callw f xs => sdoCallW T d f (xs.map σ.ev) σ k
theorem erh_some {σ : SSt} {n : Nat} {b : SB} (h : σ.h n = some b) : σ.er.h n = some b.er := by simp [SSt.er, erH, h]
theorem erh_isSome {σ : SSt} {n : Nat} (h : (σ.h n).isSome = true) : (σ.er.h n).isSome = true := by
 simp only [SSt.er, erH_isSome, h]
theorem v_er (t : Ty) (x : t.D) : (SV.one (.v t x)).er = .one (.c (t.er x)) := rfl
theorem cpyL_er {ts : List Ty} {xs xs' ys : List (Ty.DL ts)} {lo len : Nat} (h : cpyL xs lo len ys = some xs') : lo + len ≤ xs.length ∧ List.map (Ty.erL ts) xs' = splice (List.map (Ty.erL ts) xs) lo (List.map (Ty.erL ts) ys) := by
 unfold cpyL at h
 split at h
 ·rename_i hc
  injection h with h
  subst h
  exact ⟨hc, splice_map (Ty.erL ts) xs ys lo⟩
 ·cases h
theorem Ty.cast_eq' {t u : Ty} {x : t.D} {y : u.D} (h : Ty.cast t u x = some y) : t.er x = u.er y := by
 unfold Ty.cast at h
 split at h
 ·rename_i he
  have := Ty.beq_eq he
  subst this
  injection h with h
  rw [← h]
 ·cases h
theorem sexec_ok {T : List SFn} {d : Option Nat} {op : SOp} {σ : SSt} {k : SSt → Option ρ} {r : ρ} (h : sexec T d op σ k = some r) :
  ∃ σ1 : SSt, exec (tabOf T) d op.er σ.er = some σ1.er ∧ k σ1 = some r := by
 cases op with
 | mv x => exact ⟨_, by simp only [SOp.er, exec, SSt.er_put, SSt.er_ev], h⟩
 | pick c x y =>
  simp only [sexec] at h
  split at h
  ·rename_i b hc
   have hc' : σ.er.ev c.er = .one (.c (.bool b)) := by rw [SSt.er_ev, hc]; rfl
   have key : ∀ σ1 : SSt, σ1.er = σ.er.put d (cond b (σ.ev x).er (σ.ev y).er) → exec (tabOf T) d (SOp.er (.pick c x y)) σ.er = some σ1.er := by
    intro σ1 e
    simp only [SOp.er, exec, hc', SSt.er_ev, e]
    cases b <;> rfl
   have gen : cnd b (k (σ.put d (σ.ev x))) (k (σ.put d (σ.ev y))) = some r → ∃ σ1 : SSt, exec (tabOf T) d (SOp.er (.pick c x y)) σ.er = some σ1.er ∧ k σ1 = some r := by
    intro h
    cases hb : (b : Bool) with
    | true => rw [hb] at h; exact ⟨_, key _ (by rw [SSt.er_put, hb]; rfl), h⟩
    | false => rw [hb] at h; exact ⟨_, key _ (by rw [SSt.er_put, hb]; rfl), h⟩
   split at h
   ·rename_i t x' u y' ex ey
    split at h
    ·rename_i z hz
     refine ⟨_, key _ ?_, h⟩
     rw [SSt.er_put, ex, ey, v_er, v_er, v_er, Ty.cast_some hz]
     cases (b : Bool) <;> rfl
    ·exact gen h
   ·exact gen h
  ·cases h
 | alloc zs =>
  simp only [sexec] at h
  split at h
  ·rename_i n
   split at h
   ·rename_i σ1 e
    have := SSt.er_ins e
    exact ⟨_, by simp only [SOp.er, exec]; rw [show Blk.box (zs.map SC.er) = (SB.box zs).er from rfl, this, SSt.er_put]; rfl, h⟩
   ·cases h
  ·cases h
 | box sz x =>
  simp only [sexec] at h
  split at h
  ·rename_i n b cs hc
   have he_ := (onEq_some h).1; replace h := (onEq_some h).2; subst he_
   split at h
   ·rename_i σ1 e
    have := SSt.er_ins e
    refine ⟨_, ?_, h⟩
    simp only [SOp.er, exec, SSt.er_ev, SV.cells_er hc, List.length_map, if_true]
    rw [show Blk.box (cs.map SC.er) = (SB.box cs).er from rfl, this, SSt.er_put]; rfl
   ·cases h
  ·cases h
 | build zs parts =>
  simp only [sexec] at h
  split at h
  ·rename_i cs hc
   exact ⟨_, by simp only [SOp.er, exec, ssetParts_ok hc, SSt.er_put]; rfl, h⟩
  ·cases h
 | bslice ts parts =>
  simp only [sexec] at h
  split at h
  ·rename_i n
   obtain ⟨es, o, σ1, h1, h2⟩ := stakeEs_ok h
   split at h2
   ·rename_i σ2 e
    have i := SSt.er_ins e
    refine ⟨_, ?_, h2⟩
    simp only [SOp.er, exec, evs_er, h1, SSt.er_put]
    have : (SB.row true (ownM o) ts es).er = Blk.row true (ownM o) ts.length (List.map (Ty.erL ts) es) := rfl
    rw [ownM_eq, ← this, i, List.length_map]
    rfl
   ·cases h2
  ·cases h
 | load ag sz x =>
  simp only [sexec] at h
  split at h
  ·rename_i p hp
   obtain ⟨l, h1, h2⟩ := sload_ok h
   have hp' : σ.er.ev x.er = .one p.er := by rw [SSt.er_ev, hp]; rfl
   have h1' : loadAt σ.er.h p.er sz = some (l.map SC.er) := h1
   exact ⟨_, by simp only [SOp.er, exec, hp', h1', SSt.er_put, toS_er], h2⟩
  ·cases h
 | loadd ag sz x =>
  simp only [sexec] at h
  split at h
  ·rename_i p hp
   obtain ⟨σ1, h0, h⟩ := sfrz_ok h
   obtain ⟨l, h1, h2⟩ := sload_ok h
   have hp' : σ.er.ev x.er = .one p.er := by rw [SSt.er_ev, hp]; rfl
   have h1' : loadAt σ1.er.h p.er sz = some (l.map SC.er) := h1
   exact ⟨_, by simp only [SOp.er, exec, hp', h0, h1', SSt.er_put, toS_er], h2⟩
  ·cases h
 | store sz x v =>
  simp only [sexec] at h
  split at h
  ·rename_i n kk rsz off b vs hp hc
   have he_ := (onEq_some h).1; replace h := (onEq_some h).2; subst he_
   have hp' : σ.er.ev x.er = .one (.ptr n kk rsz off) := by rw [SSt.er_ev, hp]; rfl
   have hc' : (σ.er.ev v.er).cells? = some (b, vs.map SC.er) := by rw [SSt.er_ev]; exact SV.cells_er hc
   split at h
   ·rename_i cs hn
    have he_ := (onEq_some h).1; replace h := (onEq_some h).2; subst he_
    have hb := (onB_some h).1; replace h := (onB_some h).2
    have hle := Nat.le_of_ble_eq_true hb
    refine ⟨_, ?_, h⟩
    simp only [SOp.er, exec, hp', hc', List.length_map, if_true, erh_some hn, SB.er, hle, and_self, SSt.er_setB, ← splice_map]
   ·rename_i gr m ts xs hn
    have he_ := (onEq_some h).1; replace h := (onEq_some h).2; subst he_
    rw [bnd_some] at h
    obtain ⟨e, he, h⟩ := h
    replace he : xs[kk]? = some e := he
    obtain ⟨σ1, s1, s2⟩ := sstoreRow_ok h
    refine ⟨σ1, ?_, s2⟩
    have hget : (List.map (Ty.erL ts) xs)[kk]? = some (Ty.erL ts e) := by rw [List.getElem?_map, he]; rfl
    simp only [SOp.er, exec, hp', hc', List.length_map, if_true, erh_some hn, SB.er, hget, s1]
   ·cases h
  ·rename_i n kk rsz off s i b vs hp hc
   have he_ := (onEq_some h).1; replace h := (onEq_some h).2; subst he_
   have hp' : σ.er.ev x.er = .one (.nptr n kk rsz off s i) := by rw [SSt.er_ev, hp]; rfl
   have hc' : (σ.er.ev v.er).cells? = some (b, vs.map SC.er) := by rw [SSt.er_ev]; exact SV.cells_er hc
   split at h
   ·rename_i gr us xs hn
    have he_ := (onEq_some h).1; replace h := (onEq_some h).2; subst he_
    rw [bnd_some] at h
    obtain ⟨e, he, h⟩ := h
    replace he : xs[kk]? = some e := he
    obtain ⟨e', s1, s2⟩ := ssetNest_ok he h
    refine ⟨_, ?_, s2⟩
    simp only [SOp.er, exec, hp', hc', List.length_map, if_true, erh_some hn, SB.er, s1, SSt.er_setB]
   ·cases h
  ·cases h
 | nilchk x =>
  simp only [sexec] at h
  split at h
  ·rename_i n kk sz off hp
   have hb := (onB_some h).1; replace h := (onB_some h).2
   have hp' : σ.er.ev x.er = .one (.ptr n kk sz off) := by rw [SSt.er_ev, hp]; rfl
   exact ⟨_, by simp only [SOp.er, exec, hp', erh_isSome hb, if_true, SSt.er_put]; rfl, h⟩
  ·rename_i ts y off hp
   have hp' : σ.er.ev x.er = .one (.dptr (Ty.erL ts y) off) := by rw [SSt.er_ev, hp]; rfl
   exact ⟨_, by simp only [SOp.er, exec, hp', SSt.er_put]; rfl, h⟩
  ·cases h
 | bin op x y =>
  simp only [sexec] at h
  obtain ⟨t, z, h1, h2⟩ := binS_ok h
  exact ⟨_, by simp only [SOp.er, exec, SSt.er_ev, h1, SSt.er_put]; rfl, h2⟩
 | binb op x y =>
  simp only [sexec] at h
  obtain ⟨t, z, h1, h2⟩ := binBS_ok h
  exact ⟨_, by simp only [SOp.er, exec, SSt.er_ev, h1, SSt.er_put]; rfl, h2⟩
 | un op x =>
  simp only [sexec] at h
  obtain ⟨t, z, h1, h2⟩ := unS_ok h
  exact ⟨_, by simp only [SOp.er, exec, SSt.er_ev, h1, SSt.er_put]; rfl, h2⟩
 | conv kd x =>
  simp only [sexec] at h
  split at h
  ·rename_i k' n hp
   have hp' : σ.er.ev x.er = .one (.c (.int k' n)) := by rw [SSt.er_ev, hp]; rfl
   exact ⟨_, by simp only [SOp.er, exec, hp', SSt.er_put]; rfl, h⟩
  ·cases h
 | mkslice m ts by_ z l c =>
  simp only [sexec] at h
  split at h
  ·rename_i n a b ha hb
   rw [bnd_some] at h
   obtain ⟨len, hm, h⟩ := h
   unfold mkI at hm
   split at hm
   ·rename_i hcond
    injection hm with hm
    subst hm
    split at h
    ·rename_i σ1 e
     have i := SSt.er_ins e
     have ha' : (σ.er.ev l.er).int? = some a := by rw [SSt.er_ev]; exact SV.int_er ha
     have hb' : (σ.er.ev c.er).int? = some b := by rw [SSt.er_ev]; exact SV.int_er hb
     refine ⟨_, ?_, h⟩
     have hz : (Ty.erL ts z).length = ts.length := Ty.erL_len ts z
     have hrow : (SB.row true m ts (repL a.toNat z)).er = Blk.row true m ts.length (List.replicate a.toNat (Ty.erL ts z)) := by simp [SB.er, repL, List.map_replicate]
     have hc4 : a ≤ b ∧ 0 ≤ a ∧ b.toNat * by_ ≤ maxBytes ∧ (Ty.erL ts z).length = ts.length := ⟨hcond.1, hcond.2.1, hcond.2.2, hz⟩
     simp only [SOp.er, exec, ha', hb', if_pos hc4, ← hrow, i, SSt.er_put]
     rfl
    ·cases h
   ·cases hm
  ·cases h
 | slice sz x lo hi =>
  simp only [sexec] at h
  split at h
  ·rename_i n s l0 len l hp el
   have hp' : σ.er.ev x.er = .one (.sl n s l0 len) := by rw [SSt.er_ev, hp]; rfl
   split at h
   ·rename_i hh eh
    have he_ := (onEq_some h).1; replace h := (onEq_some h).2; subst he_
    have hb := (onB_some h).1; replace h := (onB_some h).2
    rw [bnd_some] at h
    obtain ⟨p, hs, h⟩ := h
    unfold sliI at hs
    split at hs
    ·rename_i hcond
     injection hs with hs
     subst hs
     refine ⟨_, ?_, h⟩
     have hc5 : s = s ∧ 0 ≤ l ∧ l ≤ hh ∧ hh ≤ len ∧ (σ.er.h n).isSome = true := ⟨rfl, hcond.1, hcond.2.1, hcond.2.2, erh_isSome hb⟩
     have e1 := optI_er el
     have e2 := optI_er eh
     rw [SSt.er_put]
     cases lo with
     | none =>
      simp only [Option.map_none, Option.some.injEq] at e1
      subst e1
      cases hi with
      | none =>
       simp only [Option.map_none, Option.some.injEq] at e2
       subst e2
       simp only [SOp.er, exec, hp', Option.map_none]
       exact if_pos ⟨trivial, hc5.2⟩
      | some q =>
       simp only [Option.map_some] at e2
       simp only [SOp.er, exec, hp', Option.map_none, Option.map_some, e2]
       exact if_pos ⟨trivial, hc5.2⟩
     | some q0 =>
      simp only [Option.map_some] at e1
      cases hi with
      | none =>
       simp only [Option.map_none, Option.some.injEq] at e2
       subst e2
       simp only [SOp.er, exec, hp', Option.map_none, Option.map_some, e1]
       exact if_pos ⟨trivial, hc5.2⟩
      | some q =>
       simp only [Option.map_some] at e2
       simp only [SOp.er, exec, hp', Option.map_some, e1, e2]
       exact if_pos ⟨trivial, hc5.2⟩
    ·cases hs
   ·cases h
  ·rename_i ts xs l hp el
   have hp' : σ.er.ev x.er = .one (.c (.list ts.length (List.map (Ty.erL ts) xs))) := by rw [SSt.er_ev, hp]; rfl
   split at h
   ·rename_i hh eh
    have he_ := (onEq_some h).1; replace h := (onEq_some h).2; subst he_
    rw [bnd_some] at h
    obtain ⟨p, hs, h⟩ := h
    unfold sliI at hs
    split at hs
    ·rename_i hcond
     injection hs with hs
     subst hs
     refine ⟨_, ?_, h⟩
     have hc5 : ts.length = ts.length ∧ 0 ≤ l ∧ l ≤ hh ∧ hh ≤ (List.map (Ty.erL ts) xs).length := ⟨rfl, hcond.1, hcond.2.1, Int.le_trans hcond.2.2 (Int.le_of_eq (congrArg _ (List.length_map (Ty.erL ts)).symm))⟩
     have e1 := optI_er el
     have e2 : (match hi.map SMO.er with | none => some (((List.map (Ty.erL ts) xs).length : Nat) : Int) | some q => (σ.er.ev q).int?) = some hh := by rw [show (List.map (Ty.erL ts) xs).length = List.length (α := Ty.DL ts) xs from List.length_map (Ty.erL ts)]; exact optI_er eh
     rw [SSt.er_put]
     have hmd : List.map (Ty.erL ts) (List.take (hh - l).toNat (List.drop (α := Ty.DL ts) l.toNat xs)) = ((List.map (Ty.erL ts) xs).drop l.toNat).take (hh - l).toNat := by
      rw [List.map_take]
      exact congrArg (List.take (hh - l).toNat) List.map_drop
     refine Eq.trans ?_ (congrArg (fun q => some (σ.er.put d (AVal.one (.c (.list ts.length q))))) hmd.symm)
     cases lo with
     | none =>
      simp only [Option.map_none, Option.some.injEq] at e1
      subst e1
      cases hi with
      | none =>
       simp only [Option.map_none, Option.some.injEq] at e2
       subst e2
       simp only [SOp.er, exec, hp', Option.map_none]
       exact if_pos ⟨trivial, hc5.2⟩
      | some q =>
       simp only [Option.map_some] at e2
       simp only [SOp.er, exec, hp', Option.map_none, Option.map_some, e2]
       exact if_pos ⟨trivial, hc5.2⟩
     | some q0 =>
      simp only [Option.map_some] at e1
      cases hi with
      | none =>
       simp only [Option.map_none, Option.some.injEq] at e2
       subst e2
       simp only [SOp.er, exec, hp', Option.map_none, Option.map_some, e1]
       exact if_pos ⟨trivial, hc5.2⟩
      | some q =>
       simp only [Option.map_some] at e2
       simp only [SOp.er, exec, hp', Option.map_some, e1, e2]
       exact if_pos ⟨trivial, hc5.2⟩
    ·cases hs
   ·cases h
  ·cases h
 | tail sz x lo =>
  simp only [sexec] at h
  split at h
  ·rename_i n a0 s l0 len l hp hl
   have hp' : σ.er.ev x.er = .one (.sl a0 s l0 len) := by rw [SSt.er_ev, hp]; rfl
   have hl' : (σ.er.ev lo.er).int? = some l := by rw [SSt.er_ev]; exact SV.int_er hl
   split at h
   ·rename_i m ts xs hn
    have he_ := (onEq_some h).1; replace h := (onEq_some h).2; subst he_
    have he_ := (onEq_some h).1; replace h := (onEq_some h).2; subst he_
    have he_ := (onEq_some h).1; replace h := (onEq_some h).2; subst he_
    rw [bnd_some] at h
    obtain ⟨_, hf, h⟩ := h
    obtain ⟨_, hlen⟩ := fulI_some hf
    rw [bnd_some] at h
    obtain ⟨p, hs, h⟩ := h
    unfold sliI at hs
    split at hs
    ·rename_i hcond
     injection hs with hs
     subst hs
     simp only at h
     split at h
     ·rename_i σ1 e1
      refine ⟨_, ?_, h⟩
      have hlen' : len = xs.length := hlen
      have hcond' : 0 ≤ l ∧ l ≤ (xs.length : Int) := ⟨hcond.1, hcond.2.1⟩
      have hn' : σ.er.h a0 = some (.row true m ts.length (List.map (Ty.erL ts) xs)) := by simp [SSt.er, erH, hn, SB.er]
      have i1 := SSt.er_ins e1
      have e2 : (natI (lenN xs) - l).toNat = xs.length - l.toNat := by simp only [natI, lenN]; omega
      have e3 : sldL xs l.toNat (natI (lenN xs) - l).toNat = xs.drop l.toNat := by rw [e2]; unfold sldL; rw [List.take_of_length_le (by simp)]
      rw [e3] at i1
      simp only [SB.er, SSt.er_del, List.map_drop] at i1
      simp only [SOp.er, exec, hp', hl', hn', List.length_map, hlen', hcond'.1, hcond'.2, and_self, if_true, i1, SSt.er_put, SV.er, SC.er, e2]
     ·cases h
    ·cases hs
   ·cases h
  ·cases h
 | fieldA off x =>
  simp only [sexec] at h
  split at h
  ·rename_i n kk sz o hp
   have hb := (onB_some h).1; replace h := (onB_some h).2
   have hp' : σ.er.ev x.er = .one (.ptr n kk sz o) := by rw [SSt.er_ev, hp]; rfl
   exact ⟨_, by simp only [SOp.er, exec, hp', erh_isSome hb, if_true, SSt.er_put]; rfl, h⟩
  ·rename_i ts y o hp
   have hp' : σ.er.ev x.er = .one (.dptr (Ty.erL ts y) o) := by rw [SSt.er_ev, hp]; rfl
   exact ⟨_, by simp only [SOp.er, exec, hp', SSt.er_put]; rfl, h⟩
  ·cases h
 | idxA sz x i =>
  simp only [sexec] at h
  split at h
  ·rename_i n s lo len j hp hi
   have he_ := (onEq_some h).1; replace h := (onEq_some h).2; subst he_
   have hb := (onB_some h).1; replace h := (onB_some h).2
   rw [bnd_some] at h
   obtain ⟨q, hq, h⟩ := h
   unfold chkI at hq
   split at hq
   ·rename_i hcond
    injection hq with hq
    subst hq
    have hp' : σ.er.ev x.er = .one (.sl n s lo len) := by rw [SSt.er_ev, hp]; rfl
    have hi' : (σ.er.ev i.er).int? = some j := by rw [SSt.er_ev]; exact SV.int_er hi
    refine ⟨_, ?_, h⟩
    have hc4 : s = s ∧ 0 ≤ j ∧ j < len ∧ (σ.er.h n).isSome = true := ⟨rfl, hcond.1, hcond.2, erh_isSome hb⟩
    simp only [SOp.er, exec, hp', hi', SSt.er_put]
    exact if_pos ⟨trivial, hc4.2⟩
   ·cases hq
  ·rename_i ts xs j hp hi
   have he_ := (onEq_some h).1; replace h := (onEq_some h).2; subst he_
   rw [bnd_some] at h
   obtain ⟨e, he, h⟩ := h
   unfold getI at he
   split at he
   ·rename_i hcond
    have hp' : σ.er.ev x.er = .one (.c (.list ts.length (List.map (Ty.erL ts) xs))) := by rw [SSt.er_ev, hp]; rfl
    have hi' : (σ.er.ev i.er).int? = some j := by rw [SSt.er_ev]; exact SV.int_er hi
    have hget : (List.map (Ty.erL ts) xs)[j.toNat]? = some (Ty.erL ts e) := mapGet (Ty.erL ts) he
    refine ⟨_, ?_, h⟩
    simp only [SOp.er, exec, hp', hi', hcond, and_self, if_true, hget, SSt.er_put]
    rfl
   ·cases he
  ·rename_i n kk rsz off s len j hp hi
   obtain ⟨t, y, h1, h2⟩ := sviewC_ok h
   have hp' : σ.er.ev x.er = .one (.nsl n kk rsz off s len) := by rw [SSt.er_ev, hp]; rfl
   have hi' : (σ.er.ev i.er).int? = some j := by rw [SSt.er_ev]; exact SV.int_er hi
   have h1' : viewC σ.er.h (.nsl n kk rsz off s len) = some (t.er y) := h1
   split at h2
   ·rename_i ts ys
    have he_ := (onEq_some h2).1; replace h2 := (onEq_some h2).2; subst he_
    rw [bnd_some] at h2
    obtain ⟨q, hq, h2⟩ := h2
    unfold chkI at hq
    split at hq
    ·rename_i hcond
     injection hq with hq
     subst hq
     refine ⟨_, ?_, h2⟩
     simp only [SOp.er, exec, hp', hi', h1', Ty.er, SSt.er_put]
     exact if_pos ⟨trivial, hcond.1, by rw [show (List.map (Ty.erL ts) ys).length = lenN (α := Ty.DL ts) ys from List.length_map (Ty.erL ts)]; exact hcond.2⟩
    ·cases hq
   ·cases h2
  ·cases h
 | ext i x =>
  simp only [sexec] at h
  split at h
  ·rename_i xs hp
   split at h
   ·rename_i ag cs hg
    have hp' : σ.er.ev x.er = .tup (xs.map fun x => (x.1, x.2.map SC.er)) := by rw [SSt.er_ev, hp]; rfl
    refine ⟨_, ?_, h⟩
    simp only [SOp.er, exec, hp', List.getElem?_map, hg, Option.map_some, SSt.er_put, toS_er]
   ·cases h
  ·cases h
 | fld ag off sz x =>
  simp only [sexec] at h
  split at h
  ·rename_i cs hp
   have hp' : σ.er.ev x.er = .agg (cs.map SC.er) := by rw [SSt.er_ev, hp]; rfl
   split at h
   ·rename_i l hl
    exact ⟨_, by simp only [SOp.er, exec, hp', sub_map, hl, Option.map_some, SSt.er_put, toS_er], h⟩
   ·cases h
  ·cases h
 | rowm f col x =>
  simp only [sexec] at h
  split at h
  ·rename_i n sz lo len hp
   have hb := (onB_some h).1; replace h := (onB_some h).2
   have hp' : σ.er.ev x.er = .one (.sl n sz lo len) := by rw [SSt.er_ev, hp]; rfl
   refine ⟨_, ?_, h⟩
   simp only [SOp.er, exec, hp', erh_isSome hb, if_true, SSt.er_put]
   rw [show (SV.agg (srowC col (natI len) (.sl n sz lo len))).er = .agg ((srowC col (natI len) (.sl n sz lo len)).map SC.er) from rfl, srowC_er]
   rfl
  ·rename_i ts xs hp
   have hp' : σ.er.ev x.er = .one (.c (.list ts.length (List.map (α := Ty.DL ts) (Ty.erL ts) xs))) := by rw [SSt.er_ev, hp]; rfl
   refine ⟨_, ?_, h⟩
   simp only [SOp.er, exec, hp', SSt.er_put]
   rw [show (SV.agg (srowC col (natI (lenN (α := Ty.DL ts) xs)) (.v (.list ts) xs))).er = .agg ((srowC col (natI (lenN (α := Ty.DL ts) xs)) (.v (.list ts) xs)).map SC.er) from rfl, srowC_er]
   congr 3
   congr 1
   exact congrArg Int.ofNat (List.length_map (as := (xs : List (Ty.DL ts))) (Ty.erL ts))
  ·rename_i ts hp
   have hp' : σ.er.ev x.er = .one (.nil ts.length) := by rw [SSt.er_ev, hp]; rfl
   refine ⟨_, ?_, h⟩
   simp only [SOp.er, exec, hp', SSt.er_put]
   rw [show (SV.agg (srowC col (0 : Int) (.nil ts))).er = .agg ((srowC col (0 : Int) (.nil ts)).map SC.er) from rfl, srowC_er]
   rfl
  ·cases h
 | len x =>
  simp only [sexec] at h
  split at h
  ·rename_i n sz lo len hp
   have hb := (onB_some h).1; replace h := (onB_some h).2
   have hp' : σ.er.ev x.er = .one (.sl n sz lo len) := by rw [SSt.er_ev, hp]; rfl
   exact ⟨_, by simp only [SOp.er, exec, hp', erh_isSome hb, if_true, SSt.er_put]; rfl, h⟩
  ·rename_i ts xs hp
   have hp' : σ.er.ev x.er = .one (.c (.list ts.length (List.map (Ty.erL ts) xs))) := by rw [SSt.er_ev, hp]; rfl
   exact ⟨_, by simp only [SOp.er, exec, hp', SSt.er_put]; exact congrArg (fun q : Nat => some (σ.er.put d (AVal.one (.c (.int .i64 (q : Int)))))) (List.length_map (Ty.erL ts)), h⟩
  ·rename_i ts hp
   have hp' : σ.er.ev x.er = .one (.nil ts.length) := by rw [SSt.er_ev, hp]; rfl
   exact ⟨_, by simp only [SOp.er, exec, hp', SSt.er_put]; rfl, h⟩
  ·rename_i n kk rsz off sz len hp
   obtain ⟨t, y, h1, h2⟩ := sviewC_ok h
   have hp' : σ.er.ev x.er = .one (.nsl n kk rsz off sz len) := by rw [SSt.er_ev, hp]; rfl
   have h1' : viewC σ.er.h (.nsl n kk rsz off sz len) = some (t.er y) := h1
   split at h2
   ·rename_i ts ys
    exact ⟨_, by simp only [SOp.er, exec, hp', h1', Ty.er, SSt.er_put]; exact congrArg (fun q : Nat => some (σ.er.put d (AVal.one (.c (.int .i64 (q : Int)))))) (List.length_map (Ty.erL ts)), h2⟩
   ·cases h2
  ·cases h
 | append fl ts by_ x y =>
  simp only [sexec] at h
  split at h
  ·cases h
  ·rename_i n
   obtain ⟨xs, m, σ1, h1, h2⟩ := sappLeft_ok h
   obtain ⟨ys, m2, σ2, h3, h4⟩ := sappRight_ok h2
   rw [bnd_some] at h4
   obtain ⟨_, hf, h4⟩ := h4
   unfold fitI at hf
   split at hf
   ·rename_i hb
    split at h4
    ·rename_i σ3 e
     have i := SSt.er_ins e
     refine ⟨_, ?_, h4⟩
     replace hb : (xs.length + ys.length) * by_ ≤ maxBytes := hb
     have hrow : (SB.row true m2 ts (appL xs ys)).er = Blk.row true m2 ts.length (List.map (Ty.erL ts) xs ++ List.map (Ty.erL ts) ys) := by simp [SB.er, appL]
     simp only [SOp.er, exec, SSt.er_ev, h1, h3, List.length_map, hb, if_true, ← hrow, i, SSt.er_put]
     rfl
    ·cases h4
   ·cases hf
 | mm mx x y =>
  simp only [sexec] at h
  split at h
  ·rename_i kd a kd' b ex ey
   have ex' : σ.er.ev x.er = .one (.c (.int kd a)) := by rw [SSt.er_ev, ex]; rfl
   have ey' : σ.er.ev y.er = .one (.c (.int kd' b)) := by rw [SSt.er_ev, ey]; rfl
   split at h
   ·refine ⟨_, ?_, h⟩
    rw [SSt.er_put]
    simp only [SOp.er, exec, ex', ey', if_true]
    by_cases hab : LT.lt (α := Int) a b
    ·exact (if_pos hab).trans (congrArg (fun q : Int => some (σ.er.put d (AVal.one (.c (.int kd q))))) (if_pos hab : maxI a b = b).symm)
    ·exact (if_neg hab).trans (congrArg (fun q : Int => some (σ.er.put d (AVal.one (.c (.int kd q))))) (if_neg hab : maxI a b = a).symm)
   ·refine ⟨_, ?_, h⟩
    rw [SSt.er_put]
    simp only [SOp.er, exec, ex', ey', Bool.false_eq_true, if_false]
    by_cases hab : LT.lt (α := Int) b a
    ·exact (if_pos hab).trans (congrArg (fun q : Int => some (σ.er.put d (AVal.one (.c (.int kd q))))) (if_pos hab : minI a b = b).symm)
    ·exact (if_neg hab).trans (congrArg (fun q : Int => some (σ.er.put d (AVal.one (.c (.int kd q))))) (if_neg hab : minI a b = a).symm)
  ·cases h
 | call m f xs =>
  simp only [sexec] at h
  obtain ⟨σ1, h1, h2⟩ := sdoCall_ok h
  exact ⟨σ1, by simp only [SOp.er, exec, evs_er]; exact h1, h2⟩
 | copy x y =>
  simp only [sexec] at h
  split at h
  ·rename_i n s lo len c hp hq
   split at h
   ·rename_i gr m ts xs hn
    have he_ := (onEq_some h).1; replace h := (onEq_some h).2; subst he_
    have ht := (onEq_some h).1; replace h := (onEq_some h).2
    have hb := (onB_some h).1; replace h := (onB_some h).2
    simp only [Bool.and_eq_true] at hb
    obtain ⟨u, ys, h1, h2⟩ := sviewC_ok h
    split at h2
    ·rename_i us ys
     split at h2
     ·rename_i zs hz
      rw [bnd_some] at h2
      obtain ⟨xs', hc, h2⟩ := h2
      refine ⟨_, ?_, h2⟩
      have hp' : σ.er.ev x.er = .one (.sl n 1 lo len) := by rw [SSt.er_ev, hp]; rfl
      have hq' : σ.er.ev y.er = .one c.er := by rw [SSt.er_ev, hq]; rfl
      have hzs : Ty.er (.list us) ys = Ty.er (.list ts) zs := by
       have := Ty.cast_eq' hz
       exact this
      have h1' : viewC σ.er.h c.er = some (.list ts.length (List.map (Ty.erL ts) zs)) := by
       have : viewC σ.er.h c.er = some (Ty.er (.list us) ys) := h1
       rw [this, hzs]; rfl
      obtain ⟨c1, c2⟩ := cpyL_er hc
      have hmb : m ≠ .bor := by rintro rfl; exact absurd hb.1 (by simp [Mode.own])
      simp only [SOp.er, exec, hp', hq', erh_some hn, SB.er, h1']
      rw [if_pos ⟨trivial, trivial, ht, ht, hmb, scalLL_er' ts xs hb.2, scalLL_er' ts zs hb.2, by rw [List.length_map]; exact c1⟩]
      rw [SSt.er_put, SSt.er_setB]
      simp only [SB.er, c2, ht]
      rw [show List.map (Ty.erL ts) (List.take (α := Ty.DL ts) len zs) = List.take len (List.map (Ty.erL ts) zs) from List.map_take, show (List.map (Ty.erL ts) zs).length = lenN (α := Ty.DL ts) zs from List.length_map _]
      rfl
     ·cases h2
    ·cases h2
   ·cases h
  ·cases h
 | clr t z x =>
  simp only [sexec] at h
  split at h
  ·rename_i n s lo len hp
   split at h
   ·rename_i gr m ts xs hn
    have he_ := (onEq_some h).1; replace h := (onEq_some h).2; subst he_
    have hb := (onB_some h).1; replace h := (onB_some h).2
    simp only [Bool.and_eq_true] at hb
    split at h
    ·rename_i e he
     rw [bnd_some] at h
     obtain ⟨xs', hc, h⟩ := h
     refine ⟨_, ?_, h⟩
     have hp' : σ.er.ev x.er = .one (.sl n 1 lo len) := by rw [SSt.er_ev, hp]; rfl
     have hel : Ty.erL ts e = [t.er z] := mkDL_er he
     have hlen : ts.length = 1 := by
      have := congrArg List.length hel
      rw [Ty.erL_len] at this
      exact this
     have hsc : Ty.scalL ts = true := by
      have := Ty.scalL_er ts e
      rw [hel] at this
      simp only [Am.scalL, List.all_cons, List.all_nil, Bool.and_true, Ty.scal_er, hb.2] at this
      exact this.symm
     obtain ⟨c1, c2⟩ := cpyL_er hc
     have hmb : m ≠ .bor := by rintro rfl; exact absurd hb.1 (by simp [Mode.own])
     simp only [SOp.er, exec, hp', erh_some hn, SB.er]
     rw [if_pos ⟨trivial, hlen, by rw [Ty.scal_er]; exact hb.2, hmb, scalLL_er' ts xs hsc, by rw [List.length_map]; exact c1⟩]
     rw [SSt.er_put, SSt.er_setB]
     simp only [SB.er, c2, hlen, repL, List.map_replicate, hel]
     rfl
    ·cases h
   ·cases h
  ·cases h
 | calld f xs =>
  simp only [sexec] at h
  obtain ⟨v, h1, h2⟩ := sdoCallD_ok h
  refine ⟨_, ?_, h2⟩
  simp only [SOp.er, exec, evs_er]
  rw [h1]
  simp only [SSt.er_put]
 | mkfn f xs =>
  simp only [sexec] at h
  split at h
  ·rename_i cs hc
   obtain ⟨h1, h2⟩ := smkfn_ok hc
   refine ⟨_, ?_, h⟩
   simp only [SOp.er, exec, evs_er]
   split
   ·rename_i cs' e
    have e2 : some cs' = some (cs.map SC.er) := e.symm.trans h1
    injection e2 with e2
    subst e2
    rw [if_pos h2, SSt.er_put]
    simp only [SV.er, SC.er, SC.erl_eq]
   ·rename_i e
    have e2 : none = some (cs.map SC.er) := e.symm.trans h1
    cases e2
  ·cases h
 | callm m f xs =>
  simp only [sexec] at h
  obtain ⟨σ1, h1, h2⟩ := sdoCallM_ok h
  exact ⟨σ1, by simp only [SOp.er, exec, evs_er]; exact h1, h2⟩
 | callb f xs =>
  simp only [sexec] at h
  obtain ⟨σ1, h1, h2⟩ := sdoCallB_ok h
  exact ⟨σ1, by simp only [SOp.er, exec, evs_er]; exact h1, h2⟩
 | callw f xs =>
  simp only [sexec] at h
  obtain ⟨v, h1, h2⟩ := sdoCallW_ok h
  exact ⟨σ.put d v, by simp only [SOp.er, exec, evs_er, h1, SSt.er_put], h2⟩
 | callv m x xs =>
  simp only [sexec] at h
  split at h
  ·rename_i f caps hp
   have hp' : σ.er.ev x.er = .one (.fn f (caps.map SC.er)) := by rw [SSt.er_ev, hp]; simp only [SV.er, SC.er, SC.erl_eq]
   obtain ⟨σ1, h1, h2⟩ := sdoCall_ok h
   refine ⟨σ1, ?_, h2⟩
   simp only [SOp.er, exec, hp', evs_er]
   rw [List.map_append] at h1
   simp only [List.map_map] at h1 ⊢
   exact h1
  ·cases h
structure SOper where
 dst : Option Nat
 op : SOp
 guard : Option (Nat × Bool)
def SOper.er (o : SOper) : MOper := ⟨o.dst, o.op.er, o.guard⟩
def SSt.lit (σ : SSt) (n : Nat) (b : Bool) : SSt := { σ with env := upd σ.env n (.one (.v .bool b)) }
theorem SSt.er_lit {σ : SSt} {n : Nat} {b : Bool} (h : σ.env n = .one (.v .bool b)) : (σ.lit n b).er = σ.er := by
 have : upd σ.env n (.one (.v .bool b)) = σ.env := by
  funext s
  simp only [upd_def]
  split
  ·rename_i hs; subst hs; exact h.symm
  ·rfl
 simp only [SSt.lit, this]
def sexecs (T : List SFn) : List SOper → SSt → (SSt → Option ρ) → Option ρ
 | [], σ, k => k σ
 | o :: os, σ, k => match o.guard with
  | none => sexec T o.dst o.op σ fun σ1 => sexecs T os σ1 k
  | some (s, want) => match σ.env s with
   | .one (.v .bool b) => cnd b
     (match want with
      | true => sexec T o.dst o.op (σ.lit s true) fun σ1 => sexecs T os σ1 k
      | false => sexecs T os ((σ.lit s true).put o.dst (.tup [])) k)
     (match want with
      | true => sexecs T os ((σ.lit s false).put o.dst (.tup [])) k
      | false => sexec T o.dst o.op (σ.lit s false) fun σ1 => sexecs T os σ1 k)
   | .tup [] => sexecs T os (σ.put o.dst (.tup [])) k
   | _ => none
theorem sexecs_ok {T : List SFn} : ∀ {os : List SOper} {σ : SSt} {k : SSt → Option ρ} {r : ρ}, sexecs T os σ k = some r →
  ∃ σ1 : SSt, execs (tabOf T) (os.map SOper.er) σ.er = some σ1.er ∧ k σ1 = some r
 | [], σ, k, r, h => ⟨σ, rfl, h⟩
 | o :: os, σ, k, r, h => by
  obtain ⟨d, op, g⟩ := o
  have run : ∀ σ0 : SSt, σ0.er = σ.er → execO (tabOf T) (SOper.er ⟨d, op, g⟩) σ.er = exec (tabOf T) d op.er σ.er → sexec T d op σ0 (fun σ1 => sexecs T os σ1 k) = some r →
    ∃ σ1 : SSt, execs (tabOf T) ((⟨d, op, g⟩ :: os).map SOper.er) σ.er = some σ1.er ∧ k σ1 = some r := by
   intro σ0 h0 he hs
   obtain ⟨σ1, h1, h2⟩ := sexec_ok hs
   obtain ⟨σ2, h3, h4⟩ := sexecs_ok h2
   rw [h0] at h1
   exact ⟨σ2, by simp only [List.map_cons, execs, he, h1, h3], h4⟩
  have skp : ∀ σ0 : SSt, σ0.er = σ.er → execO (tabOf T) (SOper.er ⟨d, op, g⟩) σ.er = some (σ.er.put d (.tup [])) → sexecs T os (σ0.put d (.tup [])) k = some r →
    ∃ σ1 : SSt, execs (tabOf T) ((⟨d, op, g⟩ :: os).map SOper.er) σ.er = some σ1.er ∧ k σ1 = some r := by
   intro σ0 h0 he hs
   obtain ⟨σ2, h3, h4⟩ := sexecs_ok hs
   rw [SSt.er_put, h0] at h3
   exact ⟨σ2, by simp only [List.map_cons, execs, he]; exact h3, h4⟩
  cases g with
  | none => exact run σ rfl rfl h
  | some g =>
   obtain ⟨s, want⟩ := g
   simp only [sexecs] at h
   split at h
   ·rename_i b hs
    have hs' : σ.er.env s = .one (.c (.bool b)) := by show (σ.env s).er = _; rw [hs]; rfl
    cases hb : (b : Bool) with
    | true =>
     have h0 : (σ.lit s true).er = σ.er := SSt.er_lit (by rw [hs, hb])
     rw [hb] at h
     simp only [cnd_true] at h
     cases want with
     | true => exact run _ h0 (by simp [execO, SOper.er, hs', hb]) h
     | false => exact skp _ h0 (by simp [execO, SOper.er, hs', hb]) h
    | false =>
     have h0 : (σ.lit s false).er = σ.er := SSt.er_lit (by rw [hs, hb])
     rw [hb] at h
     simp only [cnd_false] at h
     cases want with
     | true => exact skp _ h0 (by simp [execO, SOper.er, hs', hb]) h
     | false => exact run _ h0 (by simp [execO, SOper.er, hs', hb]) h
   ·rename_i hs
    have hs' : σ.er.env s = .tup [] := by show (σ.env s).er = _; rw [hs]; rfl
    exact skp σ rfl (by simp [execO, SOper.er, hs']) h
   ·cases h
def sexecsD (T : List SFn) (ps : List (Nat × Nat)) : List SOper → List (Option FP) → SSt → (SSt → Option ρ) → Option ρ
 | [], acc, σ, k => onB (pairsOk ps acc) (k σ)
 | o :: os, acc, σ, k => match o.guard with
  | none => sexec T o.dst o.op σ fun σ1 => sexecsD T ps os (acc ++ [o.er.fp σ.er]) σ1 k
  | some (s, want) => match σ.env s with
   | .one (.v .bool b) => cnd b
     (match want with
      | true => sexec T o.dst o.op (σ.lit s true) fun σ1 => sexecsD T ps os (acc ++ [o.er.fp (σ.lit s true).er]) σ1 k
      | false => sexecsD T ps os (acc ++ [o.er.fp (σ.lit s true).er]) ((σ.lit s true).put o.dst (.tup [])) k)
     (match want with
      | true => sexecsD T ps os (acc ++ [o.er.fp (σ.lit s false).er]) ((σ.lit s false).put o.dst (.tup [])) k
      | false => sexec T o.dst o.op (σ.lit s false) fun σ1 => sexecsD T ps os (acc ++ [o.er.fp (σ.lit s false).er]) σ1 k)
   | .tup [] => sexecsD T ps os (acc ++ [o.er.fp σ.er]) (σ.put o.dst (.tup [])) k
   | _ => none
theorem sexecsD_ok {T : List SFn} {ps : List (Nat × Nat)} : ∀ {os : List SOper} {acc : List (Option FP)} {σ : SSt} {k : SSt → Option ρ} {r : ρ}, sexecsD T ps os acc σ k = some r →
  ∃ (σ1 : SSt) (fs : List (Option FP)), execsD (tabOf T) (os.map SOper.er) acc σ.er = some (fs, σ1.er) ∧ pairsOk ps fs = true ∧ k σ1 = some r
 | [], acc, σ, k, r, h => ⟨σ, acc, rfl, (onB_some h).1, (onB_some h).2⟩
 | o :: os, acc, σ, k, r, h => by
  obtain ⟨d, op, g⟩ := o
  have run : ∀ σ0 : SSt, σ0.er = σ.er → execO (tabOf T) (SOper.er ⟨d, op, g⟩) σ.er = exec (tabOf T) d op.er σ.er → sexec T d op σ0 (fun σ1 => sexecsD T ps os (acc ++ [(SOper.er ⟨d, op, g⟩).fp σ0.er]) σ1 k) = some r →
    ∃ (σ1 : SSt) (fs : List (Option FP)), execsD (tabOf T) ((⟨d, op, g⟩ :: os).map SOper.er) acc σ.er = some (fs, σ1.er) ∧ pairsOk ps fs = true ∧ k σ1 = some r := by
   intro σ0 h0 he hs
   obtain ⟨σ1, h1, h2⟩ := sexec_ok hs
   obtain ⟨σ2, fs, h3, h4⟩ := sexecsD_ok h2
   rw [h0] at h1 h3
   exact ⟨σ2, fs, by simp only [List.map_cons, execsD, he, h1, h3], h4⟩
  have skp : ∀ σ0 : SSt, σ0.er = σ.er → execO (tabOf T) (SOper.er ⟨d, op, g⟩) σ.er = some (σ.er.put d (.tup [])) → sexecsD T ps os (acc ++ [(SOper.er ⟨d, op, g⟩).fp σ0.er]) (σ0.put d (.tup [])) k = some r →
    ∃ (σ1 : SSt) (fs : List (Option FP)), execsD (tabOf T) ((⟨d, op, g⟩ :: os).map SOper.er) acc σ.er = some (fs, σ1.er) ∧ pairsOk ps fs = true ∧ k σ1 = some r := by
   intro σ0 h0 he hs
   obtain ⟨σ2, fs, h3, h4⟩ := sexecsD_ok hs
   rw [SSt.er_put, h0] at h3
   exact ⟨σ2, fs, by simp only [List.map_cons, execsD, he]; exact h3, h4⟩
  cases g with
  | none => exact run σ rfl rfl h
  | some g =>
   obtain ⟨s, want⟩ := g
   simp only [sexecsD] at h
   split at h
   ·rename_i b hs
    have hs' : σ.er.env s = .one (.c (.bool b)) := by show (σ.env s).er = _; rw [hs]; rfl
    cases hb : (b : Bool) with
    | true =>
     have h0 : (σ.lit s true).er = σ.er := SSt.er_lit (by rw [hs, hb])
     rw [hb] at h
     simp only [cnd_true] at h
     cases want with
     | true => exact run _ h0 (by simp [execO, SOper.er, hs', hb]) h
     | false => exact skp _ h0 (by simp [execO, SOper.er, hs', hb]) h
    | false =>
     have h0 : (σ.lit s false).er = σ.er := SSt.er_lit (by rw [hs, hb])
     rw [hb] at h
     simp only [cnd_false] at h
     cases want with
     | true => exact skp _ h0 (by simp [execO, SOper.er, hs', hb]) h
     | false => exact run _ h0 (by simp [execO, SOper.er, hs', hb]) h
   ·rename_i hs
    have hs' : σ.er.env s = .tup [] := by show (σ.env s).er = _; rw [hs]; rfl
    exact skp σ rfl (by simp [execO, SOper.er, hs']) h
   ·cases h
end
end Go.Am