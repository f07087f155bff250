/- Am15: indexes, lengths, slices, stores, struct literals as operations. No condition. -/
import Derived.Test.YtbogogbogdafiaaAm14
set_option linter.unusedVariables false
namespace Go.Am
section
variable {B : Nat} {E : Ex} {w0 w w' : World} {G G' : Gh} {h h' : Nat → Option Blk} {used used' : Nat → Bool} {tk : List PC} {N : Nat}
variable {P : Program} {o : Oper} {a : Act} {σ σ' : St} {Q : Exit → Act → World → Prop}
theorem isSome_ne {n : Nat} (hs : (h n).isSome = true) : h n ≠ none := by intro hh; rw [hh] at hs; cases hs
theorem run_idx {t e : TypeId} {i : TypeInfo} {sz b off len cap : Nat} {kk : IntKind} {q : Int} (ht : P.underlying t = some (.slice e)) (hi : P.info? e = some i) (hsz : i.size = sz) (h0 : 0 ≤ q) (h1 : q < len) :
  (Instr.indexAt t (.slice (some (ad b off)) len cap) (.int kk q)).run P w = .ok (.pointer (some (ad b (off + q.toNat * sz)))) w := by
 simp [Instr.indexAt, run_underlying ht, asIntOf, h0, h1, sizeOf, typeInfo, hi, hsz, ad_add]
theorem ex_idxA (r : R B E w0 N σ a w G) {t e : TypeId} {i : TypeInfo} {x y : Operand} {mx my : MO} {sz : Nat} {q : Int} {z : AVal} (ho : o.op = .indexAddr t x y) (hN : ∀ n, o.dst = some n → n < N) (hm1 : chkMO x mx = true) (hm2 : chkMO y my = true)
  (ht : P.underlying t = some (.slice e)) (hi : P.info? e = some i) (hsz : i.size = sz) (hq : (σ.ev my).int? = some q) (h0 : 0 ≤ q)
  (hz : (∃ n lo len, σ.ev mx = .one (.sl n sz lo len) ∧ q < (len : Int) ∧ (σ.h n).isSome = true ∧ z = .one (.ptr n (lo + q.toNat) sz 0)) ∨ (∃ xs el, σ.ev mx = .one (.c (.list sz xs)) ∧ xs[q.toNat]? = some el ∧ z = .one (.dptr el 0))) :
  o.wp P a w (Nx B E w0 N (σ.put o.dst z)) Q := by
 obtain ⟨x1, x2⟩ := r.ev hm1
 obtain ⟨kk, ey⟩ := (r.ev hm2).1.int hq
 rcases hz with ⟨n, lo, len, e1, h1, hs, rfl⟩ | ⟨xs, el, e1, h1, rfl⟩
 ·rw [e1] at x1 x2
  have hsl : SlOk (G.g n) sz lo len (a.eval x) := (x1.oneRC (by simp)).1 (isSome_ne hs)
  rcases hsl with ⟨_, _, _, hl⟩ | ⟨hnl, a', hv, hcap, ha⟩
  ·omega
  ·have hae := ha (.inl (by omega))
   subst hae
   refine ex_val r (v := .pointer (some (ad (G.g n).b ((G.g n).o + lo * sz + q.toNat * sz)))) ?_ ?_ (fun m hm => x2 m hm) hN
   ·simp only [execOp, ho, hv, ey]
    simp [run_idx ht hi hsz h0 h1]
   ·exact RA.of_one rfl fun _ => ⟨hnl, by rw [Nat.add_mul]; congr 3; omega⟩
 ·rw [e1] at x1
  obtain ⟨pc, p1, p2, p3, p4⟩ := x1.c
  cases pc with
  | int k n => simp [PC.er] at p1
  | bool b => simp [PC.er] at p1
  | list s' ya c py =>
   rw [PC.er_list] at p1
   injection p1 with p0 p1
   subst p0
   have hpe : ∃ pe, py[q.toNat]? = some pe ∧ pe.map PC.er = el := by
    rw [← p1, List.getElem?_map] at h1
    cases hp : py[q.toNat]? with
    | none => rw [hp] at h1; cases h1
    | some pe => rw [hp] at h1; simp at h1; exact ⟨pe, rfl, h1⟩
   obtain ⟨pe, hp1, hp2⟩ := hpe
   have hlt : q.toNat < py.length := (List.getElem?_eq_some_iff.1 hp1).1
   cases p3 with
   | nil _ _ _ _ => simp at hlt
   | cons _ b oo _ _ g1 g2 g3 g4 g5 g6 =>
    have hq' : q < (py.length : Int) := by omega
    refine ex_val r (v := .pointer (some (ad b (oo + q.toNat * s')))) ?_ ?_ (fun m hm => absurd hm (by simp [AVal.ref, ACell.ref, ACell.ref0])) hN
    ·simp only [execOp, ho, ← p2, PC.val, ey]
     simp [run_idx ht hi hsz h0 hq']
    ·refine RA.of_one rfl ⟨b, oo + q.toNat * s', pe, by simp, hp2, p4 b (.here _ _ _ _ g1), fun j c hj => ?_⟩
     exact ⟨g5 _ _ _ ⟨pe, hp1, hj⟩, g6 _ _ _ ⟨pe, hp1, hj⟩, fun b' hb' => p4 b' (.there _ _ _ _ _ _ c ⟨pe, hp1, hj⟩ hb')⟩
theorem ex_len (r : R B E w0 N σ a w G) {t e : TypeId} {x : Operand} {mx : MO} {len : Nat} (ho : o.op = .call { callee := .builtin .len, args := #[x], argTypes := #[t] }) (hN : ∀ n, o.dst = some n → n < N) (hm : chkMO x mx = true)
  (ht : P.underlying t = some (.slice e))
  (hz : (∃ n sz lo, σ.ev mx = .one (.sl n sz lo len) ∧ (σ.h n).isSome = true) ∨ (∃ sz xs, σ.ev mx = .one (.c (.list sz xs)) ∧ len = xs.length) ∨ (∃ sz, σ.ev mx = .one (.nil sz) ∧ len = 0) ∨
   (∃ n k rsz off sz l s ys, σ.ev mx = .one (.nsl n k rsz off sz l) ∧ viewC σ.h (.nsl n k rsz off sz l) = some (.list s ys) ∧ len = ys.length)) :
  o.wp P a w (Nx B E w0 N (σ.put o.dst (.one (.c (.int .i64 len))))) Q := by
 obtain ⟨x1, x2⟩ := r.ev hm
 have hv : ∃ a' c, a.eval x = .slice a' len c := by
  rcases hz with ⟨n, sz, lo, e1, hs⟩ | ⟨sz, xs, e1, rfl⟩ | ⟨sz, e1, rfl⟩ | ⟨n, k, rsz, off, sz, l, s, ys, e1, hvw, rfl⟩
  ·rw [e1] at x1
   have hsl : SlOk (G.g n) sz lo len (a.eval x) := (x1.oneRC (by simp)).1 (isSome_ne hs)
   rcases hsl with ⟨_, hv, _, rfl⟩ | ⟨_, a', hv, _, _⟩
   ·exact ⟨_, _, hv⟩
   ·exact ⟨_, _, hv⟩
  ·rw [e1] at x1
   obtain ⟨pc, p1, p2, _⟩ := x1.c
   cases pc with
   | int k n => simp [PC.er] at p1
   | bool b => simp [PC.er] at p1
   | list s' ya c py =>
    rw [PC.er_list] at p1
    injection p1 with _ p1
    refine ⟨ya, c, ?_⟩
    rw [← p2, ← p1]; simp [PC.val]
  ·rw [e1] at x1
   have hv' : a.eval x = .slice none 0 0 := (x1.oneRC (by simp)).1
   exact ⟨_, _, hv'⟩
  ·rw [e1] at x1
   obtain ⟨pc, p1, p2, _⟩ := r.hr.viewC hvw (x1.oneRC (by simp)).1
   cases pc with
   | int k n => simp [PC.er] at p1
   | bool b => simp [PC.er] at p1
   | list s' ya c py =>
    rw [PC.er_list] at p1
    injection p1 with _ p1
    refine ⟨ya, c, ?_⟩
    rw [← p2, ← p1]; simp [PC.val]
 obtain ⟨a', c, hv⟩ := hv
 refine ex_val r (v := .int .i64 len) ?_ (RA.of_int _ _) (fun q hq => absurd hq no_ref_c) hN
 simp [execOp, ho, resolve, invoke, builtin, hv, Builtin.len_, run_underlying ht, goInt]
theorem run_slice2 {t e : TypeId} {i : TypeInfo} {sz : Nat} {ya : Option Addr} {len cap : Nat} {lo hi' : Option Value} {l hh : Int} (ht : P.underlying t = some (.slice e)) (hi : P.info? e = some i) (hsz : i.size = sz)
  (hlo : (lo = none ∧ l = 0) ∨ ∃ k, lo = some (.int k l)) (hhi : (hi' = none ∧ hh = len) ∨ ∃ k, hi' = some (.int k hh)) (h0 : 0 ≤ l) (h1 : l ≤ hh) (h2 : hh ≤ len) (h3 : len ≤ cap) :
  (Instr.sliceAt t (.slice ya len cap) lo hi' none).run P w = .ok (.slice (if cap = l.toNat then ya else ya.map (·.add (l.toNat * sz))) (hh - l).toNat (cap - l.toNat)) w := by
 have e1 : (hh.toNat : Int) = hh := Int.toNat_of_nonneg (by omega)
 have e2 : (hh - l).toNat = hh.toNat - l.toNat := by omega
 have h4 : hh ≤ (cap : Int) := by omega
 have h5 : 0 ≤ hh := by omega
 rcases hlo with ⟨rfl, rfl⟩ | ⟨k, rfl⟩ <;> rcases hhi with ⟨rfl, rfl⟩ | ⟨k', rfl⟩ <;>
  simp [Instr.sliceAt, Instr.slice, run_underlying ht, Instr.sliceBounds, Instr.sliceBound, asIntOf, sizeOf, typeInfo, hi, hsz, h0, h1, h4, h5, e1, e2] <;> omega
theorem ex_slice (r : R B E w0 N σ a w G) {t e : TypeId} {i : TypeInfo} {x : Operand} {lo hi' : Option Operand} {mx : MO} {sz : Nat} {l hh : Int} {z : AVal} (ho : o.op = .slice t x lo hi' none) (hN : ∀ n, o.dst = some n → n < N) (hm1 : chkMO x mx = true)
  (ht : P.underlying t = some (.slice e)) (hi : P.info? e = some i) (hsz : i.size = sz) (hsz0 : 0 < sz) {len : Nat}
  (hlo : (lo = none ∧ l = 0) ∨ ∃ y my, lo = some y ∧ chkMO y my = true ∧ (σ.ev my).int? = some l) (hhi : (hi' = none ∧ hh = len) ∨ ∃ y my, hi' = some y ∧ chkMO y my = true ∧ (σ.ev my).int? = some hh)
  (h0 : 0 ≤ l) (h1 : l ≤ hh) (h2 : hh ≤ len)
  (hz : (∃ n l0, σ.ev mx = .one (.sl n sz l0 len) ∧ (σ.h n).isSome = true ∧ z = .one (.sl n sz (l0 + l.toNat) (hh - l).toNat)) ∨ (∃ xs, σ.ev mx = .one (.c (.list sz xs)) ∧ len = xs.length ∧ z = .one (.c (.list sz ((xs.drop l.toNat).take (hh - l).toNat))))) :
  o.wp P a w (Nx B E w0 N (σ.put o.dst z)) Q := by
 obtain ⟨x1, x2⟩ := r.ev hm1
 have hlo' : (lo.map a.eval = none ∧ l = 0) ∨ ∃ k, lo.map a.eval = some (.int k l) := by
  rcases hlo with ⟨rfl, h⟩ | ⟨y, my, rfl, c1, c2⟩
  ·exact .inl ⟨rfl, h⟩
  ·obtain ⟨k, hk⟩ := (r.ev c1).1.int c2
   exact .inr ⟨k, by simp [hk]⟩
 have hhi' : (hi'.map a.eval = none ∧ hh = len) ∨ ∃ k, hi'.map a.eval = some (.int k hh) := by
  rcases hhi with ⟨rfl, h⟩ | ⟨y, my, rfl, c1, c2⟩
  ·exact .inl ⟨rfl, h⟩
  ·obtain ⟨k, hk⟩ := (r.ev c1).1.int c2
   exact .inr ⟨k, by simp [hk]⟩
 rcases hz with ⟨n, l0, e1, hs, rfl⟩ | ⟨xs, e1, rfl, rfl⟩
 ·rw [e1] at x1 x2
  have hsl : SlOk (G.g n) sz l0 len (a.eval x) := (x1.oneRC (by simp)).1 (isSome_ne hs)
  rcases hsl with ⟨hnl, hv, rfl, rfl⟩ | ⟨hnl, a', hv, hcap, ha⟩
  ·have hr := run_slice2 (P := P) (w := w) (ya := (G.g n).na) (len := 0) (cap := (G.g n).cap) ht hi hsz hlo' hhi' h0 h1 h2 (Nat.zero_le _)
   have hl0 : l.toNat = 0 := by omega
   have hh0 : (hh - l).toNat = 0 := by omega
   refine ex_val r (v := .slice (G.g n).na 0 (G.g n).cap) ?_ (RA.of_one rfl fun _ => .inl ⟨hnl, rfl, by omega, by omega⟩) (fun m hm => x2 m hm) hN
   simp only [execOp, ho, hv, Option.map_none]
   simp only [hl0, hh0, Nat.zero_mul] at hr
   have ha : (G.g n).na.map (fun x => x.add 0) = (G.g n).na := by
    cases (G.g n).na with
    | none => rfl
    | some x => simp [Addr.add]
   rw [ha] at hr
   simp [hr]
  ·have hr := run_slice2 (P := P) (w := w) (ya := a') (len := len) (cap := (G.g n).cap - l0) ht hi hsz hlo' hhi' h0 h1 h2 (by omega)
   refine ex_val r (by simp only [execOp, ho, hv, Option.map_none]; simp [hr]; rfl) (RA.of_one rfl fun _ => .inr ⟨hnl, _, by rw [Nat.sub_sub], by omega, fun hc => ?_⟩) (fun m hm => x2 m hm) hN
   split
   ·rename_i hcl
    have : l0 = 0 ∧ l.toNat = 0 := by omega
    rw [ha (.inr this.1), this.1, this.2]
   ·rename_i hcl
    have hlt : l0 < (G.g n).cap := by omega
    rw [ha (.inl hlt)]
    simp only [Option.map_some, ad_add]
    rw [Nat.add_mul, Nat.add_assoc]
 ·rw [e1] at x1
  obtain ⟨pc, p1, p2, p3, p4⟩ := x1.c
  cases pc with
  | int k n => simp [PC.er] at p1
  | bool b => simp [PC.er] at p1
  | list s' ya c py =>
   rw [PC.er_list] at p1
   injection p1 with p0 p1
   subst p0
   have hlen : xs.length = py.length := by rw [← p1]; simp
   have hv : a.eval x = .slice ya xs.length c := by rw [← p2, hlen]; rfl
   have hcap : xs.length ≤ c ∨ py = [] := by
    cases p3 with
    | nil _ _ _ _ => exact .inr rfl
    | cons _ b oo _ _ g1 g2 g3 g4 g5 g6 => exact .inl (by rw [hlen]; exact g2)
   have hc2 : xs.length ≤ c := by
    rcases hcap with hc | hc
    ·exact hc
    ·rw [hlen, hc]; exact Nat.zero_le _
   have hr := run_slice2 (P := P) (w := w) (ya := ya) (len := xs.length) (cap := c) ht hi hsz hlo' hhi' h0 h1 h2 hc2
   have hlen2 : ((py.drop l.toNat).take (hh - l).toNat).length = (hh - l).toNat := by simp; omega
   let pc' : PC := .list s' (if c = l.toNat then ya else ya.map (·.add (l.toNat * s'))) (c - l.toNat) ((py.drop l.toNat).take (hh - l).toNat)
   have hgood : Good w pc' ∧ ∀ b, InF b pc' → G.Im b := by
    by_cases hem : (py.drop l.toNat).take (hh - l).toNat = []
    ·constructor
     ·show Good w (.list _ _ _ _)
      rw [hem]; exact .nil _ _ _ hsz0
     ·intro b hb
      rw [InF.list_iff, hem] at hb
      rcases hb with ⟨hb, _⟩ | ⟨k, j, c, ⟨e, he, _⟩, _⟩
      ·exact absurd rfl hb
      ·simp at he
    ·cases p3 with
     | nil _ _ _ _ => simp at hem
     | cons _ b oo _ _ g1 g2 g3 g4 g5 g6 =>
      have hpos : 0 < (hh - l).toNat := by
       rcases Nat.eq_zero_or_pos (hh - l).toNat with hz | hz
       ·rw [hz] at hem; simp at hem
       ·exact hz
      have hne : c ≠ l.toNat := by omega
      have hpc : pc' = .list s' (some (ad b (oo + l.toNat * s'))) (c - l.toNat) ((py.drop l.toNat).take (hh - l).toNat) := by
       show PC.list _ _ _ _ = _
       rw [if_neg hne]; simp [ad_add]
      rw [hpc]
      constructor
      ·refine .cons _ _ _ _ _ hem (by omega) g3 (fun e he => g4 e (List.mem_of_mem_drop (List.mem_of_mem_take he))) (fun k j c' hk => ?_) (fun k j c' hk => g6 _ _ _ (at_sub hk).1)
       have := g5 _ _ _ (at_sub hk).1
       rw [Nat.add_mul] at this
       rw [← this]
       congr 2
       omega
      ·intro x hx
       rw [InF.list_iff] at hx
       rcases hx with ⟨_, o', ho'⟩ | ⟨k, j, c', hk, hx⟩
       ·injection ho' with ho'
        rw [← (ad_inj ho').1]
        exact p4 b (.here _ _ _ _ g1)
       ·exact p4 x (.there _ _ _ _ _ _ c' (at_sub hk).1 hx)
   refine ex_val r (v := pc'.val) ?_ (RA.of_one (PC.val_oneCell _) ⟨pc', ?_, rfl, hgood.1, hgood.2⟩) (fun q hq => absurd hq no_ref_c) hN
   ·simp only [execOp, ho, hv, Option.map_none]
    simp [hr, pc', PC.val, hlen2]
   ·show PC.er (.list _ _ _ _) = _
    rw [PC.er_list, List.map_take, List.map_drop, p1]
theorem cell_fit {b x : Nat} {v : Value} {cur : Array Value} {e : TypeId} (hg : w.heap[b]? = some (.cells cur e (0, 0))) (hc : w.cell? (ad b x) = some v) : x < cur.size := by
 have h2 : w.cell? (ad b x) = cur[x]? := by simp [World.cell?, ad, hg]
 rw [h2] at hc
 exact (Array.getElem?_eq_some_iff.1 hc).1
theorem ex_store_box (r : R B E w0 N σ a w G) {t : TypeId} {i : TypeInfo} {x y : Operand} {mx my : MO} {sz n k rsz off : Nat} {ag : Bool} {vs cs : List ACell} (ho : o.op = .store t x y) (hd : o.dst = none) (hm1 : chkMO x mx = true) (hm2 : chkMO y my = true)
  (hi : P.info? t = some i) (hsz : i.size = sz) (hsz0 : 0 < sz) (hp : σ.ev mx = .one (.ptr n k rsz off)) (hv : (σ.ev my).cells? = some (ag, vs)) (hl : vs.length = sz) (hn : σ.h n = some (.box cs)) (hk : k = 0) (hfit : off + sz ≤ cs.length) :
  o.wp P a w (Nx B E w0 N (σ.setB n (.box (splice cs off vs)))) Q := by
 obtain ⟨x1, _⟩ := r.ev hm1
 obtain ⟨y1, y2⟩ := r.ev hm2
 rw [hp] at x1
 subst hk
 obtain ⟨p1, p2⟩ := (x1.oneRC (by simp)).1 (by rw [hn]; simp)
 obtain ⟨q1, ⟨cur, et, q2⟩, q3⟩ := r.hr.box n cs hn
 have hcl := y1.cells hv
 have hul : (a.eval y).cells.toList.length = sz := by rw [hcl.1, hl]
 have hbound : (G.g n).o + off + (a.eval y).cells.toList.length ≤ cur.size := by
  obtain ⟨v, v1, _⟩ := q3 (off + sz - 1) (cs[off + sz - 1]'(by omega)) (List.getElem?_eq_getElem _)
  have := cell_fit q2 v1
  omega
 have r' := r.storeBox hn hcl (fun c hc m hm => y2 m (AVal.cells_ref hv hc hm)) (by omega) q2 hbound
 have hrun := run_storeVar (P := P) (w := w) (t := t) (i := i) (b := (G.g n).b) (off := (G.g n).o + off) (v := a.eval y) (cur := cur) (e := et) hi (by rw [hsz, ← hul]; simp) q2 (by simpa using hbound) (fun u hu => by
  obtain ⟨j, hj, hju⟩ := List.getElem_of_mem hu
  have hjc : j < vs.length := by omega
  have := (hcl.2 j _ u (List.getElem?_eq_getElem hjc) (by rw [List.getElem?_eq_getElem hj, hju])).1
  exact this)
 refine wp_skipped (w' := wSet w (G.g n).b ((G.g n).o + off) (a.eval y).cells.toList cur) ?_ ⟨G, ?_⟩
 ·simp only [execOp, ho, p2, Nat.zero_mul, Nat.add_zero]
  simp [Instr.storeAt, Instr.sureAddr, hrun]
 ·rw [hd]; exact r'
theorem ex_store_row (r : R B E w0 N σ a w G) {t : TypeId} {i : TypeInfo} {x y : Operand} {mx my : MO} {sz n k off : Nat} {ag gr : Bool} {m : Mode} {rs : Nat} {xs : List (List C)} {el : List C} {vs : List ACell} {σ2 : St} (ho : o.op = .store t x y) (hd : o.dst = none) (hm1 : chkMO x mx = true) (hm2 : chkMO y my = true)
  (hi : P.info? t = some i) (hsz : i.size = sz) (hsz0 : 0 < sz) (hp : σ.ev mx = .one (.ptr n k rs off)) (hv : (σ.ev my).cells? = some (ag, vs)) (hl : vs.length = sz) (hn : σ.h n = some (.row gr m rs xs)) (hk : xs[k]? = some el)
  (hx : storeRow σ n gr m rs xs k off el vs = some σ2) : o.wp P a w (Nx B E w0 N σ2) Q := by
 obtain ⟨x1, _⟩ := r.ev hm1
 obtain ⟨y1, y2⟩ := r.ev hm2
 rw [hp] at x1
 obtain ⟨p1, p2⟩ := (x1.oneRC (by simp)).1 (by rw [hn]; simp)
 have hr := r.hr.row n gr m rs xs hn
 obtain ⟨⟨cur, et, q2⟩, l2, l3⟩ := hr.lies p1
 have hcl := y1.cells hv
 have hul : (a.eval y).cells.toList.length = sz := by rw [hcl.1, hl]
 have hoff : off + vs.length ≤ el.length := by
  unfold storeRow at hx
  split at hx
  ·cases hx
  ·rename_i old hs; exact (sub_some hs).1
 have hpe : ∃ pe, (G.g n).px[k]? = some pe ∧ pe.map PC.er = el := by
  have hk' := hk
  rw [hr.er, List.getElem?_map] at hk'
  cases hq : (G.g n).px[k]? with
  | none => rw [hq] at hk'; cases hk'
  | some pe => rw [hq] at hk'; simp at hk'; exact ⟨pe, rfl, hk'⟩
 obtain ⟨pe, hpe1, hpe2⟩ := hpe
 have hpel : pe.length = el.length := by rw [← hpe2]; simp
 have hbound : (G.g n).o + k * rs + off + (a.eval y).cells.toList.length ≤ cur.size := by
  have hc := l2.2.1 k (off + sz - 1) (pe[off + sz - 1]'(by omega)) ⟨pe, hpe1, List.getElem?_eq_getElem _⟩
  have := cell_fit q2 hc
  omega
 obtain ⟨G', r'⟩ := r.storeRow hn p1 hk hcl (fun c hc m hm => y2 m (AVal.cells_ref hv hc hm)) hx q2 hbound
 have hrun := run_storeVar (P := P) (w := w) (t := t) (i := i) (b := (G.g n).b) (off := (G.g n).o + k * rs + off) (v := a.eval y) (cur := cur) (e := et) hi (by rw [hsz, ← hul]; simp) q2 (by simpa using hbound) (fun u hu => by
  obtain ⟨j, hj, hju⟩ := List.getElem_of_mem hu
  have hjc : j < vs.length := by omega
  exact (hcl.2 j _ u (List.getElem?_eq_getElem hjc) (by rw [List.getElem?_eq_getElem hj, hju])).1)
 refine wp_skipped (w' := wSet w (G.g n).b ((G.g n).o + k * rs + off) (a.eval y).cells.toList cur) ?_ ⟨G', ?_⟩
 ·simp only [execOp, ho, p2]
  simp [Instr.storeAt, Instr.sureAddr, hrun]
 ·rw [hd]; exact r'
def chkParts (places : List (Nat × Nat)) : List (Nat × Operand) → List (Nat × Nat × MO) → Bool
 | [], [] => true
 | (i, x) :: ps, (off, sz, m) :: ms => (places[i]? == some (off, sz)) && chkMO x m && chkParts places ps ms
 | _, _ => false
theorem fill_parts (r : R B E w0 N σ a w G) (places : List (Nat × Nat)) : ∀ (ps : List (Nat × Operand)) (ms : List (Nat × Nat × MO)) (zs cs : List ACell) (cur : Array Value), chkParts places ps ms = true →
  RCl w G σ.h zs cur.toList → (∀ c ∈ zs, ∀ m, c.ref m → σ.used m = true) → setParts σ.ev zs ms = some cs →
  ∃ cur', Instr.fill (places.toArray[·]?) cur (ps.map fun p => (p.1, a.eval p.2)) = some cur' ∧ RCl w G σ.h cs cur'.toList ∧ ∀ c ∈ cs, ∀ m, c.ref m → σ.used m = true
 | [], [], zs, cs, cur, _, hz, hr, hx => by
  simp only [setParts] at hx
  injection hx with hx
  subst hx
  exact ⟨cur, rfl, hz, hr⟩
 | (i, x) :: ps, (off, sz, m) :: ms, zs, cs, cur, hc, hz, hr, hx => by
  simp only [chkParts, Bool.and_eq_true, beq_iff_eq] at hc
  obtain ⟨⟨c1, c2⟩, c3⟩ := hc
  simp only [setParts] at hx
  split at hx
  ·rename_i ag vs hv
   split at hx
   ·rename_i hcond
    obtain ⟨h1, h2⟩ := hcond
    obtain ⟨y1, y2⟩ := r.ev c2
    have hcl := y1.cells hv
    have hvl : (a.eval x).cells.size = sz := by rw [← Array.length_toList, hcl.1, h1]
    have hzl : cur.size = zs.length := by rw [← Array.length_toList, hz.1]
    have hsp : RCl w G σ.h (splice zs off vs) (splice cur.toList off (a.eval x).cells.toList) := by
     have hvl2 : (a.eval x).cells.toList.length = vs.length := hcl.1
     refine ⟨?_, fun j c u hj hu => ?_⟩
     ·rw [splice_length (by rw [hvl2, hz.1]; omega), splice_length (by omega), hz.1]
     ·rw [splice_get (by omega)] at hj
      rw [splice_get (by rw [hvl2, hz.1]; omega), hvl2] at hu
      by_cases hin : off ≤ j ∧ j < off + vs.length
      ·rw [if_pos hin] at hj hu; exact hcl.2 _ c u hj hu
      ·rw [if_neg hin] at hj hu; exact hz.2 _ c u hj hu
    obtain ⟨cur', e1, e2, e3⟩ := fill_parts r places ps ms (splice zs off vs) cs (splice cur.toList off (a.eval x).cells.toList).toArray c3 hsp (fun c hc q hq => by
     simp only [splice, List.mem_append] at hc
     rcases hc with (hc | hc) | hc
     ·exact hr c (List.mem_of_mem_take hc) q hq
     ·exact y2 q (AVal.cells_ref hv hc hq)
     ·exact hr c (List.mem_of_mem_drop hc) q hq) hx
    refine ⟨cur', ?_, e2, e3⟩
    simp only [List.getElem?_toArray] at e1
    simp only [List.map_cons, Instr.fill, List.getElem?_toArray, c1]
    rw [if_neg (by simp; omega), foldl_setA _ _ _ (by omega)]
    exact e1
   ·cases hx
  ·cases hx
 | [], _ :: _, _, _, _, hc, _, _, _ => by simp [chkParts] at hc
 | (_, _) :: _, [], _, _, _, hc, _, _, _ => by simp [chkParts] at hc
theorem ex_build (r : R B E w0 N σ a w G) {t : TypeId} {parts : Array (Nat × Operand)} {ms : List (Nat × Nat × MO)} {zs cs : List ACell} {it : TypeInfo} {z : Value} {fields : Array Field} {places : List (Nat × Nat)} (ho : o.op = .build t parts) (hN : ∀ n, o.dst = some n → n < N)
  (hit : P.info? t = some it) (hz : it.zero = some z) (hu : P.underlying t = some (.struct fields)) (hpl : fields.toList.mapM (fun f => (P.info? f.type).map fun i => (f.offset, i.size)) = some places)
  (hzc : chkCs z.cells.toList zs = true) (hc : chkParts places parts.toList ms = true) (hx : setParts σ.ev zs ms = some cs) : o.wp P a w (Nx B E w0 N (σ.put o.dst (.agg cs))) Q := by
 obtain ⟨z1, z2⟩ := chkCs_ok (w := w) (G := G) (h := σ.h) hzc
 obtain ⟨cur', e1, e2, e3⟩ := fill_parts r places parts.toList ms zs cs z.cells hc z1 (fun c hc m hm => absurd hm (z2 c hc m)) hx
 refine ex_val r (v := .agg cur') ?_ ⟨cur'.toList, by simp, e2⟩ (fun m hm => by obtain ⟨c, hc, hm⟩ := hm; exact e3 c hc m hm) hN
 have hb : P.built t (parts.map fun p => (p.1, a.eval p.2)).toList = some cur' := by
  unfold Program.built
  simp only [hit, hu, hz, hpl, Array.toList_map]
  exact e1
 have hrun := run_build (P := P) w t _ cur' hb
 simp only [execOp, ho]
 simp [hrun]
theorem ex_mkfn (r : R B E w0 N σ a w G) {f : FuncId} {xs : Array Operand} {ms : List MO} {cs : List ACell} (ho : o.op = .makeFunc (.func f) #[] xs) (hN : ∀ n, o.dst = some n → n < N)
  (hc : ms.length = xs.size ∧ ∀ (j : Nat) (x : Operand) (m : MO), xs.toList[j]? = some x → ms[j]? = some m → chkMO x m = true)
  (hx : (ms.map σ.ev).mapM (fun v => match v with | .one c => if c.isFn = true then none else some c | _ => none) = some cs) (hj : ∀ c ∈ cs, c ≠ .junk) : o.wp P a w (Nx B E w0 N (σ.put o.dst (.one (.fn f cs)))) Q := by
 have key : ∀ (ms : List MO) (xs : List Operand) (cs : List ACell), ms.length = xs.length → (∀ (j : Nat) (x : Operand) (m : MO), xs[j]? = some x → ms[j]? = some m → chkMO x m = true) →
   (ms.map σ.ev).mapM (fun v => match v with | .one c => if c.isFn = true then none else some c | _ => none) = some cs → (∀ c ∈ cs, c ≠ .junk) →
   (xs.map a.eval).length = cs.length ∧ ∀ (j : Nat) (c : ACell) (u : Value), cs[j]? = some c → (xs.map a.eval)[j]? = some u → (u.oneCell' = true ∧ RC0 w G σ.h c u) ∧ ∀ m, c.ref0 m → σ.used m = true := by
  intro ms
  induction ms with
  | nil =>
   intro xs cs hl _ hx _
   have : xs = [] := List.eq_nil_of_length_eq_zero (by simpa using hl.symm)
   subst this
   simp at hx
   subst hx
   simp
  | cons m ms ih =>
   intro xs cs hl hch hx hj
   match xs, hl with
   | x :: xs, hl =>
    simp only [List.map_cons, List.mapM_cons, Option.bind_eq_bind, Option.pure_def] at hx
    cases hm : σ.ev m with
    | one c =>
     rw [hm] at hx
     by_cases hf : c.isFn = true
     ·simp [hf] at hx
     ·simp only [hf, if_false, Bool.false_eq_true, Option.bind_some] at hx
      cases hr : (ms.map σ.ev).mapM (fun v => match v with | .one c => if c.isFn = true then none else some c | _ => none) with
      | none => rw [hr] at hx; simp at hx
      | some cs' =>
       rw [hr] at hx
       simp at hx
       subst hx
       obtain ⟨i1, i2⟩ := ih xs cs' (by simpa using hl) (fun j x m h1 h2 => hch (j + 1) x m h1 h2) hr (fun c hc => hj c (by simp [hc]))
       refine ⟨by simp [i1], fun j c' u hj' hu => ?_⟩
       cases j with
       | zero =>
        simp at hj' hu
        subst hj'; subst hu
        obtain ⟨e1, e2⟩ := r.ev (hch 0 x m rfl rfl)
        rw [hm] at e1 e2
        have hcf : c.isFn = false := by simpa using hf
        have h1 := (e1.oneRC (hj c (by simp)))
        rw [RC_eq _ _ _ _ _ hcf] at h1
        exact ⟨⟨h1.2, h1.1⟩, fun q hq => e2 q (by show c.ref q; rw [ACell.ref_eq c q hcf]; exact hq)⟩
       | succ j => exact i2 j c' u (by simpa using hj') (by simpa using hu)
    | agg cs0 => rw [hm] at hx; simp at hx
    | tup l => rw [hm] at hx; simp at hx
 obtain ⟨k1, k2⟩ := key ms xs.toList cs (by simpa using hc.1) hc.2 hx hj
 have href : ∀ m, (ACell.fn f cs).ref m → σ.used m = true := fun m hm => by
  obtain ⟨c, hcm, hm⟩ := hm
  obtain ⟨j, hj', hjc⟩ := List.getElem_of_mem hcm
  have hjl : j < (xs.toList.map a.eval).length := by omega
  exact (k2 j c _ (by rw [List.getElem?_eq_getElem hj', hjc]) (List.getElem?_eq_getElem hjl)).2 m hm
 refine ex_val r (v := .func (.func f) #[] (xs.toList.map a.eval).toArray) ?_ (RA.of_one rfl ⟨xs.toList.map a.eval, rfl, k1, fun j c u h1 h2 => (k2 j c u h1 h2).1⟩) href hN
 simp only [execOp, ho, Instr.makeFunc]
 have : Array.map a.eval xs = (xs.toList.map a.eval).toArray := by apply Array.ext'; simp
 simp [this]
theorem at_drop {α : Type} {xs : List (List α)} {l k j : Nat} {c : α} (h : At (xs.drop l) k j c) : At xs (l + k) j c := by
 obtain ⟨e, he, hj⟩ := h
 rw [List.getElem?_drop] at he
 exact ⟨e, he, hj⟩
theorem rowF_drop {b l : Nat} {px : List (List PC)} (h : RowF b (px.drop l)) : RowF b px := by
 obtain ⟨k, j, c, h1, h2⟩ := h
 exact ⟨_, _, _, at_drop h1, h2⟩
theorem RowSep.drop {px : List (List PC)} (h : RowSep px) (l : Nat) : RowSep (px.drop l) :=
 ⟨fun k j c hk => h.1 _ _ _ (at_drop hk), fun k j c k' j' c' b hk hk' hne => h.2 _ _ _ _ _ _ b (at_drop hk) (at_drop hk') (fun e => hne (by injection e with e1 e2; rw [show k = k' by omega, e2]))⟩
theorem ex_tail (r : R B E w0 N σ a w G) {n n0 : Nat} {t e : TypeId} {i : TypeInfo} {x y : Operand} {mx my : MO} {sz : Nat} {l : Int} {m : Mode} {xs : List (List C)} {σ1 : St} (ho : o.op = .slice t x (some y) none none) (hd : o.dst = some n) (hN : n < N)
  (hm1 : chkMO x mx = true) (hm2 : chkMO y my = true) (ht : P.underlying t = some (.slice e)) (hi : P.info? e = some i) (hsz : i.size = sz) (hsz0 : 0 < sz)
  (hx : σ.ev mx = .one (.sl n0 sz 0 xs.length)) (hl : (σ.ev my).int? = some l) (h0 : 0 ≤ l) (h1 : l ≤ (xs.length : Int)) (hn : σ.h n0 = some (.row true m sz xs)) (hi1 : (σ.del n0).ins n (.row true m sz (xs.drop l.toNat)) = some σ1) :
  o.wp P a w (Nx B E w0 N (σ1.put o.dst (.one (.sl n sz 0 (xs.length - l.toNat))))) Q := by
 obtain ⟨hnu, rfl⟩ := ins_some hi1
 obtain ⟨x1, x2⟩ := r.ev hm1
 rw [hx] at x1 x2
 obtain ⟨kk, ey⟩ := (r.ev hm2).1.int hl
 have hn0 : σ.h n0 ≠ none := by rw [hn]; simp
 have hsl : SlOk (G.g n0) sz 0 xs.length (a.eval x) := (x1.oneRC (by simp)).1 hn0
 have H := r.hr
 have hr := H.row n0 true m sz xs hn
 have hxl : xs.length = (G.g n0).px.length := by rw [hr.er]; simp
 have F := Free.of_row H hn
 have hln : l.toNat ≤ xs.length := by omega
 obtain ⟨p, v, hpx, hrun, hpn, hpl, hsv⟩ : ∃ (p : PB) (v : Value), p.px = (G.g n0).px.drop l.toNat ∧ (execOp a.eval o).run P w = .ok (.value v) w ∧ (p.nl = true → p.px = [] ∧ p.cap = 0) ∧
   (p.nl = false → (G.g n0).nl = false ∧ p.b = (G.g n0).b ∧ p.o = (G.g n0).o + l.toNat * sz ∧ p.cap = (G.g n0).cap - l.toNat ∧ l.toNat ≤ (G.g n0).cap) ∧ SlOk p sz 0 (xs.length - l.toNat) v := by
  rcases hsl with ⟨hnl, hv, _, hl0⟩ | ⟨hnl, a', hv, hcap, ha⟩
  ·have hrun := run_slice2 (P := P) (w := w) (ya := (G.g n0).na) (len := 0) (cap := (G.g n0).cap) (lo := some (.int kk l)) (hi' := none) (l := l) (hh := 0) ht hi hsz (.inr ⟨kk, rfl⟩) (.inl ⟨rfl, rfl⟩) h0 (by omega) (by omega) (Nat.zero_le _)
   obtain ⟨px0, cap0⟩ := hr.nl hnl
   have cap0 := cap0 rfl
   have hlz : l.toNat = 0 := by omega
   refine ⟨⟨true, 0, 0, 0, [], (G.g n0).na⟩, .slice (G.g n0).na 0 0, by rw [px0]; simp, ?_, fun _ => ⟨rfl, rfl⟩, (fun h => by cases h), .inl ⟨rfl, rfl, rfl, by omega⟩⟩
   simp only [execOp, ho, hv, Option.map_none, Option.map_some, ey]
   rw [cap0, hlz] at hrun
   simp only [if_true] at hrun
   simp [hrun, cap0]
   omega
  ·have hrun := run_slice2 (P := P) (w := w) (ya := a') (len := xs.length) (cap := (G.g n0).cap - 0) (lo := some (.int kk l)) (hi' := none) (l := l) (hh := xs.length) ht hi hsz (.inr ⟨kk, rfl⟩) (.inl ⟨rfl, rfl⟩) h0 h1 (by omega) (by omega)
   have hae := ha (.inr rfl)
   have e2 : ((xs.length : Int) - l).toNat = xs.length - l.toNat := by omega
   rw [e2, Nat.sub_zero] at hrun
   by_cases hc : (G.g n0).cap = l.toNat
   ·have e3 : xs.length - l.toNat = 0 := by omega
    rw [if_pos hc, e3] at hrun
    refine ⟨⟨true, 0, 0, 0, [], a'⟩, .slice a' 0 0, ?_, ?_, fun _ => ⟨rfl, rfl⟩, (fun h => by cases h), .inl ⟨rfl, rfl, rfl, e3⟩⟩
    ·rw [List.drop_eq_nil_of_le (by omega)]
    ·simp only [execOp, ho, hv, Option.map_none, Option.map_some, ey, Nat.sub_zero]
     rw [hc, Nat.sub_self] at hrun
     simp [hrun, hc]
   ·rw [if_neg hc, hae] at hrun
    simp only [Option.map_some, ad_add, Nat.zero_mul, Nat.add_zero] at hrun
    refine ⟨⟨false, (G.g n0).b, (G.g n0).o + l.toNat * sz, (G.g n0).cap - l.toNat, (G.g n0).px.drop l.toNat, none⟩, .slice (some (ad (G.g n0).b ((G.g n0).o + l.toNat * sz))) (xs.length - l.toNat) ((G.g n0).cap - l.toNat), rfl, ?_, (fun h => by cases h), fun _ => ⟨hnl, rfl, rfl, rfl, by omega⟩, .inr ⟨rfl, some (ad (G.g n0).b ((G.g n0).o + l.toNat * sz)), by simp, by simp; omega, fun _ => by simp⟩⟩
    simp only [execOp, ho, hv, Option.map_none, Option.map_some, ey, Nat.sub_zero, hae, Nat.zero_mul, Nat.add_zero]
    simp [hrun]
 have hsub : ∀ b, RowF b p.px → RowF b (G.g n0).px := fun b hb => rowF_drop (by rw [← hpx]; exact hb)
 have H1 : HR B E w G (upd σ.h n0 none) σ.used [] := H.del n0
 have K1 : Keep w G σ.h (fun q => σ.used q = true) w G (upd σ.h n0 none) := Keep.del n0 _
 have Hn : HR B E w ⟨G.Im, upd G.g n p⟩ (upd (upd σ.h n0 none) n (some (.row true m sz (xs.drop l.toNat)))) (upd σ.used n true) [] := by
  refine H1.insert (w' := w) (p := p) hnu (fun _ _ => rfl) (Nat.le_refl _) (fun hf => ?_) (fun cs c q hb => by cases hb) ?_ ?_ ?_ (fun gr m sz xs _ _ i pc b hi => by simp at hi)
  ·obtain ⟨q1, q2, q3, q4, q5⟩ := hpl hf
   obtain ⟨o1, o2, o3⟩ := H.own n0 hn0 q1
   rw [q2]
   refine ⟨⟨o1, fun q hq hlq => ?_, fun q gr m' sz' xs' hq hb => ?_⟩, o2, o3⟩
   ·obtain ⟨d1, d2⟩ := del_ne hq
    exact H.inj q n0 d1 hn0 d2 hlq q1
   ·exact H.foot_ne hn0 q1 (del_some hq).1 hb rfl
  ·refine ⟨hr.pos, by rw [hpx, hr.er, List.map_drop], fun h => ⟨(hpn h).1, fun _ => (hpn h).2⟩, fun hf => ?_, fun hf _ => ?_, ?_⟩
   ·obtain ⟨q1, q2, q3, q4, q5⟩ := hpl hf
    obtain ⟨l1, ⟨l2, l3, l4⟩, l5⟩ := hr.lies q1
    rw [q2, q3, q4, hpx]
    refine ⟨l1, ⟨fun e he => l2 e (List.mem_of_mem_drop he), fun k j c hk => ?_, fun k j c hk => l4 _ _ _ (at_drop hk)⟩, by simp; omega⟩
    have := l3 _ _ _ (at_drop hk)
    rw [← this]
    congr 2
    rw [Nat.add_mul]
    omega
   ·obtain ⟨q1, q2, q3, q4, q5⟩ := hpl hf
    obtain ⟨r2, cur, ee, r3, r4⟩ := hr.room q1 rfl
    unfold Room
    rw [q2, q3, q4]
    refine ⟨by omega, cur, ee, r3, ?_⟩
    rw [r4, Nat.add_assoc, ← Nat.add_mul]
    congr 2
    omega
   ·have hm := hr.mode
    show ModeOk B E w _ p.px m
    cases m with
    | bor => exact fun b hb => hm b (hsub b hb)
    | froz => exact ⟨fun b hb => hm.1 b (hsub b hb), by rw [hpx]; exact hm.2.drop _⟩
    | live => exact ⟨fun b hb => hm.1 b (hsub b hb), by rw [hpx]; exact hm.2.drop _⟩
  ·intro gr m' sz' xs' hb hmb q gr' mo sz2 xs2 h0 hmo b hbF
   injection hb with _ hb _ _
   subst hb
   exact F.cross hmb q gr' mo sz2 xs2 h0 hmo b (hsub b hbF)
  ·intro gr sz' xs' hb b hbF
   injection hb with _ hb _ _
   exact ⟨fun hf => by rw [(hpl hf).2.1]; exact H.foot_ne hn0 (hpl hf).1 hn (hsub b hbF), fun q h0 hlq => F.live hb b (hsub b hbF) q h0 hlq⟩
 have r' : R B E w0 N { (σ.del n0) with h := upd (σ.del n0).h n (some (.row true m sz (xs.drop l.toNat))), used := upd (σ.del n0).used n true } a w ⟨G.Im, upd G.g n p⟩ :=
  r.step rfl (fun q hq => upd_used n q hq) (Keep.trans (u2 := fun q => σ.used q = true) (fun _ h => h) K1 (Keep.insert H1 hnu (fun _ _ => rfl))) Hn r.fr
 have hone : v.oneCell' = true := by rcases hsv with ⟨_, h, _⟩ | ⟨_, _, h, _⟩ <;> rw [h] <;> rfl
 have hrc : RC w ⟨G.Im, upd G.g n p⟩ (upd (upd σ.h n0 none) n (some (.row true m sz (xs.drop l.toNat)))) (.sl n sz 0 (xs.length - l.toNat)) v := fun _ => by simpa [upd_same] using hsv
 refine wp_value (v := v) (w' := w) hrun ⟨_, r'.put (RA.of_one hone hrc) (fun q hq => by have hq' : q = n := hq; subst hq'; exact upd_same _ _ _) (fun q hq => by rw [hd] at hq; injection hq with hq; omega)⟩
end
end Go.Am