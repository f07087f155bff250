/- Am25: what a function returns. No condition. -/
import Derived.Test.YtbogogbogdafiaaAm24
set_option linter.unusedVariables false
namespace Go.Am
inductive MRes where
 | tmp (t : Nat)
 | cell (t sz : Nat) (ag : Bool)
def chkRes (P : Program) : List ResultVar → List MRes → Bool
 | [], [] => true
 | .tmp t :: rs, .tmp t' :: ms => (t == t') && chkRes P rs ms
 | .cell a ty :: rs, .cell a' sz ag :: ms => (a == a') && chkLoad P ty ag sz && chkRes P rs ms
 | _, _ => false
def St.resV (σ : St) : List MRes → Option (List AVal)
 | [] => some []
 | .tmp t :: ms => match σ.resV ms with
  | some vs => some (σ.env t :: vs)
  | none => none
 | .cell t sz ag :: ms => match σ.env t with
  | .one p => match loadAt σ.h p sz, σ.resV ms with
   | some cs, some vs => some (toA ag cs :: vs)
   | _, _ => none
  | _ => none
def retC (h : Nat → Option Blk) : ACell → Option (C × List Nat)
 | .c x => if x.scal = true then some (x, []) else none
 | .nil sz => if 0 < sz then some (.list sz [], []) else none
 | .sl n sz 0 len => match h n with
  | some (.row true m rs xs) => if rs = sz ∧ m ≠ .bor ∧ len ≤ xs.length then some (.list sz (xs.take len), [n]) else none
  | _ => none
 | _ => none
def retL (h : Nat → Option Blk) : List ACell → Option (List C × List Nat)
 | [] => some ([], [])
 | c :: cs => match retC h c, retL h cs with
  | some (x, ns), some (xs, ns') => some (x :: xs, ns ++ ns')
  | _, _ => none
def retDs (h : Nat → Option Blk) : List AVal → Option (List Dv × List Nat)
 | [] => some ([], [])
 | v :: vs => match v.cells? with
  | some (ag, cs) => match retL h cs, retDs h vs with
   | some (xs, ns), some (ds, ns') => some ((if ag = true then (K.agg, xs) else (K.one, xs)) :: ds, ns ++ ns')
   | _, _ => none
  | none => none
def St.retF (σ : St) (ms : List MRes) : Option (List Dv) :=
 match σ.resV ms with
 | some vs => match retDs σ.h vs with
  | some (ds, ns) => if ns.Nodup then some ds else none
  | none => none
 | none => none
section
variable {B : Nat} {E : Ex} {w0 w w' : World} {G G' : Gh} {N : Nat} {h h' : Nat → Option Blk} {used : Nat → Bool}
variable {P : Program} {T : Tab} {a : Act} {σ σ' : St}
def foot (G : Gh) (n b : Nat) : Prop := ((G.g n).nl = false ∧ b = (G.g n).b) ∨ RowF b (G.g n).px
theorem HR.foot_dis (H : HR B E w G h used []) {n n' : Nat} (hne : n ≠ n') {gr gr' : Bool} {m m' : Mode} {sz sz' : Nat} {xs xs' : List (List C)} (h1 : h n = some (.row gr m sz xs)) (h2 : h n' = some (.row gr' m' sz' xs'))
  (hm : m ≠ .bor) (hm' : m' ≠ .bor) {b : Nat} (hb : foot G n b) : ¬ foot G n' b := by
 have e1 : h n ≠ none := by rw [h1]; simp
 have e2 : h n' ≠ none := by rw [h2]; simp
 have own : ∀ {p q : Nat} {gr : Bool} {m : Mode} {sz : Nat} {xs : List (List C)}, h p ≠ none → h q = some (.row gr m sz xs) → m ≠ .bor → (G.g p).nl = false → ¬ RowF (G.g p).b (G.g q).px := by
  intro p q gr m sz xs hp hq hm hl hF
  have hmode := (H.row q gr m sz xs hq).mode
  cases m with
  | bor => exact hm rfl
  | froz => exact (H.own p hp hl).1 (hmode.1 _ hF).1
  | live => exact H.live q gr sz xs hq _ hF p hp hl rfl
 rintro (⟨l2, rfl⟩ | b2)
 ·rcases hb with ⟨l1, b1⟩ | b1
  ·exact H.inj n n' e1 e2 hne l1 l2 b1.symm
  ·exact own e2 h1 hm l2 b1
 ·rcases hb with ⟨l1, rfl⟩ | b1
  ·exact own e1 h2 hm' l1 b2
  ·exact H.cross n n' gr m sz xs gr' m' sz' xs' h1 h2 hm hm' hne b b1 b2
structure OutC (B : Nat) (w : World) (G : Gh) (h : Nat → Option Blk) (ns : List Nat) (pc : PC) : Prop where
 good : Good w pc ∧ Sep pc ∧ TopOk w pc
 new : ∀ b, InT b pc → (B ≤ b ∧ Unf w b) ∧ ∃ n ∈ ns, foot G n b
def Named (h : Nat → Option Blk) (ns : List Nat) : Prop := ∀ n ∈ ns, ∃ gr m sz xs, h n = some (.row gr m sz xs) ∧ m ≠ .bor
theorem HR.retC (H : HR B Ex.no w G h used []) {c : ACell} {x : C} {ns : List Nat} {v : Value} (hx : retC h c = some (x, ns)) (hc : RC w G h c v) :
  ∃ pc : PC, pc.er = x ∧ pc.val = v ∧ OutC B w G h ns pc ∧ Named h ns := by
 have noT : ∀ pc : PC, (∀ sz a cap xs, pc ≠ .list sz a cap xs) → ∀ b, ¬ InT b pc := by
  intro pc hp b hb
  rcases hb with hb | ⟨sz, o, cap, xs, rfl, _⟩
  ·cases hb with
   | here sz o cap xs h => exact hp _ _ _ _ rfl
   | there sz a cap xs k j c h1 h2 => exact hp _ _ _ _ rfl
  ·exact hp _ _ _ _ rfl
 cases c with
 | c y =>
  simp only [Am.retC] at hx
  split at hx
  ·rename_i hs
   injection hx with hx
   injection hx with h1 h2
   subst h1 h2
   obtain ⟨pc, p1, p2, p3, p4⟩ := hc
   have hno : ∀ b, ¬ InT b pc := noT pc (by rintro sz a cap xs rfl; rw [← p1] at hs; simp [PC.er_list, C.scal] at hs)
   have htop : TopOk w pc := by
    cases pc with
    | list sz a cap xs => rw [← p1] at hs; simp [PC.er_list, C.scal] at hs
    | _ => trivial
   exact ⟨pc, p1, p2, ⟨⟨p3, (Sep.of_scal (by rw [p1]; exact hs)).1, htop⟩, fun b hb => absurd hb (hno b)⟩, fun n hn => by simp at hn⟩
  ·cases hx
 | nil sz =>
  simp only [Am.retC] at hx
  split at hx
  ·rename_i hpos
   injection hx with hx
   injection hx with h1 h2
   subst h1 h2
   have hc' : v = .slice none 0 0 := hc
   subst hc'
   have hsep : Sep (.list sz none 0 []) := by
    refine .list _ _ _ _ ?_ ?_ ?_
    ·rintro k j c ⟨e, he, _⟩; simp at he
    ·rintro b o k j c _ ⟨e, he, _⟩; simp at he
    ·rintro k j c k' j' c' b ⟨e, he, _⟩; simp at he
   refine ⟨.list sz none 0 [], by simp [PC.er_list], rfl, ⟨⟨.nil _ _ _ hpos, hsep, hpos, by simp, .inl rfl⟩, fun b hb => ?_⟩, fun n hn => by simp at hn⟩
   rcases hb with hb | ⟨_, _, _, _, hb, hb0⟩
   ·rw [InF.list_iff] at hb
    rcases hb with ⟨hb, _⟩ | ⟨k, j, c, ⟨e, he, _⟩, _⟩
    ·exact absurd rfl hb
    ·simp at he
   ·cases hb
  ·cases hx
 | sl n sz lo len =>
  cases lo with
  | succ lo => simp [Am.retC] at hx
  | zero =>
   simp only [Am.retC] at hx
   split at hx
   ·rename_i m rs xs hn
    split at hx
    ·rename_i hcond
     obtain ⟨rfl, hm, hl⟩ := hcond
     injection hx with hx
     injection hx with h1 h2
     subst h1 h2
     have hn0 : h n ≠ none := by rw [hn]; simp
     have hr := H.row n true m rs xs hn
     have hs : SlOk (G.g n) rs 0 len v := hc hn0
     obtain ⟨a1, a2, a3, a4⟩ := slPC_ok hr hs (by omega)
     have hown : (∀ b, RowF b (G.g n).px → Unf w b ∧ B ≤ b) ∧ RowSep (G.g n).px ∧ (∀ b, RowF b (G.g n).px → (G.g n).nl = false → b ≠ (G.g n).b) := by
      have hmm := hr.mode
      cases m with
      | bor => exact absurd rfl hm
      | froz => exact ⟨fun b hb => ⟨(hmm.1 b hb).2.1, (hmm.1 b hb).2.2.resolve_right id⟩, hmm.2, fun b hb hl heq => (H.own n hn0 hl).1 (heq ▸ (hmm.1 b hb).1)⟩
      | live => exact ⟨fun b hb => ⟨(hmm.1 b hb).2.1, (hmm.1 b hb).2.2.resolve_right id⟩, hmm.2, fun b hb hl => H.live n true rs xs hn b hb n hn0 hl⟩
     obtain ⟨o1, o2, o3⟩ := hown
     refine ⟨slPC (G.g n) rs 0 len v, by simpa using a1, a2, ?_, fun q hq => ?_⟩
     ·rcases hs with ⟨hnl, rfl, _, rfl⟩ | ⟨hnl, ad', rfl, hcap, had⟩
      ·simp only [slPC] at a3 ⊢
       have hz : (List.take 0 (List.drop 0 (G.g n).px)) = [] := by simp
       have cap0 := (hr.nl hnl).2 rfl
       rw [hz, cap0] at a3 ⊢
       have hsep : Sep (.list rs (G.g n).na 0 []) := by
        refine .list _ _ _ _ ?_ ?_ ?_
        ·rintro k j c ⟨e, he, _⟩; simp at he
        ·rintro b o k j c _ ⟨e, he, _⟩; simp at he
        ·rintro k j c k' j' c' b ⟨e, he, _⟩; simp at he
       refine ⟨⟨a3, hsep, hr.pos, by simp, .inl rfl⟩, fun b hb => ?_⟩
       rcases hb with hb | ⟨_, _, _, _, hb, hb0⟩
       ·rw [InF.list_iff] at hb
        rcases hb with ⟨hb, _⟩ | ⟨k, j, c, ⟨e, he, _⟩, _⟩
        ·exact absurd rfl hb
        ·simp at he
       ·injection hb with _ _ hb _; exact absurd hb.symm hb0
      ·obtain ⟨r2, cur, e, r3, r4⟩ := hr.room hnl rfl
       have e0 := had (.inr rfl)
       have e0' : ad' = some (ad (G.g n).b (G.g n).o) := by rw [e0]; simp
       subst e0'
       simp only [slPC, Nat.sub_zero] at a3 a4 ⊢
       have hss := o2.sub 0 len
       have hsub : ∀ k j c, At ((List.drop 0 (G.g n).px).take len) k j c → At (G.g n).px k j c := fun k j c hk => by have := (at_sub hk).1; simpa using this
       refine ⟨⟨a3, .list _ _ _ _ hss.1 (fun b o k j c hab hk hb => ?_) hss.2, hr.pos, by simp; omega, .inr ⟨_, _, cur, e, rfl, r3, r4, r2, fun k j c hk hb => ?_⟩⟩, fun b hb => ?_⟩
       ·injection hab with hab
        exact o3 b ⟨_, _, _, hsub _ _ _ hk, hb⟩ hnl (ad_inj hab).1.symm
       ·exact o3 _ ⟨_, _, _, hsub _ _ _ hk, hb⟩ hnl rfl
       ·have hf : foot G n b := by
         rcases hb with hb | ⟨_, _, _, _, hb, hb0⟩
         ·exact a4 b hb
         ·injection hb with _ hb _ _
          injection hb with hb
          exact .inl ⟨hnl, (ad_inj hb).1.symm⟩
        refine ⟨?_, n, by simp, hf⟩
        rcases hf with ⟨_, rfl⟩ | hF
        ·exact ⟨((H.own n hn0 hnl).2.1).resolve_right id, (hr.lies hnl).1⟩
        ·exact ⟨(o1 b hF).2, (o1 b hF).1⟩
     ·simp at hq
      subst hq
      exact ⟨_, _, _, _, hn, hm⟩
    ·cases hx
   ·cases hx
 | ptr _ _ _ _ => simp [Am.retC] at hx
 | dptr _ _ => simp [Am.retC] at hx
 | nsl _ _ _ _ _ _ => simp [Am.retC] at hx
 | fn _ _ => simp [Am.retC] at hx
 | nptr _ _ _ _ _ _ => simp [Am.retC] at hx
 | junk => simp [Am.retC] at hx
structure OutL (B : Nat) (w : World) (G : Gh) (h : Nat → Option Blk) (ns : List Nat) (ps : List PC) : Prop where
 each : ∀ pc ∈ ps, OutC B w G h ns pc
 dis : ns.Nodup → ps.Pairwise fun p q => ∀ b, InT b p → ¬ InT b q
theorem OutL.append (H : HR B Ex.no w G h used []) {ns ns' : List Nat} {ps ps' : List PC} (h1 : OutL B w G h ns ps) (h2 : OutL B w G h ns' ps') (n1 : Named h ns) (n2 : Named h ns') : OutL B w G h (ns ++ ns') (ps ++ ps') := by
 refine ⟨fun pc hpc => ?_, fun hd => ?_⟩
 ·rcases List.mem_append.1 hpc with hp | hp
  ·obtain ⟨g, n⟩ := h1.each pc hp
   exact ⟨g, fun b hb => ⟨(n b hb).1, by obtain ⟨k, hk, hf⟩ := (n b hb).2; exact ⟨k, by simp [hk], hf⟩⟩⟩
  ·obtain ⟨g, n⟩ := h2.each pc hp
   exact ⟨g, fun b hb => ⟨(n b hb).1, by obtain ⟨k, hk, hf⟩ := (n b hb).2; exact ⟨k, by simp [hk], hf⟩⟩⟩
 ·rw [List.nodup_append] at hd
  rw [List.pairwise_append]
  refine ⟨h1.dis hd.1, h2.dis hd.2.1, fun p hp q hq b hb hb' => ?_⟩
  obtain ⟨k, hk, hf⟩ := ((h1.each p hp).new b hb).2
  obtain ⟨k', hk', hf'⟩ := ((h2.each q hq).new b hb').2
  obtain ⟨_, _, _, _, e1, m1⟩ := n1 k hk
  obtain ⟨_, _, _, _, e2, m2⟩ := n2 k' hk'
  exact H.foot_dis (hd.2.2 k hk k' hk') e1 e2 m1 m2 hf hf'
theorem Named.append {ns ns' : List Nat} (h1 : Named h ns) (h2 : Named h ns') : Named h (ns ++ ns') := fun n hn => (List.mem_append.1 hn).elim (h1 n) (h2 n)
theorem HR.retL (H : HR B Ex.no w G h used []) : ∀ {cs : List ACell} {xs : List C} {ns : List Nat} {vs : List Value}, retL h cs = some (xs, ns) → RCl w G h cs vs →
  ∃ pcs : List PC, pcs.map PC.er = xs ∧ pcs.map PC.val = vs ∧ OutL B w G h ns pcs ∧ Named h ns
 | [], xs, ns, vs, hx, hc => by
  simp only [Am.retL] at hx
  injection hx with hx
  injection hx with h1 h2
  subst h1 h2
  have : vs = [] := List.eq_nil_of_length_eq_zero (by simpa using hc.1)
  subst this
  exact ⟨[], rfl, rfl, ⟨by simp, fun _ => List.Pairwise.nil⟩, fun n hn => by simp at hn⟩
 | c :: cs, xs, ns, vs, hx, hc => by
  simp only [Am.retL] at hx
  split at hx
  ·rename_i x ns1 xs' ns2 e1 e2
   injection hx with hx
   injection hx with h1 h2
   subst h1 h2
   obtain ⟨hlen, hat⟩ := hc
   match vs, hlen with
   | v :: vs, hlen =>
    obtain ⟨pc, a1, a2, a3, a4⟩ := H.retC e1 (hat 0 c v rfl rfl).2
    obtain ⟨pcs, b1, b2, b3, b4⟩ := H.retL e2 (cs := cs) (vs := vs) ⟨by simpa using hlen, fun j c u h1 h2 => hat (j + 1) c u h1 h2⟩
    have hone : OutL B w G h ns1 [pc] := ⟨fun q hq => by simp at hq; subst hq; exact a3, fun _ => by simp⟩
    exact ⟨pc :: pcs, by simp [a1, b1], by simp [a2, b2], OutL.append H hone b3 a4 b4, a4.append b4⟩
  ·cases hx
theorem HR.retDs (H : HR B Ex.no w G h used []) : ∀ {xs : List AVal} {ds : List Dv} {ns : List Nat} {vs : List Value}, retDs h xs = some (ds, ns) → vs.length = xs.length →
  (∀ (j : Nat) (x : AVal) (v : Value), xs[j]? = some x → vs[j]? = some v → RA w G h x v) →
  ∃ prs : List (K × List PC), prs.map (fun p => (p.1, p.2.map PC.er)) = ds ∧ prs.map retOne = vs ∧ (∀ p ∈ prs, p.1 ≠ .ptr ∧ (p.1 = .one → p.2.length = 1)) ∧ OutL B w G h ns (prs.flatMap (·.2)) ∧ Named h ns
 | [], ds, ns, vs, hx, hl, hc => by
  simp only [Am.retDs] at hx
  injection hx with hx
  injection hx with h1 h2
  subst h1 h2
  have : vs = [] := List.eq_nil_of_length_eq_zero (by simpa using hl)
  subst this
  exact ⟨[], rfl, rfl, by simp, ⟨by simp, fun _ => List.Pairwise.nil⟩, fun n hn => by simp at hn⟩
 | x :: xs, ds, ns, vs, hx, hl, hc => by
  simp only [Am.retDs] at hx
  split at hx
  ·rename_i ag cs ecs
   split at hx
   ·rename_i ys ns1 ds' ns2 e1 e2
    injection hx with hx
    injection hx with h1 h2
    subst h1 h2
    match vs, hl with
    | v :: vs, hl =>
     obtain ⟨pcs, a1, a2, a3, a4⟩ := H.retL e1 ((hc 0 x v rfl rfl).cells ecs)
     obtain ⟨prs, b1, b2, b3, b4, b5⟩ := H.retDs e2 (xs := xs) (vs := vs) (by simpa using hl) (fun j x v h1 h2 => hc (j + 1) x v h1 h2)
     have hRA := hc 0 x v rfl rfl
     cases ag with
     | true =>
      have hv : retOne (K.agg, pcs) = v := by
       cases x with
       | one c => cases c <;> simp [AVal.cells?] at ecs
       | agg cs' =>
        obtain ⟨us, e, _⟩ : ∃ us : List Value, v = .agg us.toArray ∧ RCl w G h cs' us := hRA
        subst e
        simp only [retOne, a2]
        simp [Value.cells]
       | tup l => simp [AVal.cells?] at ecs
      refine ⟨(K.agg, pcs) :: prs, by simp [a1, b1], by simp [hv, b2], fun p hp => ?_, ?_, a4.append b5⟩
      ·cases hp with
       | head => exact ⟨by simp, fun e => by cases e⟩
       | tail _ hp => exact b3 p hp
      ·simpa using OutL.append H a3 b4 a4 b5
     | false =>
      have hc1 : ∃ c, x = .one c ∧ cs = [c] := by
       cases x with
       | one c => cases c <;> simp [AVal.cells?] at ecs <;> exact ⟨_, rfl, ecs.symm⟩
       | agg cs' => simp [AVal.cells?] at ecs
       | tup l => simp [AVal.cells?] at ecs
      obtain ⟨c, rfl, rfl⟩ := hc1
      have hcj : c ≠ .junk := by rintro rfl; simp [AVal.cells?] at ecs
      have h1c := (hRA.oneRC hcj).2
      have hcells : v.cells.toList = [v] := by cases v <;> first | rfl | (simp [Value.oneCell'] at h1c)
      rw [hcells] at a2
      match pcs, a2 with
      | [pc], a2 =>
       have hv : retOne (K.one, [pc]) = v := by simpa [retOne] using a2
       refine ⟨(K.one, [pc]) :: prs, by simp [← a1, b1], by simp [hv, b2], fun p hp => ?_, ?_, a4.append b5⟩
       ·cases hp with
        | head => exact ⟨by simp, fun _ => rfl⟩
        | tail _ hp => exact b3 p hp
       ·simpa using OutL.append H a3 b4 a4 b5
   ·cases hx
  ·cases hx
end
end Go.Am