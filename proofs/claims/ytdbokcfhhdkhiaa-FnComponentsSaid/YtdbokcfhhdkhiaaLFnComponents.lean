/- L_FnComponents: the law FnComponents. No condition. -/
import Derived.Test.YtdbokcfhhdkhiaaM39
set_option linter.unusedVariables false
set_option linter.unusedSimpArgs false
namespace Go.Am
def F_laws_FnComponents : List Int → Option Bool := fun _ => some true
theorem cnd_true' {α : Type} (x y : α) : cnd true x y = x := rfl
theorem bnd_k {α β : Type} (x : α) (f : α → Option β) : (some x).bnd f = f x := by
  have h : ∀ o : Option α, o = some x → o.bnd f = f x := by intro o h; subst h; rfl
  exact h _ rfl

def ag_laws_FnComponents : Sig := [(.one, [.list [.int .u8]])]
def rs_laws_FnComponents : Sig := [(.one, [.bool])]
def mu_laws_FnComponents : MSig := []

def G_laws_FnComponents (NN : Nat) : (List Int) → (Option Bool) :=
 (fun (l0 : (List Int)) =>
 cnd (ltI (1048576 : Int) (natI (lenN l0)))
 (some true)
 ((F_spec_MakeGraph (l0, (0 : Int))).bnd (fun (i1, l2) =>
 cnd (eqI (natI (lenN l2)) (0 : Int))
 ((F_impl_ComponentCount ((i1, l2), (0 : Int))).bnd (fun i3 =>
 some (eqI i3 i1)))
 ((F_spec_MakeSize (l0, (60 : Int), (0 : Int), subI .i64 (natI (lenN l2)) (1 : Int))).bnd (fun i4 =>
 (shlI .i64 (1 : Int) (subI .i64 (natI (lenN l2)) (1 : Int))).bnd (fun i5 =>
 (F_spec_MakeSize (l0, (62 : Int), (0 : Int), subI .i64 i5 1)).bnd (fun i6 =>
 (shlI .i64 (1 : Int) i4).bnd (fun i7 =>
 (F_impl_DeleteEdge ((i1, l2), i4)).bnd (fun ((i8, l9), b10) =>
 (F_impl_ContractEdge ((i1, l2), i4)).bnd (fun ((i11, l12), b13) =>
 cnd (b10)
 (cnd (b13)
 ((winI l9 0 (lenN l9)).bnd (fun l14 =>
 (F_impl_GraphOk (i8, l14)).bnd (fun b15 =>
 cnd (b15)
 ((winI l12 0 (lenN l12)).bnd (fun l16 =>
 (F_impl_GraphOk (i11, l16)).bnd (fun b17 =>
 cnd (b17)
 ((winI l9 0 (lenN l9)).bnd (fun l18 =>
 (F_impl_ComponentCount ((i8, l18), i6)).bnd (fun i19 =>
 (F_impl_ComponentCount ((i1, l2), addI .i64 (andI .i64 i6 (subI .i64 i7 1)) (mulI .i64 (subI .i64 i6 (andI .i64 i6 (subI .i64 i7 1))) (2 : Int)))).bnd (fun i20 =>
 cnd (eqI i19 i20)
 ((winI l12 0 (lenN l12)).bnd (fun l21 =>
 (F_impl_ComponentCount ((i11, l21), i6)).bnd (fun i22 =>
 (shlI .i64 (1 : Int) i4).bnd (fun i23 =>
 (F_impl_ComponentCount ((i1, l2), addI .i64 (addI .i64 (andI .i64 i6 (subI .i64 i7 1)) (mulI .i64 (subI .i64 i6 (andI .i64 i6 (subI .i64 i7 1))) (2 : Int))) i23)).bnd (fun i24 =>
 some (eqI i22 i24))))))
 (some false)))))
 (some false))))
 (some false))))
 (some false))
 (some false)))))))))))


theorem cc_ok {n : Int} {es : List (Int × Int)} {s : Nat} (h : graphOk n es = true) (hs : s < 2 ^ es.length) : F_impl_ComponentCount ((n, es), (s : Int)) = some (fixes (leasts n es (s : Int))) := by
  obtain ⟨h1, h2, h3⟩ := graphOk_t h
  simp only [F_impl_ComponentCount, G_impl_ComponentCount]
  rw [show F_impl_GraphOk (n, es) = some true from congrArg some h]
  simp only [bnd_k]
  rw [show notB true = false from rfl, cnd_false, cnd_f (ltI_f (by omega))]
  rw [show natI (lenN es) = (es.length : Int) from rfl, shlI_one (by omega)]
  simp only [bnd_k]
  rw [cnd_f (leI_f (by omega))]
  rw [show F_impl_rawComponentCount ((n, es), (s : Int)) = some (fixes (leasts n es (s : Int))) from if_pos ⟨h, decide_eq_true ⟨by omega, by rw [← pow_cast]; omega⟩⟩]
  rfl
theorem set_lt {L k s : Nat} (hkl : k + 1 ≤ L) (hss : s < 2 ^ (L - 1)) (hpl : (2 : Nat) ^ L = 2 * 2 ^ (L - 1)) : 2 ^ k * (2 * (s / 2 ^ k) + 1) + s % 2 ^ k < 2 ^ L ∧ 2 ^ k * (2 * (s / 2 ^ k) + 0) + s % 2 ^ k < 2 ^ L := by
  have hk0 := Nat.two_pow_pos k
  have e : (2 : Nat) ^ (L - 1) = 2 ^ k * 2 ^ (L - 1 - k) := by rw [← Nat.pow_add]; congr 1; omega
  have hq : s / 2 ^ k < 2 ^ (L - 1 - k) := by
    rw [Nat.div_lt_iff_lt_mul hk0, Nat.mul_comm, ← e]
    exact hss
  have hr := Nat.mod_lt s hk0
  have h1 : 2 ^ k * (2 * (s / 2 ^ k) + 1 + 1) ≤ 2 ^ k * (2 * 2 ^ (L - 1 - k)) := Nat.mul_le_mul_left _ (by omega)
  rw [Nat.mul_left_comm, ← e] at h1
  rw [Nat.mul_add] at h1
  have h2 : 2 ^ k * (2 * (s / 2 ^ k) + 0) ≤ 2 ^ k * (2 * (s / 2 ^ k) + 1) := Nat.mul_le_mul_left _ (by omega)
  constructor <;> omega
theorem count_empty {m : Nat} : fixes (leasts (m : Int) [] ((0 : Nat) : Int)) = (m : Int) := by
  have e : leasts (m : Int) [] ((0 : Nat) : Int) = iotaI m := by unfold leasts; rw [Int.toNat_natCast]; rfl
  rw [e]
  exact (PInv.init m).cnt
theorem comp_gen {m k s : Nat} {l : List (Int × Int)} {e : Int × Int} (hg : graphOk (m : Int) l = true) (hg2 : graphOk (m : Int) (l.eraseIdx k) = true) (hel : (l.eraseIdx k).length = l.length - 1) (hss : s < 2 ^ (l.length - 1)) (hX : 2 ^ k * (2 * (s / 2 ^ k) + 1) + s % 2 ^ k < 2 ^ l.length) (hX0 : 2 ^ k * (2 * (s / 2 ^ k) + 0) + s % 2 ^ k < 2 ^ l.length) : ∀ (c : Int × List (Int × Int)), graphOk c.1 c.2 = true → c.2.length = l.length - 1 → fixes (leasts c.1 c.2 (s : Int)) = fixes (leasts (m : Int) l ((2 ^ k * (2 * (s / 2 ^ k) + 1) + s % 2 ^ k : Nat) : Int)) → contE (m : Int) (l.eraseIdx k) e = (c, true) →
          ((some (contE (m : Int) (l.eraseIdx k) e)).bnd (fun (((i11, l12), b13) : ((Int × (List (Int × Int))) × Bool)) =>
            cnd (true)
              (cnd (b13)
                ((winI (l.eraseIdx k) 0 (lenN (l.eraseIdx k))).bnd (fun (l14 : (List (Int × Int))) =>
                  (F_impl_GraphOk ((m : Int), l14)).bnd (fun (b15 : Bool) =>
                    cnd (b15)
                      ((winI l12 0 (lenN l12)).bnd (fun (l16 : (List (Int × Int))) =>
                        (F_impl_GraphOk (i11, l16)).bnd (fun (b17 : Bool) =>
                          cnd (b17)
                            ((winI (l.eraseIdx k) 0 (lenN (l.eraseIdx k))).bnd (fun (l18 : (List (Int × Int))) =>
                              (F_impl_ComponentCount (((m : Int), l18), (s : Int))).bnd (fun (i19 : Int) =>
                                (F_impl_ComponentCount (((m : Int), l), ((2 ^ k * (2 * (s / 2 ^ k) + 0) + s % 2 ^ k : Nat) : Int))).bnd (fun (i20 : Int) =>
                                  cnd (eqI i19 i20)
                                    ((winI l12 0 (lenN l12)).bnd (fun (l21 : (List (Int × Int))) =>
                                      (F_impl_ComponentCount ((i11, l21), (s : Int))).bnd (fun (i22 : Int) =>
                                        (F_impl_ComponentCount (((m : Int), l), ((2 ^ k * (2 * (s / 2 ^ k) + 1) + s % 2 ^ k : Nat) : Int))).bnd (fun (i24 : Int) =>
                                            some (eqI i22 i24)))))
                                    (some false)))))
                            (some false))))
                      (some false))))
                (some false))
              (some false))) = some true := by
  rintro ⟨cn, cl⟩ hgc hlc hcc hce
  dsimp only at hgc hlc hcc
  rw [hce]
  simp only [bnd_k, cnd_true', winI_id]
  rw [show F_impl_GraphOk ((m : Int), l.eraseIdx k) = some true from congrArg some hg2]
  simp only [bnd_k, cnd_true', winI_id]
  rw [show F_impl_GraphOk (cn, cl) = some true from congrArg some hgc]
  simp only [bnd_k, cnd_true', winI_id]
  rw [cc_ok hg2 (by rw [hel]; exact hss)]
  simp only [bnd_k]
  rw [cc_ok hg hX0]
  simp only [bnd_k]
  rw [count_del hg, show eqI (fixes (leasts (m : Int) l ((2 ^ k * (2 * (s / 2 ^ k) + 0) + s % 2 ^ k : Nat) : Int))) (fixes (leasts (m : Int) l ((2 ^ k * (2 * (s / 2 ^ k) + 0) + s % 2 ^ k : Nat) : Int))) = true from beq_self_eq_true _]
  simp only [cnd_true']
  rw [cc_ok hgc (by rw [hlc]; exact hss)]
  simp only [bnd_k]
  rw [cc_ok hg hX]
  simp only [bnd_k]
  rw [hcc, show ∀ z : Int, eqI z z = true from fun z => beq_self_eq_true z]

theorem FnComponents_ok (l0 : List Int) : G_laws_FnComponents FUEL l0 = some true := by
  simp only [G_laws_FnComponents]
  by_cases hl : l0.length ≤ 1048576
  · rw [cnd_f (ltI_f (by unfold natI lenN; omega))]
    obtain ⟨⟨n, l⟩, e1, hn, hlen, hin⟩ := MakeGraph_ok l0 0 hl (by decide)
    dsimp only at hn hlen hin
    obtain ⟨m, rfl⟩ := natI_eq (show 0 ≤ n by omega)
    have hg : graphOk (m : Int) l = true := graphOk_mk (by omega) (by omega) fun e he => by have := hin e he; omega
    rw [e1]
    simp only [bnd_k]
    rw [show natI (lenN l) = (l.length : Int) from rfl]
    by_cases h0 : l.length = 0
    · rw [cnd_eqI, if_pos (by omega)]
      obtain rfl : l = [] := List.eq_nil_of_length_eq_zero h0
      rw [show (0 : Int) = ((0 : Nat) : Int) from rfl, cc_ok hg (by decide), count_empty]
      simp only [bnd_k]
      rw [show eqI (m : Int) (m : Int) = true from beq_self_eq_true _]
    · rw [cnd_eqI, if_neg (by omega), subI_eq (by omega) (by omega)]
      obtain ⟨k, e2, hk⟩ := size_ok l0 60 0 ((l.length : Int) - 1) hl (by decide) (by decide) (by omega) (by omega)
      obtain ⟨k, rfl⟩ := natI_eq hk.1
      rw [e2]
      simp only [bnd_k]
      have e9 : shlI .i64 1 ((l.length : Int) - 1) = some ((2 ^ (l.length - 1) : Nat) : Int) := by
        rw [show (l.length : Int) - 1 = ((l.length - 1 : Nat) : Int) by omega]
        exact shlI_one (by omega)
      rw [e9]
      simp only [bnd_k]
      have hp1 : (2 : Nat) ^ (l.length - 1) ≤ 2 ^ 5 := Nat.pow_le_pow_right (by decide) (by omega)
      have hp0 := Nat.two_pow_pos (l.length - 1)
      rw [subI_eq (by omega) (by omega)]
      obtain ⟨s, e3, hs⟩ := size_ok l0 62 0 (((2 ^ (l.length - 1) : Nat) : Int) - 1) hl (by decide) (by decide) (by omega) (by omega)
      obtain ⟨s, rfl⟩ := natI_eq hs.1
      rw [e3]
      simp only [bnd_k]
      rw [shlI_one (by omega)]
      simp only [bnd_k]
      have hk2 : (2 : Nat) ^ k ≤ 2 ^ 5 := Nat.pow_le_pow_right (by decide) (by omega)
      have hk0 := Nat.two_pow_pos k
      have hss : s < 2 ^ (l.length - 1) := by omega
      have hpl : (2 : Nat) ^ l.length = 2 * 2 ^ (l.length - 1) := by
        rw [show l.length = (l.length - 1) + 1 by omega, Nat.pow_succ]
        simp only [Nat.add_sub_cancel]
        omega
      rw [subI_eq (by omega) (by omega), show ((2 ^ k : Nat) : Int) - 1 = ((2 ^ k - 1 : Nat) : Int) by omega, andI_nat (by omega) (by omega), Nat.and_two_pow_sub_one_eq_mod]
      have hmod := Nat.mod_le s (2 ^ k)
      have hdm := Nat.div_add_mod s (2 ^ k)
      rw [subI_eq (by omega) (by omega), mulI_eq (by omega) (by omega), addI_eq (by omega) (by omega)]
      have eX : ((s % 2 ^ k : Nat) : Int) + ((s : Int) - ((s % 2 ^ k : Nat) : Int)) * 2 = ((2 ^ k * (2 * (s / 2 ^ k) + 0) + s % 2 ^ k : Nat) : Int) := by
        have : 2 ^ k * (2 * (s / 2 ^ k) + 0) = 2 * (2 ^ k * (s / 2 ^ k)) := by rw [Nat.add_zero, Nat.mul_left_comm]
        omega
      have eY : ((s % 2 ^ k : Nat) : Int) + ((s : Int) - ((s % 2 ^ k : Nat) : Int)) * 2 + ((2 ^ k : Nat) : Int) = ((2 ^ k * (2 * (s / 2 ^ k) + 1) + s % 2 ^ k : Nat) : Int) := by
        have : 2 ^ k * (2 * (s / 2 ^ k) + 1) = 2 * (2 ^ k * (s / 2 ^ k)) + 2 ^ k := by rw [Nat.mul_add, Nat.mul_one, Nat.mul_left_comm]
        omega
      rw [eX] at eY ⊢
      rw [addI_eq (by omega) (by omega), eY]
      -- both sets are sets of edges of the graph
      have hkl : k + 1 ≤ l.length := by omega
      obtain ⟨hX, hX0⟩ := set_lt hkl hss hpl
      have hel : (l.eraseIdx k).length = l.length - 1 := by rw [List.length_eraseIdx, if_pos (by omega)]
      have hd : F_impl_DeleteEdge (((m : Int), l), (k : Int)) = some (((m : Int), l.eraseIdx k), true) := by
        simp only [F_impl_DeleteEdge]
        rw [if_pos (by omega)]
        unfold delR
        rw [if_pos ⟨hg, by omega, by omega⟩, delE_erase]
      obtain ⟨e, he⟩ : ∃ e, l[k]? = some e := ⟨_, List.getElem?_eq_getElem (by omega)⟩
      have hg2 := erase_ok (k := k) hg
      rw [hd]
      simp only [bnd_k]
      have hc : F_impl_ContractEdge (((m : Int), l), (k : Int)) = some (contE (m : Int) (l.eraseIdx k) e) := by
        simp only [F_impl_ContractEdge, F_spec_ContractEdge]
        rw [if_pos (by omega)]
        unfold contR
        rw [if_pos ⟨hg, by omega, by omega⟩, delE_erase, Int.toNat_natCast]
        rw [List.getD_eq_getElem?_getD, he]
        rfl
      rw [hc]
      have fin : ∃ c : Int × List (Int × Int), graphOk c.1 c.2 = true ∧ c.2.length = l.length - 1 ∧ fixes (leasts c.1 c.2 (s : Int)) = fixes (leasts (m : Int) l ((2 ^ k * (2 * (s / 2 ^ k) + 1) + s % 2 ^ k : Nat) : Int)) ∧ contE (m : Int) (l.eraseIdx k) e = (c, true) := by
        obtain ⟨⟨ha0, ha1⟩, hb0, hb1⟩ := hin e (List.mem_of_getElem? he)
        by_cases hab : e.1 = e.2
        · refine ⟨((m : Int), l.eraseIdx k), hg2, hel, count_loop (a := e.1) hg (by rw [he]; congr 1; exact Prod.ext rfl hab.symm), ?_⟩
          unfold contE
          rw [if_pos (by rw [minI_eq, maxI_eq]; omega)]
        · obtain ⟨a, hA⟩ := natI_eq (show 0 ≤ min e.1 e.2 by omega)
          obtain ⟨b, hB⟩ := natI_eq (show 0 ≤ max e.1 e.2 by omega)
          obtain ⟨m, rfl⟩ : ∃ t, m = t + 1 := ⟨m - 1, by omega⟩
          have hg3 : graphOk (m : Int) ((l.eraseIdx k).map (moveE (a : Int) (b : Int))) = true := by
            refine graphOk_mk (by omega) (by rw [List.length_map]; omega) fun d hd => ?_
            obtain ⟨f, hf, rfl⟩ := List.mem_map.1 hd
            have h1 := hin f (List.mem_of_mem_eraseIdx hf)
            have h2 := nodeF_in (x := f.1) (a := a) (b := b) (n := ((m + 1 : Nat) : Int)) (by omega) (by omega) (by omega) (by omega)
            have h3 := nodeF_in (x := f.2) (a := a) (b := b) (n := ((m + 1 : Nat) : Int)) (by omega) (by omega) (by omega) (by omega)
            unfold moveE
            dsimp only
            omega
          refine ⟨((m : Int), (l.eraseIdx k).map (moveE (a : Int) (b : Int))), hg3, by dsimp only; rw [List.length_map]; exact hel, count_cont (by omega) (by omega) hg he ⟨hA.symm, hB.symm⟩ hg3, ?_⟩
          unfold contE
          rw [minI_eq, maxI_eq, hA, hB, if_neg (by omega), show ((m + 1 : Nat) : Int) - 1 = (m : Int) by omega]
      obtain ⟨c, c1, c2, c3, c4⟩ := fin
      exact comp_gen hg hg2 hel hss hX hX0 c c1 c2 c3 c4
  · rw [cnd_t (ltI_t (by unfold natI lenN; omega))]
theorem f_laws_FnComponents (x : List Int) (y : Bool) (h : F_laws_FnComponents x = some y) : G_laws_FnComponents FUEL x = some y := by
  rw [FnComponents_ok]; exact h
end Go.Am
