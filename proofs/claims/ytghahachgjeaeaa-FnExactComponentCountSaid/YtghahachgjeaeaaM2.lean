/- M2: the models of IsIndependent's, IsMatching's and ComponentCount's functions. No condition. -/
import Derived.Test.YtghahachgjeaeaaB0
set_option linter.unusedVariables false
set_option linter.unusedSimpArgs false
namespace Go.Am
def ag_spec_IsIndependent : Sig := [(.agg, [.int .i64, .list [.int .i64, .int .i64]]), (.one, [.int .i64])]
def rs_spec_IsIndependent : Sig := [(.one, [.bool])]

def ag_impl_IsIndependent : Sig := [(.agg, [.int .i64, .list [.int .i64, .int .i64]]), (.one, [.int .i64])]
def rs_impl_IsIndependent : Sig := [(.one, [.bool])]

def ag_laws_FnExactIsIndependent : Sig := [(.agg, [.int .i64, .list [.int .i64, .int .i64]]), (.one, [.int .i64])]
def rs_laws_FnExactIsIndependent : Sig := [(.one, [.bool])]

def ag_spec_IsMatching : Sig := [(.agg, [.int .i64, .list [.int .i64, .int .i64]]), (.one, [.int .i64]), (.one, [.bool])]
def rs_spec_IsMatching : Sig := [(.one, [.bool])]

def ag_impl_IsMatching : Sig := [(.agg, [.int .i64, .list [.int .i64, .int .i64]]), (.one, [.int .i64]), (.one, [.bool])]
def rs_impl_IsMatching : Sig := [(.one, [.bool])]

def ag_laws_FnExactIsMatching : Sig := [(.agg, [.int .i64, .list [.int .i64, .int .i64]]), (.one, [.int .i64]), (.one, [.bool])]
def rs_laws_FnExactIsMatching : Sig := [(.one, [.bool])]

def ag_spec_l36Components : Sig := [(.agg, [.int .i64, .list [.int .i64, .int .i64]]), (.one, [.int .i64])]
def rs_spec_l36Components : Sig := [(.one, [.int .i64])]

def ag_spec_ComponentCount : Sig := [(.agg, [.int .i64, .list [.int .i64, .int .i64]]), (.one, [.int .i64])]
def rs_spec_ComponentCount : Sig := [(.one, [.int .i64])]

def ag_impl_componentsOf : Sig := [(.agg, [.int .i64, .list [.int .i64, .int .i64]]), (.one, [.int .i64])]
def rs_impl_componentsOf : Sig := [(.one, [.list [.int .i64]])]

def ag_impl_rawComponentCount : Sig := [(.agg, [.int .i64, .list [.int .i64, .int .i64]]), (.one, [.int .i64])]
def rs_impl_rawComponentCount : Sig := [(.one, [.int .i64])]

def ag_impl_ComponentCount : Sig := [(.agg, [.int .i64, .list [.int .i64, .int .i64]]), (.one, [.int .i64])]
def rs_impl_ComponentCount : Sig := [(.one, [.int .i64])]

def ag_laws_FnExactComponentCount : Sig := [(.agg, [.int .i64, .list [.int .i64, .int .i64]]), (.one, [.int .i64])]
def rs_laws_FnExactComponentCount : Sig := [(.one, [.bool])]

/-! ### the functions -/

def isInd (n : Int) (es : List (Int × Int)) (s : Int) : Bool := graphOk n es && (decide (0 ≤ s ∧ s < 2 ^ n.toNat) && es.all fun e => !(s.toNat.testBit e.1.toNat && s.toNat.testBit e.2.toNat))
def F_spec_IsIndependent : (Int × List (Int × Int)) × Int → Option Bool := fun (((n, es), s) : (Int × List (Int × Int)) × Int) => some (isInd n es s)
def F_impl_IsIndependent : (Int × List (Int × Int)) × Int → Option Bool := fun (((n, es), s) : (Int × List (Int × Int)) × Int) => some (isInd n es s)
def F_laws_FnExactIsIndependent : (Int × List (Int × Int)) × Int → Option Bool :=
  fun (((n, l), s) : (Int × List (Int × Int)) × Int) => if l.length ≤ 9223372036854775807 then some true else none

def mStep (s : Nat) (i : Nat) (c : Nat) (e : Int × Int) : Option Nat :=
  if s.testBit i = true then (if e.1 = e.2 ∨ c.testBit e.1.toNat = true ∨ c.testBit e.2.toNat = true then none else some (c ||| (2 ^ e.1.toNat ||| 2 ^ e.2.toNat))) else some c
def isMat (n : Int) (es : List (Int × Int)) (s : Int) (p : Bool) : Bool := graphOk n es && (decide (0 ≤ s ∧ s < 2 ^ es.length) &&
  (match foldO (mStep s.toNat) 0 0 es with
   | some c => !p || decide (c = 2 ^ n.toNat - 1)
   | none => false))
def F_spec_IsMatching : (Int × List (Int × Int)) × Int × Bool → Option Bool := fun (((n, es), s, p) : (Int × List (Int × Int)) × Int × Bool) => some (isMat n es s p)
def F_impl_IsMatching : (Int × List (Int × Int)) × Int × Bool → Option Bool := fun (((n, es), s, p) : (Int × List (Int × Int)) × Int × Bool) => some (isMat n es s p)
def F_laws_FnExactIsMatching : (Int × List (Int × Int)) × Int × Bool → Option Bool :=
  fun (((n, l), s, p) : (Int × List (Int × Int)) × Int × Bool) => if l.length ≤ 9223372036854775807 then some true else none

def relab (b a : Int) (l : List Int) : List Int := l.map fun x => if x = b then a else x
def atI (l : List Int) (i : Int) : Int := l.getD i.toNat 0
def iotaI (n : Nat) : List Int := (List.range n).map fun i => ((i : Nat) : Int)
/-- The reference: the number of parts that are left, and each node's part. -/
def partStep (s : Nat) (i : Nat) (st : Int × List Int) (e : Int × Int) : Int × List Int :=
  if s.testBit i = true ∧ atI st.2 e.1 ≠ atI st.2 e.2 then (st.1 - 1, relab (atI st.2 e.2) (atI st.2 e.1) st.2) else st
def parts (n : Int) (es : List (Int × Int)) (s : Int) : Int × List Int := foldN (partStep s.toNat) 0 (n, iotaI n.toNat) es
def leastStep (s : Nat) (i : Nat) (l : List Int) (e : Int × Int) : List Int :=
  if s.testBit i = true then relab (max (atI l e.1) (atI l e.2)) (min (atI l e.1) (atI l e.2)) l else l
def leasts (n : Int) (es : List (Int × Int)) (s : Int) : List Int := foldN (leastStep s.toNat) 0 (iotaI n.toNat) es
def fixes (l : List Int) : Int := ((List.range l.length).countP fun i => l.getD i 0 == (i : Int) : Nat)
def setOk (es : List (Int × Int)) (s : Int) : Bool := decide (0 ≤ s ∧ s < 2 ^ es.length)

def F_spec_l36Components : (Int × List (Int × Int)) × Int → Option Int :=
  fun (((n, es), s) : (Int × List (Int × Int)) × Int) => if graphOk n es = true ∧ setOk es s = true then some (parts n es s).1 else none
def F_spec_ComponentCount : (Int × List (Int × Int)) × Int → Option Int :=
  fun (((n, es), s) : (Int × List (Int × Int)) × Int) => some (if graphOk n es = true ∧ setOk es s = true then (parts n es s).1 else -1)
def F_impl_componentsOf : (Int × List (Int × Int)) × Int → Option (List Int) :=
  fun (((n, es), s) : (Int × List (Int × Int)) × Int) => if graphOk n es = true ∧ setOk es s = true then some (leasts n es s) else none
def F_impl_rawComponentCount : (Int × List (Int × Int)) × Int → Option Int :=
  fun (((n, es), s) : (Int × List (Int × Int)) × Int) => if graphOk n es = true ∧ setOk es s = true then some (fixes (leasts n es s)) else none
def F_impl_ComponentCount : (Int × List (Int × Int)) × Int → Option Int :=
  fun (((n, es), s) : (Int × List (Int × Int)) × Int) => some (if graphOk n es = true ∧ setOk es s = true then fixes (leasts n es s) else -1)
def F_laws_FnExactComponentCount : (Int × List (Int × Int)) × Int → Option Bool :=
  fun (((n, l), s) : (Int × List (Int × Int)) × Int) => if l.length ≤ 9223372036854775807 then some true else none

def G_spec_IsIndependent (NN : Nat) : ((Int × (List (Int × Int))) × Int) → (Option Bool) :=
  (fun (((i0, l1), i2) : ((Int × (List (Int × Int))) × Int)) =>
  (F_spec_GraphOk (i0, l1)).bnd (fun (b3 : Bool) =>
    cnd (notB b3)
      (some false)
      ((shlI .i64 (1 : Int) i0).bnd (fun (i4 : Int) =>
        (F_spec_l01In (i2, (0 : Int), subI .i64 i4 (1 : Int))).bnd (fun (b5 : Bool) =>
          cnd (notB b5)
            (some false)
            (joinK (loopT NN (fun ((i6, l7, i8, i9) : (Int × ((List (Int × Int)) × (Int × Int)))) =>
                  cnd (ltI i9 i8)
                    ((getI l7 i9).bnd (fun ((i10, i11) : (Int × Int)) =>
                      (shrI .i64 i6 i10).bnd (fun (i12 : Int) =>
                        cnd (eqI (andI .i64 i12 (1 : Int)) (1 : Int))
                          ((shrI .i64 i6 i11).bnd (fun (i13 : Int) =>
                            cnd (eqI (andI .i64 i13 (1 : Int)) (1 : Int))
                              (some (Sum.inr (Sum.inr false)))
                              (some (Sum.inl (i6, l7, i8, addI .i64 i9 (1 : Int))))))
                          (some (Sum.inl (i6, l7, i8, addI .i64 i9 (1 : Int)))))))
                    (some (Sum.inr (Sum.inl ()))))
                (i2, l1, natI (lenN l1), (0 : Int)))
              (fun (_ : Unit) =>
                some true)))))))

def G_impl_IsIndependent (NN : Nat) : ((Int × (List (Int × Int))) × Int) → (Option Bool) :=
  (fun (((i0, l1), i2) : ((Int × (List (Int × Int))) × Int)) =>
  (F_impl_GraphOk (i0, l1)).bnd (fun (b3 : Bool) =>
    cnd (notB b3)
      (some false)
      (cnd (ltI i2 (0 : Int))
        (some false)
        ((shlI .i64 (1 : Int) i0).bnd (fun (i4 : Int) =>
          cnd (leI i4 i2)
            (some false)
            (joinK (loopT NN (fun ((i5, l6, i7, i8) : (Int × ((List (Int × Int)) × (Int × Int)))) =>
                  cnd (ltI i8 i7)
                    ((getI l6 i8).bnd (fun ((i9, i10) : (Int × Int)) =>
                      (shrI .i64 i5 i9).bnd (fun (i11 : Int) =>
                        cnd (eqI (andI .i64 i11 (1 : Int)) (1 : Int))
                          ((shrI .i64 i5 i10).bnd (fun (i12 : Int) =>
                            cnd (eqI (andI .i64 i12 (1 : Int)) (1 : Int))
                              (some (Sum.inr (Sum.inr false)))
                              (some (Sum.inl (i5, l6, i7, addI .i64 i8 (1 : Int))))))
                          (some (Sum.inl (i5, l6, i7, addI .i64 i8 (1 : Int)))))))
                    (some (Sum.inr (Sum.inl ()))))
                (i2, l1, natI (lenN l1), (0 : Int)))
              (fun (_ : Unit) =>
                some true)))))))

def G_laws_FnExactIsIndependent (NN : Nat) : ((Int × (List (Int × Int))) × Int) → (Option Bool) :=
  (fun (((i0, l1), i2) : ((Int × (List (Int × Int))) × Int)) =>
  (F_laws_szGraph ((i0, l1), (1048576 : Int))).bnd (fun (i3 : Int) =>
    cnd (ltI i3 (0 : Int))
      (some true)
      ((F_laws_toGraph (i0, l1)).bnd (fun ((i4, l5) : (Int × (List (Int × Int)))) =>
        (winI l5 0 (lenN l5)).bnd (fun (l6 : (List (Int × Int))) =>
          (F_spec_IsIndependent ((i4, l6), i2)).bnd (fun (b7 : Bool) =>
            (F_laws_toGraph (i0, l1)).bnd (fun ((i8, l9) : (Int × (List (Int × Int)))) =>
              (winI l9 0 (lenN l9)).bnd (fun (l10 : (List (Int × Int))) =>
                (F_impl_IsIndependent ((i8, l10), i2)).bnd (fun (b11 : Bool) =>
                  cnd (neB b11 b7)
                    (some false)
                    ((F_laws_toGraph (i0, l1)).bnd (fun ((i12, l13) : (Int × (List (Int × Int)))) =>
                      (winI l9 0 (lenN l9)).bnd (fun (l14 : (List (Int × Int))) =>
                        (winI l13 0 (lenN l13)).bnd (fun (l15 : (List (Int × Int))) =>
                          (F_laws_eqGraph ((i8, l14), i12, l15)).bnd (fun (b16 : Bool) =>
                            cnd (notB b16)
                              (some false)
                              (some true)))))))))))))))

def G_spec_IsMatching (NN : Nat) : ((Int × (List (Int × Int))) × (Int × Bool)) → (Option Bool) :=
  (fun (((i0, l1), i2, b3) : ((Int × (List (Int × Int))) × (Int × Bool))) =>
  (F_spec_GraphOk (i0, l1)).bnd (fun (b4 : Bool) =>
    cnd (notB b4)
      (some false)
      ((shlI .i64 (1 : Int) (natI (lenN l1))).bnd (fun (i5 : Int) =>
        (F_spec_l01In (i2, (0 : Int), subI .i64 i5 (1 : Int))).bnd (fun (b6 : Bool) =>
          cnd (notB b6)
            (some false)
            (joinK (loopT NN (fun (((i7, b8, i9, l10, i11, i12), i13, l14) : ((Int × (Bool × (Int × ((List (Int × Int)) × (Int × Int))))) × (Int × (List (Int × Int))))) =>
                  cnd (ltI i12 i11)
                    (joinK ((getI l10 i12).bnd (fun ((i15, i16) : (Int × Int)) =>
                        (shrI .i64 i7 i12).bnd (fun (i17 : Int) =>
                          cnd (eqI (andI .i64 i17 (1 : Int)) (0 : Int))
                            (some (Sum.inl ((i12, i7, b8, i9, l10, i11), i13, l14)))
                            (cnd (eqI i15 i16)
                              (some (Sum.inr (Sum.inr (Sum.inr false))))
                              ((shrI .i64 i9 i15).bnd (fun (i18 : Int) =>
                                cnd (eqI (andI .i64 i18 (1 : Int)) (1 : Int))
                                  (some (Sum.inr (Sum.inr (Sum.inr false))))
                                  ((shrI .i64 i9 i16).bnd (fun (i19 : Int) =>
                                    cnd (eqI (andI .i64 i19 (1 : Int)) (1 : Int))
                                      (some (Sum.inr (Sum.inr (Sum.inr false))))
                                      ((shlI .i64 (1 : Int) i15).bnd (fun (i20 : Int) =>
                                        (shlI .i64 (1 : Int) i16).bnd (fun (i21 : Int) =>
                                          some (Sum.inl ((i12, i7, b8, addI .i64 (addI .i64 i9 i20) i21, l10, i11), i13, l14)))))))))))))
                      (fun (((i22, i23, b24, i25, l26, i27), i28, l29) : ((Int × (Int × (Bool × (Int × ((List (Int × Int)) × Int))))) × (Int × (List (Int × Int))))) =>
                        some (Sum.inl ((i23, b24, i25, l26, i27, addI .i64 i22 (1 : Int)), i28, l29))))
                    (some (Sum.inr (Sum.inl ((b8, i9), i13, l14)))))
                ((i2, b3, (0 : Int), l1, natI (lenN l1), (0 : Int)), i0, l1))
              (fun (((b30, i31), i32, l33) : ((Bool × Int) × (Int × (List (Int × Int))))) =>
                cnd (notB b30)
                  (some true)
                  ((shlI .i64 (1 : Int) i32).bnd (fun (i34 : Int) =>
                    some (eqI i31 (subI .i64 i34 (1 : Int))))))))))))

def G_impl_IsMatching (NN : Nat) : ((Int × (List (Int × Int))) × (Int × Bool)) → (Option Bool) :=
  (fun (((i0, l1), i2, b3) : ((Int × (List (Int × Int))) × (Int × Bool))) =>
  (F_impl_GraphOk (i0, l1)).bnd (fun (b4 : Bool) =>
    cnd (notB b4)
      (some false)
      (cnd (ltI i2 (0 : Int))
        (some false)
        ((shlI .i64 (1 : Int) (natI (lenN l1))).bnd (fun (i5 : Int) =>
          cnd (leI i5 i2)
            (some false)
            (joinK (loopT NN (fun (((i6, b7, i8, l9, i10, i11), i12, l13) : ((Int × (Bool × (Int × ((List (Int × Int)) × (Int × Int))))) × (Int × (List (Int × Int))))) =>
                  cnd (ltI i11 i10)
                    (joinK ((getI l9 i11).bnd (fun ((i14, i15) : (Int × Int)) =>
                        (shrI .i64 i6 i11).bnd (fun (i16 : Int) =>
                          cnd (eqI (andI .i64 i16 (1 : Int)) (0 : Int))
                            (some (Sum.inl ((i11, i6, b7, i8, l9, i10), i12, l13)))
                            ((shlI .i64 (1 : Int) i14).bnd (fun (i17 : Int) =>
                              (shlI .i64 (1 : Int) i15).bnd (fun (i18 : Int) =>
                                cnd (eqI i14 i15)
                                  (some (Sum.inr (Sum.inr (Sum.inr false))))
                                  (cnd (neI (andI .i64 i8 (orI .i64 i17 i18)) (0 : Int))
                                    (some (Sum.inr (Sum.inr (Sum.inr false))))
                                    (some (Sum.inl ((i11, i6, b7, orI .i64 i8 (orI .i64 i17 i18), l9, i10), i12, l13))))))))))
                      (fun (((i19, i20, b21, i22, l23, i24), i25, l26) : ((Int × (Int × (Bool × (Int × ((List (Int × Int)) × Int))))) × (Int × (List (Int × Int))))) =>
                        some (Sum.inl ((i20, b21, i22, l23, i24, addI .i64 i19 (1 : Int)), i25, l26))))
                    (some (Sum.inr (Sum.inl ((b7, i8), i12, l13)))))
                ((i2, b3, (0 : Int), l1, natI (lenN l1), (0 : Int)), i0, l1))
              (fun (((b27, i28), i29, l30) : ((Bool × Int) × (Int × (List (Int × Int))))) =>
                cnd (notB b27)
                  (some true)
                  ((shlI .i64 (1 : Int) i29).bnd (fun (i31 : Int) =>
                    some (eqI i28 (subI .i64 i31 (1 : Int))))))))))))

def G_laws_FnExactIsMatching (NN : Nat) : ((Int × (List (Int × Int))) × (Int × Bool)) → (Option Bool) :=
  (fun (((i0, l1), i2, b3) : ((Int × (List (Int × Int))) × (Int × Bool))) =>
  (F_laws_szGraph ((i0, l1), (1048576 : Int))).bnd (fun (i4 : Int) =>
    cnd (ltI i4 (0 : Int))
      (some true)
      ((F_laws_toGraph (i0, l1)).bnd (fun ((i5, l6) : (Int × (List (Int × Int)))) =>
        (winI l6 0 (lenN l6)).bnd (fun (l7 : (List (Int × Int))) =>
          (F_spec_IsMatching ((i5, l7), i2, b3)).bnd (fun (b8 : Bool) =>
            (F_laws_toGraph (i0, l1)).bnd (fun ((i9, l10) : (Int × (List (Int × Int)))) =>
              (winI l10 0 (lenN l10)).bnd (fun (l11 : (List (Int × Int))) =>
                (F_impl_IsMatching ((i9, l11), i2, b3)).bnd (fun (b12 : Bool) =>
                  cnd (neB b12 b8)
                    (some false)
                    ((F_laws_toGraph (i0, l1)).bnd (fun ((i13, l14) : (Int × (List (Int × Int)))) =>
                      (winI l10 0 (lenN l10)).bnd (fun (l15 : (List (Int × Int))) =>
                        (winI l14 0 (lenN l14)).bnd (fun (l16 : (List (Int × Int))) =>
                          (F_laws_eqGraph ((i9, l15), i13, l16)).bnd (fun (b17 : Bool) =>
                            cnd (notB b17)
                              (some false)
                              (some true)))))))))))))))

def G_spec_l36Components (NN : Nat) : ((Int × (List (Int × Int))) × Int) → (Option Int) :=
  (fun (((i0, l1), i2) : ((Int × (List (Int × Int))) × Int)) =>
  joinK ((fulI 0 0 (lenN (([] : List Int)))).bnd (fun (_ : Unit) =>
      loopT NN (fun (((i3, i4), (i5, l6), l7) : ((Int × Int) × ((Int × (List (Int × Int))) × (List Int)))) =>
          cnd (ltI i4 i5)
            ((fulI 0 (lenN l7) (lenN l7)).bnd (fun (_ : Unit) =>
              (winI ((i4 :: ([] : List Int))) 0 1).bnd (fun (l8 : (List Int)) =>
                (fitI (addN (lenN l7) (lenN l8)) 8).bnd (fun (_ : Unit) =>
                  (fulI 0 (addN (lenN l7) (lenN l8)) (lenN (appL l7 l8))).bnd (fun (_ : Unit) =>
                    some (Sum.inl ((i3, addI .i64 i4 (1 : Int)), (i5, l6), appL l7 l8)))))))
            (((fulI 0 (lenN l7) (lenN l7)).bnd (fun (_ : Unit) =>
              some (Sum.inl (i3, (i5, l6), l7)))).bnd (fun (l9 : ((Int × ((Int × (List (Int × Int))) × (List Int))) ⊕ Int)) =>
              some (Sum.inr l9))))
        ((i2, (0 : Int)), (i0, l1), ([] : List Int))))
    (fun ((i10, (i11, l12), l13) : (Int × ((Int × (List (Int × Int))) × (List Int)))) =>
      joinK ((fulI 0 (lenN l13) (lenN l13)).bnd (fun (_ : Unit) =>
          loopT NN (fun (((i14, i15, l16, i17, i18), l19) : ((Int × (Int × ((List (Int × Int)) × (Int × Int)))) × (List Int))) =>
              cnd (ltI i18 i17)
                (joinK ((getI l16 i18).bnd (fun ((i20, i21) : (Int × Int)) =>
                    (chkI i20 (lenN l19)).bnd (fun (k22 : Nat) =>
                      (getN l19 (addN 0 k22)).bnd (fun (i23 : Int) =>
                        (chkI i21 (lenN l19)).bnd (fun (k24 : Nat) =>
                          (getN l19 (addN 0 k24)).bnd (fun (i25 : Int) =>
                            (shrI .i64 i14 i18).bnd (fun (i26 : Int) =>
                              cnd (eqI (andI .i64 i26 (1 : Int)) (0 : Int))
                                ((fulI 0 (lenN l19) (lenN l19)).bnd (fun (_ : Unit) =>
                                  some (Sum.inl ((i18, i14, i15, l16, i17), l19))))
                                (cnd (eqI i23 i25)
                                  ((fulI 0 (lenN l19) (lenN l19)).bnd (fun (_ : Unit) =>
                                    some (Sum.inl ((i18, i14, i15, l16, i17), l19))))
                                  ((fulI 0 (lenN l19) (lenN l19)).bnd (fun (_ : Unit) =>
                                    (fulI 0 (lenN l19) (lenN l19)).bnd (fun (_ : Unit) =>
                                      loopT NN (fun (((i27, i28, i29, i30, l31, i32, i33, i34, i35), l36) : ((Int × (Int × (Int × (Int × ((List (Int × Int)) × (Int × (Int × (Int × Int)))))))) × (List Int))) =>
                                          cnd (ltI i35 i34)
                                            ((chkI i35 (lenN l36)).bnd (fun (k37 : Nat) =>
                                              (getN l36 (addN 0 k37)).bnd (fun (i38 : Int) =>
                                                cnd (eqI i38 i30)
                                                  ((chkI i35 (lenN l36)).bnd (fun (k39 : Nat) =>
                                                    (getN l36 (addN 0 k39)).bnd (fun (i40 : Int) =>
                                                      (fulI 0 (lenN l36) (lenN (setL l36 (addN 0 k39) i29))).bnd (fun (_ : Unit) =>
                                                        (fulI 0 (lenN l36) (lenN (setL l36 (addN 0 k39) i29))).bnd (fun (_ : Unit) =>
                                                          some (Sum.inl ((i27, i28, i29, i30, l31, i32, i33, i34, addI .i64 i35 (1 : Int)), setL l36 (addN 0 k39) i29)))))))
                                                  ((fulI 0 (lenN l36) (lenN l36)).bnd (fun (_ : Unit) =>
                                                    (fulI 0 (lenN l36) (lenN l36)).bnd (fun (_ : Unit) =>
                                                      some (Sum.inl ((i27, i28, i29, i30, l31, i32, i33, i34, addI .i64 i35 (1 : Int)), l36))))))))
                                            (((fulI 0 (lenN l36) (lenN l36)).bnd (fun (_ : Unit) =>
                                              some (Sum.inl ((i33, i27, i28, l31, i32), l36)))).bnd (fun (l41 : (((Int × (Int × (Int × ((List (Int × Int)) × Int)))) × (List Int)) ⊕ (((Int × (Int × ((List (Int × Int)) × (Int × Int)))) × (List Int)) ⊕ (Int ⊕ Int)))) =>
                                              some (Sum.inr l41))))
                                        ((i14, subI .i64 i15 (1 : Int), i23, i25, l16, i17, i18, natI (lenN l19), (0 : Int)), l19))))))))))))
                  (fun (((i42, i43, i44, l45, i46), l47) : ((Int × (Int × (Int × ((List (Int × Int)) × Int)))) × (List Int))) =>
                    (fulI 0 (lenN l47) (lenN l47)).bnd (fun (_ : Unit) =>
                      some (Sum.inl ((i43, i44, l45, i46, addI .i64 i42 (1 : Int)), l47)))))
                (some (Sum.inr (Sum.inl i15))))
            ((i10, i11, l12, natI (lenN l12), (0 : Int)), l13)))
        (fun (i48 : Int) =>
          some i48)))

def G_spec_ComponentCount (NN : Nat) : ((Int × (List (Int × Int))) × Int) → (Option Int) :=
  (fun (((i0, l1), i2) : ((Int × (List (Int × Int))) × Int)) =>
  (F_spec_GraphOk (i0, l1)).bnd (fun (b3 : Bool) =>
    cnd (notB b3)
      (some ((-1 : Int)))
      ((shlI .i64 (1 : Int) (natI (lenN l1))).bnd (fun (i4 : Int) =>
        (F_spec_l01In (i2, (0 : Int), subI .i64 i4 (1 : Int))).bnd (fun (b5 : Bool) =>
          cnd (notB b5)
            (some ((-1 : Int)))
            ((F_spec_l36Components ((i0, l1), i2)).bnd (fun (i6 : Int) =>
              some i6)))))))

def G_impl_componentsOf (NN : Nat) : ((Int × (List (Int × Int))) × Int) → (Option (List Int)) :=
  (fun (((i0, l1), i2) : ((Int × (List (Int × Int))) × Int)) =>
  (mkI i0 i0 8).bnd (fun (k3 : Nat) =>
    joinK ((fulI 0 k3 (lenN (repL k3 (0 : Int)))).bnd (fun (_ : Unit) =>
        loopT NN (fun (((i4, i5, i6), (i7, l8), l9) : ((Int × (Int × Int)) × ((Int × (List (Int × Int))) × (List Int)))) =>
            cnd (ltI i6 i5)
              ((chkI i6 (lenN l9)).bnd (fun (k10 : Nat) =>
                (getN l9 (addN 0 k10)).bnd (fun (i11 : Int) =>
                  (fulI 0 (lenN l9) (lenN (setL l9 (addN 0 k10) i6))).bnd (fun (_ : Unit) =>
                    some (Sum.inl ((i4, i5, addI .i64 i6 (1 : Int)), (i7, l8), setL l9 (addN 0 k10) i6))))))
              (((fulI 0 (lenN l9) (lenN l9)).bnd (fun (_ : Unit) =>
                some (Sum.inl (i4, (i7, l8), l9)))).bnd (fun (l12 : ((Int × ((Int × (List (Int × Int))) × (List Int))) ⊕ (List Int))) =>
                some (Sum.inr l12))))
          ((i2, natI k3, (0 : Int)), (i0, l1), repL k3 (0 : Int))))
      (fun ((i13, (i14, l15), l16) : (Int × ((Int × (List (Int × Int))) × (List Int)))) =>
        joinK ((fulI 0 (lenN l16) (lenN l16)).bnd (fun (_ : Unit) =>
            loopT NN (fun (((i17, l18, i19, i20), l21) : ((Int × ((List (Int × Int)) × (Int × Int))) × (List Int))) =>
                cnd (ltI i20 i19)
                  (joinK ((getI l18 i20).bnd (fun ((i22, i23) : (Int × Int)) =>
                      (shrI .i64 i17 i20).bnd (fun (i24 : Int) =>
                        cnd (eqI (andI .i64 i24 (1 : Int)) (0 : Int))
                          ((fulI 0 (lenN l21) (lenN l21)).bnd (fun (_ : Unit) =>
                            some (Sum.inl ((i20, i17, l18, i19), l21))))
                          ((chkI i22 (lenN l21)).bnd (fun (k25 : Nat) =>
                            (getN l21 (addN 0 k25)).bnd (fun (i26 : Int) =>
                              (chkI i23 (lenN l21)).bnd (fun (k27 : Nat) =>
                                (getN l21 (addN 0 k27)).bnd (fun (i28 : Int) =>
                                  (chkI i22 (lenN l21)).bnd (fun (k29 : Nat) =>
                                    (getN l21 (addN 0 k29)).bnd (fun (i30 : Int) =>
                                      (chkI i23 (lenN l21)).bnd (fun (k31 : Nat) =>
                                        (getN l21 (addN 0 k31)).bnd (fun (i32 : Int) =>
                                          (fulI 0 (lenN l21) (lenN l21)).bnd (fun (_ : Unit) =>
                                            loopT NN (fun (((i33, i34, i35, l36, i37, i38, i39, i40), l41) : ((Int × (Int × (Int × ((List (Int × Int)) × (Int × (Int × (Int × Int))))))) × (List Int))) =>
                                                cnd (ltI i40 i39)
                                                  ((chkI i40 (lenN l41)).bnd (fun (k42 : Nat) =>
                                                    (getN l41 (addN 0 k42)).bnd (fun (i43 : Int) =>
                                                      cnd (eqI i43 i35)
                                                        ((chkI i40 (lenN l41)).bnd (fun (k44 : Nat) =>
                                                          (getN l41 (addN 0 k44)).bnd (fun (i45 : Int) =>
                                                            (fulI 0 (lenN l41) (lenN (setL l41 (addN 0 k44) i34))).bnd (fun (_ : Unit) =>
                                                              some (Sum.inl ((i33, i34, i35, l36, i37, i38, i39, addI .i64 i40 (1 : Int)), setL l41 (addN 0 k44) i34))))))
                                                        ((fulI 0 (lenN l41) (lenN l41)).bnd (fun (_ : Unit) =>
                                                          some (Sum.inl ((i33, i34, i35, l36, i37, i38, i39, addI .i64 i40 (1 : Int)), l41)))))))
                                                  (((fulI 0 (lenN l41) (lenN l41)).bnd (fun (_ : Unit) =>
                                                    some (Sum.inl ((i38, i33, l36, i37), l41)))).bnd (fun (l46 : (((Int × (Int × ((List (Int × Int)) × Int))) × (List Int)) ⊕ (((Int × ((List (Int × Int)) × (Int × Int))) × (List Int)) ⊕ ((List Int) ⊕ (List Int))))) =>
                                                    some (Sum.inr l46))))
                                              ((i17, minI i26 i28, maxI i30 i32, l18, i19, i20, natI (lenN l21), (0 : Int)), l21))))))))))))))
                    (fun (((i47, i48, l49, i50), l51) : ((Int × (Int × ((List (Int × Int)) × Int))) × (List Int))) =>
                      (fulI 0 (lenN l51) (lenN l51)).bnd (fun (_ : Unit) =>
                        some (Sum.inl ((i48, l49, i50, addI .i64 i47 (1 : Int)), l51)))))
                  (((fulI 0 (lenN l21) (lenN l21)).bnd (fun (_ : Unit) =>
                    some (Sum.inl l21))).bnd (fun (l52 : ((List Int) ⊕ (List Int))) =>
                    some (Sum.inr l52))))
              ((i13, l15, natI (lenN l15), (0 : Int)), l16)))
          (fun (l53 : (List Int)) =>
            (takI l53 (lenN l53)).bnd (fun (l54 : (List Int)) =>
              some l54)))))

def G_impl_rawComponentCount (NN : Nat) : ((Int × (List (Int × Int))) × Int) → (Option Int) :=
  (fun (((i0, l1), i2) : ((Int × (List (Int × Int))) × Int)) =>
  (F_impl_componentsOf ((i0, l1), i2)).bnd (fun (l3 : (List Int)) =>
    joinK ((fulI 0 (lenN l3) (lenN l3)).bnd (fun (_ : Unit) =>
        loopT NN (fun (((i4, i5, i6), l7) : ((Int × (Int × Int)) × (List Int))) =>
            cnd (ltI i6 i5)
              ((chkI i6 (lenN l7)).bnd (fun (k8 : Nat) =>
                (getN l7 (addN 0 k8)).bnd (fun (i9 : Int) =>
                  cnd (eqI i6 i9)
                    ((fulI 0 (lenN l7) (lenN l7)).bnd (fun (_ : Unit) =>
                      some (Sum.inl ((addI .i64 i4 (1 : Int), i5, addI .i64 i6 (1 : Int)), l7))))
                    ((fulI 0 (lenN l7) (lenN l7)).bnd (fun (_ : Unit) =>
                      some (Sum.inl ((i4, i5, addI .i64 i6 (1 : Int)), l7)))))))
              (some (Sum.inr (Sum.inl i4))))
          (((0 : Int), natI (lenN l3), (0 : Int)), l3)))
      (fun (i10 : Int) =>
        some i10)))

def G_impl_ComponentCount (NN : Nat) : ((Int × (List (Int × Int))) × Int) → (Option Int) :=
  (fun (((i0, l1), i2) : ((Int × (List (Int × Int))) × Int)) =>
  (F_impl_GraphOk (i0, l1)).bnd (fun (b3 : Bool) =>
    cnd (notB b3)
      (some ((-1 : Int)))
      (cnd (ltI i2 (0 : Int))
        (some ((-1 : Int)))
        ((shlI .i64 (1 : Int) (natI (lenN l1))).bnd (fun (i4 : Int) =>
          cnd (leI i4 i2)
            (some ((-1 : Int)))
            ((F_impl_rawComponentCount ((i0, l1), i2)).bnd (fun (i5 : Int) =>
              some i5)))))))

def G_laws_FnExactComponentCount (NN : Nat) : ((Int × (List (Int × Int))) × Int) → (Option Bool) :=
  (fun (((i0, l1), i2) : ((Int × (List (Int × Int))) × Int)) =>
  (F_laws_szGraph ((i0, l1), (1048576 : Int))).bnd (fun (i3 : Int) =>
    cnd (ltI i3 (0 : Int))
      (some true)
      ((F_laws_toGraph (i0, l1)).bnd (fun ((i4, l5) : (Int × (List (Int × Int)))) =>
        (winI l5 0 (lenN l5)).bnd (fun (l6 : (List (Int × Int))) =>
          (F_spec_ComponentCount ((i4, l6), i2)).bnd (fun (i7 : Int) =>
            (F_laws_toGraph (i0, l1)).bnd (fun ((i8, l9) : (Int × (List (Int × Int)))) =>
              (winI l9 0 (lenN l9)).bnd (fun (l10 : (List (Int × Int))) =>
                (F_impl_ComponentCount ((i8, l10), i2)).bnd (fun (i11 : Int) =>
                  cnd (neI i11 i7)
                    (some false)
                    ((F_laws_toGraph (i0, l1)).bnd (fun ((i12, l13) : (Int × (List (Int × Int)))) =>
                      (winI l9 0 (lenN l9)).bnd (fun (l14 : (List (Int × Int))) =>
                        (winI l13 0 (lenN l13)).bnd (fun (l15 : (List (Int × Int))) =>
                          (F_laws_eqGraph ((i8, l14), i12, l15)).bnd (fun (b16 : Bool) =>
                            cnd (notB b16)
                              (some false)
                              (some true)))))))))))))))


/-! ### the functions do so -/

theorem graphOk_t {n : Int} {es : List (Int × Int)} (h : graphOk n es = true) : (0 ≤ n ∧ n ≤ 10) ∧ es.length ≤ 10 ∧ ∀ e ∈ es, (0 ≤ e.1 ∧ e.1 ≤ n - 1) ∧ (0 ≤ e.2 ∧ e.2 ≤ n - 1) := by
  simp only [graphOk, Bool.and_eq_true, decide_eq_true_eq, List.all_eq_true, edgeOk] at h
  exact ⟨h.1.1, h.1.2, h.2⟩

theorem shl_sub {k : Nat} (hk : k < 62) : subI .i64 ((2 ^ k : Nat) : Int) 1 = ((2 ^ k : Nat) : Int) - 1 := by
  have h1 : 2 ^ k < 2 ^ 62 := Nat.pow_lt_pow_right (by decide) hk
  have h0 := Nat.two_pow_pos k
  have h2 : ((2 ^ k : Nat) : Int) < ((4611686018427387904 : Nat) : Int) := Int.ofNat_lt.2 h1
  have h3 : (1 : Int) ≤ ((2 ^ k : Nat) : Int) := by exact_mod_cast h0
  exact subI_eq (by omega) (by omega)

theorem pow_cast (k : Nat) : ((2 ^ k : Nat) : Int) = 2 ^ k := by norm_cast

theorem pow_lt63 {s k : Nat} (h : s < 2 ^ k) (hk : k < 63) : s < 2 ^ 63 := Nat.lt_trans h (Nat.pow_lt_pow_right (by decide) hk)

theorem f_spec_IsIndependent (x : (Int × List (Int × Int)) × Int) (y : Bool) (h : F_spec_IsIndependent x = some y) : G_spec_IsIndependent FUEL x = some y := by
  obtain ⟨⟨n, es⟩, s⟩ := x
  rw [← h]
  simp only [F_spec_IsIndependent, G_spec_IsIndependent, F_spec_GraphOk, F_spec_l01In, bnd_s, isInd]
  cases hg : graphOk n es with
  | false => rfl
  | true =>
    obtain ⟨⟨hn0, hn⟩, hl, he⟩ := graphOk_t hg
    obtain ⟨m, rfl⟩ := natI_eq hn0
    rw [cnd_f (by rfl), shlI_one (by omega), bnd_s, shl_sub (by omega), Bool.true_and]
    by_cases hs : 0 ≤ s ∧ s < 2 ^ m
    · have hs' : 0 ≤ s ∧ s ≤ ((2 ^ m : Nat) : Int) - 1 := by rw [pow_cast]; omega
      obtain ⟨k, rfl⟩ := natI_eq hs.1
      have hk : k < 2 ^ 63 := pow_lt63 (k := m) (by exact_mod_cast hs.2) (by omega)
      rw [cnd_f (notB_p hs'), loopT_all (mk := fun i => ((k : Int), es, natI (lenN es), (i : Int))) es (fun e => !((k : Int).toNat.testBit e.1.toNat && (k : Int).toNat.testBit e.2.toNat)) (Sum.inr false) (Sum.inl ()) ?_ ?_ ?_ ?_ (lt_FUEL hl (by decide))]
      · simp only [Int.toNat_natCast]
        rw [decide_eq_true hs, Bool.true_and]
        split
        · rename_i h; rw [h]; rfl
        · rename_i h; rw [Bool.not_eq_true] at h; rw [h]; rfl
      all_goals try simp only
      · rintro i ⟨u, v⟩ ha hp
        obtain ⟨⟨hu, _⟩, hv, _⟩ := he _ (List.mem_of_getElem? ha)
        obtain ⟨u, rfl⟩ := natI_eq hu
        obtain ⟨v, rfl⟩ := natI_eq hv
        rw [cnd_t (ltI_in ha), getI_nat, ha, bnd_s]
        simp only [shrI_nat hk, bnd_s, bit_t hk, next_i ha (by omega), Int.toNat_natCast] at hp ⊢
        cases h1 : k.testBit u <;> cases h2 : k.testBit v <;> simp [h1, h2, cnd] at hp ⊢
      · rintro i ⟨u, v⟩ ha hp
        obtain ⟨⟨hu, _⟩, hv, _⟩ := he _ (List.mem_of_getElem? ha)
        obtain ⟨u, rfl⟩ := natI_eq hu
        obtain ⟨v, rfl⟩ := natI_eq hv
        rw [cnd_t (ltI_in ha), getI_nat, ha, bnd_s]
        simp only [shrI_nat hk, bnd_s, bit_t hk, next_i ha (by omega), Int.toNat_natCast] at hp ⊢
        cases h1 : k.testBit u <;> cases h2 : k.testBit v <;> simp [h1, h2, cnd] at hp ⊢
      · rw [cnd_f (ltI_end es)]
      · rfl
    · have hs' : ¬ (0 ≤ s ∧ s ≤ ((2 ^ m : Nat) : Int) - 1) := by rw [pow_cast]; omega
      rw [cnd_t (notB_d hs'), Int.toNat_natCast, decide_eq_false hs]
      rfl

theorem f_impl_IsIndependent (x : (Int × List (Int × Int)) × Int) (y : Bool) (h : F_impl_IsIndependent x = some y) : G_impl_IsIndependent FUEL x = some y := by
  obtain ⟨⟨n, es⟩, s⟩ := x
  rw [← h]
  simp only [F_impl_IsIndependent, G_impl_IsIndependent, F_impl_GraphOk, bnd_s, isInd]
  cases hg : graphOk n es with
  | false => rfl
  | true =>
    obtain ⟨⟨hn0, hn⟩, hl, he⟩ := graphOk_t hg
    obtain ⟨m, rfl⟩ := natI_eq hn0
    rw [cnd_f (by rfl), Bool.true_and, Int.toNat_natCast]
    by_cases hs0 : s < 0
    · rw [cnd_t (ltI_t hs0), decide_eq_false (by omega)]
      rfl
    rw [cnd_f (ltI_f (by omega)), shlI_one (by omega), bnd_s]
    by_cases hs : s < 2 ^ m
    · obtain ⟨k, rfl⟩ := natI_eq (z := s) (by omega)
      have hk : k < 2 ^ 63 := pow_lt63 (k := m) (by exact_mod_cast hs) (by omega)
      rw [cnd_f (leI_f (by rw [pow_cast]; exact hs)), loopT_all (mk := fun i => ((k : Int), es, natI (lenN es), (i : Int))) es (fun e => !((k : Int).toNat.testBit e.1.toNat && (k : Int).toNat.testBit e.2.toNat)) (Sum.inr false) (Sum.inl ()) ?_ ?_ ?_ ?_ (lt_FUEL hl (by decide))]
      · rw [decide_eq_true ⟨by omega, hs⟩, Bool.true_and]
        split
        · rename_i h; rw [h]; rfl
        · rename_i h; rw [Bool.not_eq_true] at h; rw [h]; rfl
      all_goals try simp only
      · rintro i ⟨u, v⟩ ha hp
        obtain ⟨⟨hu, _⟩, hv, _⟩ := he _ (List.mem_of_getElem? ha)
        obtain ⟨u, rfl⟩ := natI_eq hu
        obtain ⟨v, rfl⟩ := natI_eq hv
        rw [cnd_t (ltI_in ha), getI_nat, ha, bnd_s]
        simp only [shrI_nat hk, bnd_s, bit_t hk, next_i ha (by omega), Int.toNat_natCast] at hp ⊢
        cases h1 : k.testBit u <;> cases h2 : k.testBit v <;> simp [h1, h2, cnd] at hp ⊢
      · rintro i ⟨u, v⟩ ha hp
        obtain ⟨⟨hu, _⟩, hv, _⟩ := he _ (List.mem_of_getElem? ha)
        obtain ⟨u, rfl⟩ := natI_eq hu
        obtain ⟨v, rfl⟩ := natI_eq hv
        rw [cnd_t (ltI_in ha), getI_nat, ha, bnd_s]
        simp only [shrI_nat hk, bnd_s, bit_t hk, next_i ha (by omega), Int.toNat_natCast] at hp ⊢
        cases h1 : k.testBit u <;> cases h2 : k.testBit v <;> simp [h1, h2, cnd] at hp ⊢
      · rw [cnd_f (ltI_end es)]
      · rfl
    · rw [cnd_t (leI_t (by rw [pow_cast]; omega)), decide_eq_false (by omega)]
      rfl

theorem f_laws_FnExactIsIndependent (x : (Int × List (Int × Int)) × Int) (y : Bool) (h : F_laws_FnExactIsIndependent x = some y) : G_laws_FnExactIsIndependent FUEL x = some y := by
  obtain ⟨⟨n, l⟩, s⟩ := x
  simp only [F_laws_FnExactIsIndependent] at h
  split at h
  · rename_i hl
    rw [← h]
    simp only [G_laws_FnExactIsIndependent, F_laws_szGraph, F_laws_szEdgeS]
    rw [subI_eq (by have := nl l; omega) (by have := nl l; omega)]
    by_cases hs : 1048576 - natI (lenN l) < 0
    · rw [if_pos hs, bnd_s, cnd_t (ltI_t (by omega))]
    · rw [if_neg hs, bnd_s, cnd_f (ltI_f (by omega))]
      have hle : l.length ≤ 8796093022208 := by have := nl l; omega
      simp only [F_laws_toGraph, if_pos hle, bnd_s, winI_id, F_spec_IsIndependent, F_impl_IsIndependent, F_laws_eqGraph]
      simp [neB, cnd, notB]
  · cases h

theorem f_laws_FnExactIsMatching (x : (Int × List (Int × Int)) × Int × Bool) (y : Bool) (h : F_laws_FnExactIsMatching x = some y) : G_laws_FnExactIsMatching FUEL x = some y := by
  obtain ⟨⟨n, l⟩, s, p⟩ := x
  simp only [F_laws_FnExactIsMatching] at h
  split at h
  · rename_i hl
    rw [← h]
    simp only [G_laws_FnExactIsMatching, F_laws_szGraph, F_laws_szEdgeS]
    rw [subI_eq (by have := nl l; omega) (by have := nl l; omega)]
    by_cases hs : 1048576 - natI (lenN l) < 0
    · rw [if_pos hs, bnd_s, cnd_t (ltI_t (by omega))]
    · rw [if_neg hs, bnd_s, cnd_f (ltI_f (by omega))]
      have hle : l.length ≤ 8796093022208 := by have := nl l; omega
      simp only [F_laws_toGraph, if_pos hle, bnd_s, winI_id, F_spec_IsMatching, F_impl_IsMatching, F_laws_eqGraph]
      simp [neB, cnd, notB]
  · cases h

theorem bitsub {c u : Nat} (h : c.testBit u = false) : c + 2 ^ u = c ||| 2 ^ u := by
  have h0 : c / 2 ^ u % 2 = 0 := by
    rw [Nat.testBit_eq_decide_div_mod_eq] at h
    have := of_decide_eq_false h
    omega
  have hr : c % 2 ^ (u + 1) = c % 2 ^ u := by rw [Nat.mod_pow_succ, h0]; simp
  have hlt : c % 2 ^ u < 2 ^ u := Nat.mod_lt _ (Nat.two_pow_pos u)
  have hc : c = 2 ^ (u + 1) * (c / 2 ^ (u + 1)) + c % 2 ^ u := by rw [← hr]; exact (Nat.div_add_mod c _).symm
  generalize c / 2 ^ (u + 1) = q at hc
  generalize c % 2 ^ u = r at hlt hc
  subst hc
  have hp : 2 ^ (u + 1) = 2 ^ u + 2 ^ u := by rw [Nat.pow_succ]; omega
  have h1 : 2 ^ u + r = 2 ^ u ||| r := by
    have := Nat.two_pow_add_eq_or_of_lt hlt 1
    rwa [Nat.mul_one] at this
  rw [Nat.add_assoc, Nat.add_comm r, Nat.two_pow_add_eq_or_of_lt (by omega : 2 ^ u + r < 2 ^ (u + 1)), Nat.two_pow_add_eq_or_of_lt (by omega : r < 2 ^ (u + 1)), h1, Nat.or_assoc, Nat.or_comm r]

theorem mStep_lt {s i c c' : Nat} {e : Int × Int} {m : Nat} (h1 : (0 ≤ e.1 ∧ e.1 ≤ (m : Int) - 1)) (h2 : 0 ≤ e.2 ∧ e.2 ≤ (m : Int) - 1) (hc : c < 2 ^ m) (h : mStep s i c e = some c') : c' < 2 ^ m := by
  unfold mStep at h
  split at h
  · split at h
    · cases h
    · injection h with h
      subst h
      have a1 : 2 ^ e.1.toNat < 2 ^ m := Nat.pow_lt_pow_right (by decide) (by omega)
      have a2 : 2 ^ e.2.toNat < 2 ^ m := Nat.pow_lt_pow_right (by decide) (by omega)
      exact Nat.or_lt_two_pow hc (Nat.or_lt_two_pow a1 a2)
  · injection h with h
    subst h
    exact hc

theorem adds_or {c u v m : Nat} (hm : m ≤ 10) (hc : c < 2 ^ m) (hu : u < m) (hv : v < m) (huv : u ≠ v) (n2 : c.testBit u = false) (n3 : c.testBit v = false) :
    addI .i64 (addI .i64 (c : Int) ((2 ^ u : Nat) : Int)) ((2 ^ v : Nat) : Int) = ((c ||| (2 ^ u ||| 2 ^ v) : Nat) : Int) := by
  have h0 : 2 ^ m ≤ 2 ^ 10 := Nat.pow_le_pow_right (by decide) hm
  have h1 : 2 ^ u < 2 ^ m := Nat.pow_lt_pow_right (by decide) hu
  have h2 : 2 ^ v < 2 ^ m := Nat.pow_lt_pow_right (by decide) hv
  have n3' : (c ||| 2 ^ u).testBit v = false := by rw [Nat.testBit_or, n3, Nat.testBit_two_pow]; simp [huv]
  rw [← Nat.or_assoc, ← bitsub n3', ← bitsub n2]
  generalize 2 ^ u = a at *
  generalize 2 ^ v = b at *
  generalize 2 ^ m = d at *
  rw [addI_eq (a := (c : Int)) (b := (a : Int)) (by omega) (by omega), addI_eq (by omega) (by omega)]
  omega

theorem f_spec_IsMatching (x : (Int × List (Int × Int)) × Int × Bool) (y : Bool) (h : F_spec_IsMatching x = some y) : G_spec_IsMatching FUEL x = some y := by
  obtain ⟨⟨n, es⟩, s, p⟩ := x
  rw [← h]
  simp only [F_spec_IsMatching, G_spec_IsMatching, F_spec_GraphOk, F_spec_l01In, bnd_s, isMat]
  cases hg : graphOk n es with
  | false => rfl
  | true =>
    obtain ⟨⟨hn0, hn⟩, hl, he⟩ := graphOk_t hg
    obtain ⟨m, rfl⟩ := natI_eq hn0
    rw [cnd_f (by rfl), show natI (lenN es) = ((es.length : Nat) : Int) from rfl, shlI_one (by omega), bnd_s, shl_sub (by omega), Bool.true_and]
    by_cases hs : 0 ≤ s ∧ s < 2 ^ es.length
    · have hs' : 0 ≤ s ∧ s ≤ ((2 ^ es.length : Nat) : Int) - 1 := by rw [pow_cast]; omega
      obtain ⟨k, rfl⟩ := natI_eq hs.1
      have hk : k < 2 ^ 63 := pow_lt63 (k := es.length) (by exact_mod_cast hs.2) (by omega)
      rw [cnd_f (notB_p hs'), loopT_foldO (mk := fun (c : Nat) i => (((k : Int), p, (c : Int), es, (es.length : Int), (i : Int)), (m : Int), es)) es (fun i c => c < 2 ^ m) (mStep k) (Sum.inr false) (fun (c : Nat) => Sum.inl ((p, (c : Int)), (m : Int), es)) ?_ ?_ ?_ (s := 0) (Nat.two_pow_pos m) ?_ (lt_FUEL hl (by decide))]
      · simp only [Int.toNat_natCast]
        rw [decide_eq_true hs, Bool.true_and]
        cases foldO (mStep k) 0 0 es with
        | none => rfl
        | some c =>
          show cnd (notB p) (some true) ((shlI .i64 1 (m : Int)).bnd fun i34 => some (eqI (c : Int) (subI .i64 i34 1))) = _
          rw [shlI_one (by omega), bnd_s, shl_sub (by omega)]
          have := Nat.two_pow_pos m
          have e1 : eqI (c : Int) (((2 ^ m : Nat) : Int) - 1) = decide (c = 2 ^ m - 1) := by
            unfold eqI
            rw [show (((2 ^ m : Nat) : Int) - 1) = ((2 ^ m - 1 : Nat) : Int) by omega]
            rw [Bool.eq_iff_iff]; simp only [beq_iff_eq, decide_eq_true_eq]; omega
          rw [e1]
          cases p <;> rfl
      all_goals try simp only
      · rintro i c ⟨u, v⟩ c' ha hc hp
        obtain ⟨⟨hu, hu'⟩, hv, hv'⟩ := he _ (List.mem_of_getElem? ha)
        have hlt := mStep_lt ⟨hu, hu'⟩ ⟨hv, hv'⟩ hc hp
        refine ⟨?_, hlt⟩
        obtain ⟨u, rfl⟩ := natI_eq hu
        obtain ⟨v, rfl⟩ := natI_eq hv
        have hc63 := pow_lt63 hc (by omega)
        have hi : ltI (i : Int) (es.length : Int) = true := ltI_in ha
        rw [cnd_t hi, getI_nat, ha, bnd_s]
        simp only [shrI_nat hk, bnd_s, bit_f hk]
        simp only [mStep, Int.toNat_natCast] at hp
        cases h1 : k.testBit i with
        | false =>
          rw [h1] at hp
          simp at hp
          subst hp
          rw [cnd_t (by rfl), joinK_l, next_i ha (by omega)]
        | true =>
          rw [h1] at hp
          simp only [if_true] at hp
          split at hp
          · cases hp
          · rename_i hno
            injection hp with hp
            subst hp
            have n1 : (u : Int) ≠ (v : Int) := fun e => hno (Or.inl e)
            have n2 : c.testBit u = false := by cases hb : c.testBit u with | false => rfl | true => exact absurd (Or.inr (Or.inl hb)) hno
            have n3 : c.testBit v = false := by cases hb : c.testBit v with | false => rfl | true => exact absurd (Or.inr (Or.inr hb)) hno
            rw [cnd_f (by rfl), cnd_f (eqI_f n1)]
            simp only [shrI_nat hc63, bnd_s, bit_t hc63, n2, n3, shlI_one (k := u) (by omega), shlI_one (k := v) (by omega)]
            rw [cnd_f rfl, cnd_f rfl, joinK_l, next_i ha (by omega), adds_or (m := m) (by omega) hc (by omega) (by omega) (by omega) n2 n3]
      · rintro i c ⟨u, v⟩ ha hc hp
        obtain ⟨⟨hu, hu'⟩, hv, hv'⟩ := he _ (List.mem_of_getElem? ha)
        obtain ⟨u, rfl⟩ := natI_eq hu
        obtain ⟨v, rfl⟩ := natI_eq hv
        have hc63 := pow_lt63 hc (by omega)
        have hi : ltI (i : Int) (es.length : Int) = true := ltI_in ha
        rw [cnd_t hi, getI_nat, ha, bnd_s]
        simp only [shrI_nat hk, bnd_s, bit_f hk]
        simp only [mStep, Int.toNat_natCast] at hp
        cases h1 : k.testBit i with
        | false => rw [h1] at hp; simp at hp
        | true =>
          rw [h1] at hp
          simp only [if_true] at hp
          rw [cnd_f (by rfl)]
          split at hp
          · rename_i hno
            by_cases n1 : (u : Int) = (v : Int)
            · rw [cnd_t (eqI_t n1), joinK_r]
            rw [cnd_f (eqI_f n1)]
            simp only [shrI_nat hc63, bnd_s, bit_t hc63]
            cases n2 : c.testBit u with
            | true => rw [cnd_t rfl, joinK_r]
            | false =>
              rw [cnd_f rfl]
              cases n3 : c.testBit v with
              | true => rw [cnd_t rfl, joinK_r]
              | false => simp [n1, n2, n3] at hno
          · cases hp
      · intro c hc
        have hi : ltI ((es.length : Nat) : Int) (es.length : Int) = false := ltI_end es
        rw [cnd_f hi]
      · rfl
    · have hs' : ¬ (0 ≤ s ∧ s ≤ ((2 ^ es.length : Nat) : Int) - 1) := by rw [pow_cast]; omega
      rw [cnd_t (notB_d hs'), decide_eq_false hs]
      rfl

theorem and_or_zero {c u v : Nat} : (c &&& (2 ^ u ||| 2 ^ v) = 0) ↔ (c.testBit u = false ∧ c.testBit v = false) := by
  constructor
  · intro h
    have key : ∀ i, (c.testBit i && (decide (u = i) || decide (v = i))) = false := by
      intro i
      have := congrArg (fun n => Nat.testBit n i) h
      simpa only [Nat.testBit_and, Nat.testBit_or, Nat.testBit_two_pow, Nat.zero_testBit] using this
    constructor
    · simpa using key u
    · simpa using key v
  · rintro ⟨h1, h2⟩
    apply Nat.eq_of_testBit_eq
    intro i
    rw [Nat.testBit_and, Nat.testBit_or, Nat.testBit_two_pow, Nat.testBit_two_pow, Nat.zero_testBit]
    by_cases e1 : u = i
    · subst e1; simp [h1]
    · by_cases e2 : v = i
      · subst e2; simp [h2]
      · simp [e1, e2]

theorem f_impl_IsMatching (x : (Int × List (Int × Int)) × Int × Bool) (y : Bool) (h : F_impl_IsMatching x = some y) : G_impl_IsMatching FUEL x = some y := by
  obtain ⟨⟨n, es⟩, s, p⟩ := x
  rw [← h]
  simp only [F_impl_IsMatching, G_impl_IsMatching, F_impl_GraphOk, bnd_s, isMat]
  cases hg : graphOk n es with
  | false => rfl
  | true =>
    obtain ⟨⟨hn0, hn⟩, hl, he⟩ := graphOk_t hg
    obtain ⟨m, rfl⟩ := natI_eq hn0
    rw [cnd_f (by rfl), show natI (lenN es) = ((es.length : Nat) : Int) from rfl, shlI_one (by omega), bnd_s, Bool.true_and]
    by_cases hs0 : s < 0
    · rw [cnd_t (ltI_t hs0), decide_eq_false (by omega)]
      rfl
    rw [cnd_f (ltI_f (by omega))]
    by_cases hs : s < 2 ^ es.length
    · obtain ⟨k, rfl⟩ := natI_eq (z := s) (by omega)
      have hk : k < 2 ^ 63 := pow_lt63 (k := es.length) (by exact_mod_cast hs) (by omega)
      rw [cnd_f (leI_f (by rw [pow_cast]; exact hs)), loopT_foldO (mk := fun (c : Nat) i => (((k : Int), p, (c : Int), es, (es.length : Int), (i : Int)), (m : Int), es)) es (fun i c => c < 2 ^ m) (mStep k) (Sum.inr false) (fun (c : Nat) => Sum.inl ((p, (c : Int)), (m : Int), es)) ?_ ?_ ?_ (s := 0) (Nat.two_pow_pos m) ?_ (lt_FUEL hl (by decide))]
      · simp only [Int.toNat_natCast]
        rw [decide_eq_true ⟨by omega, hs⟩, Bool.true_and]
        cases foldO (mStep k) 0 0 es with
        | none => rfl
        | some c =>
          show cnd (notB p) (some true) ((shlI .i64 1 (m : Int)).bnd fun i34 => some (eqI (c : Int) (subI .i64 i34 1))) = _
          rw [shlI_one (by omega), bnd_s, shl_sub (by omega)]
          have := Nat.two_pow_pos m
          have e1 : eqI (c : Int) (((2 ^ m : Nat) : Int) - 1) = decide (c = 2 ^ m - 1) := by
            unfold eqI
            rw [show (((2 ^ m : Nat) : Int) - 1) = ((2 ^ m - 1 : Nat) : Int) by omega]
            rw [Bool.eq_iff_iff]; simp only [beq_iff_eq, decide_eq_true_eq]; omega
          rw [e1]
          cases p <;> rfl
      all_goals try simp only
      · rintro i c ⟨u, v⟩ c' ha hc hp
        obtain ⟨⟨hu, hu'⟩, hv, hv'⟩ := he _ (List.mem_of_getElem? ha)
        have hlt := mStep_lt ⟨hu, hu'⟩ ⟨hv, hv'⟩ hc hp
        refine ⟨?_, hlt⟩
        obtain ⟨u, rfl⟩ := natI_eq hu
        obtain ⟨v, rfl⟩ := natI_eq hv
        have hc63 := pow_lt63 hc (by omega)
        have hu63 : 2 ^ u < 2 ^ 63 := Nat.pow_lt_pow_right (by decide) (by omega)
        have hv63 : 2 ^ v < 2 ^ 63 := Nat.pow_lt_pow_right (by decide) (by omega)
        have hi : ltI (i : Int) (es.length : Int) = true := ltI_in ha
        rw [cnd_t hi, getI_nat, ha, bnd_s]
        simp only [shrI_nat hk, bnd_s, bit_f hk]
        simp only [mStep, Int.toNat_natCast] at hp
        cases h1 : k.testBit i with
        | false =>
          rw [h1] at hp
          simp at hp
          subst hp
          rw [cnd_t (by rfl), joinK_l, next_i ha (by omega)]
        | true =>
          rw [h1] at hp
          simp only [if_true] at hp
          split at hp
          · cases hp
          · rename_i hno
            injection hp with hp
            subst hp
            have n1 : (u : Int) ≠ (v : Int) := fun e => hno (Or.inl e)
            have n2 : c.testBit u = false := by cases hb : c.testBit u with | false => rfl | true => exact absurd (Or.inr (Or.inl hb)) hno
            have n3 : c.testBit v = false := by cases hb : c.testBit v with | false => rfl | true => exact absurd (Or.inr (Or.inr hb)) hno
            rw [cnd_f (by rfl)]
            simp only [shlI_one (k := u) (show u < 63 by omega), shlI_one (k := v) (show v < 63 by omega), bnd_s]
            rw [cnd_f (eqI_f n1), orI_nat hu63 hv63, andI_nat hc63 (Nat.or_lt_two_pow hu63 hv63), orI_nat hc63 (Nat.or_lt_two_pow hu63 hv63), and_or_zero.2 ⟨n2, n3⟩, cnd_f (by rfl), joinK_l, next_i ha (by omega)]
      · rintro i c ⟨u, v⟩ ha hc hp
        obtain ⟨⟨hu, hu'⟩, hv, hv'⟩ := he _ (List.mem_of_getElem? ha)
        obtain ⟨u, rfl⟩ := natI_eq hu
        obtain ⟨v, rfl⟩ := natI_eq hv
        have hc63 := pow_lt63 hc (by omega)
        have hu63 : 2 ^ u < 2 ^ 63 := Nat.pow_lt_pow_right (by decide) (by omega)
        have hv63 : 2 ^ v < 2 ^ 63 := Nat.pow_lt_pow_right (by decide) (by omega)
        have hi : ltI (i : Int) (es.length : Int) = true := ltI_in ha
        rw [cnd_t hi, getI_nat, ha, bnd_s]
        simp only [shrI_nat hk, bnd_s, bit_f hk]
        simp only [mStep, Int.toNat_natCast] at hp
        cases h1 : k.testBit i with
        | false => rw [h1] at hp; simp at hp
        | true =>
          rw [h1] at hp
          simp only [if_true] at hp
          rw [cnd_f (by rfl)]
          split at hp
          · rename_i hno
            simp only [shlI_one (k := u) (show u < 63 by omega), shlI_one (k := v) (show v < 63 by omega), bnd_s]
            by_cases n1 : (u : Int) = (v : Int)
            · rw [cnd_t (eqI_t n1), joinK_r]
            have hz : c &&& (2 ^ u ||| 2 ^ v) ≠ 0 := by
              intro hz
              obtain ⟨z1, z2⟩ := and_or_zero.1 hz
              simp [n1, z1, z2] at hno
            rw [cnd_f (eqI_f n1), orI_nat hu63 hv63, andI_nat hc63 (Nat.or_lt_two_pow hu63 hv63), cnd_t (neI_t (by omega)), joinK_r]
          · cases hp
      · intro c hc
        have hi : ltI ((es.length : Nat) : Int) (es.length : Int) = false := ltI_end es
        rw [cnd_f hi]
      · rfl
    · rw [cnd_t (leI_t (by rw [pow_cast]; omega)), decide_eq_false (by omega)]
      rfl

/-! ### parts -/

theorem lenN_setL {α : Type} (l : List α) (k : Nat) (x : α) : lenN (setL l k x) = lenN l := by simp [lenN, setL]
theorem lenN_appL {α : Type} (l r : List α) : lenN (appL l r) = addN (lenN l) (lenN r) := by simp [lenN, appL, addN]
theorem fitI_ok {n k : Nat} (h : n * k ≤ maxBytes) : fitI n k = some () := if_pos h
theorem addN_0 (k : Nat) : addN 0 k = k := by simp [addN]
theorem win1 {α : Type} (x : α) : winI [x] 0 1 = some [x] := rfl

def mapTo {α : Type} (g : α → α) (l : List α) (j : Nat) : List α := (l.take j).map g ++ l.drop j
theorem mapTo_0 {α : Type} (g : α → α) (l : List α) : mapTo g l 0 = l := by simp [mapTo]
theorem mapTo_all {α : Type} (g : α → α) (l : List α) : mapTo g l l.length = l.map g := by simp [mapTo]
theorem mapTo_len {α : Type} (g : α → α) (l : List α) (j : Nat) : (mapTo g l j).length = l.length := by simp [mapTo]; omega
theorem mapTo_get {α : Type} {g : α → α} {l : List α} {j : Nat} {x : α} (h : l[j]? = some x) : (mapTo g l j)[j]? = some x := by
  have := lt_of_get h
  unfold mapTo
  rw [List.getElem?_append_right (by simp; omega)]
  simp only [List.length_map, List.length_take, List.getElem?_drop]
  rw [show j + (j - min j l.length) = j by omega, h]
theorem mapTo_next {α : Type} {g : α → α} {l : List α} {j : Nat} {x : α} (h : l[j]? = some x) : (mapTo g l j).set j (g x) = mapTo g l (j + 1) := by
  have := lt_of_get h
  unfold mapTo
  rw [List.set_append_right _ _ (by simp; omega), List.take_add_one, h, drop_cons h]
  simp only [List.length_map, List.length_take]
  rw [show j - min j l.length = 0 by omega]
  simp
theorem mapTo_same {α : Type} {g : α → α} {l : List α} {j : Nat} {x : α} (h : l[j]? = some x) (hg : g x = x) : mapTo g l (j + 1) = mapTo g l j := by
  rw [← mapTo_next h, hg]
  obtain ⟨h1, h2⟩ := List.getElem?_eq_some_iff.1 (mapTo_get (g := g) h)
  have h3 := List.set_getElem_self h1
  rw [h2] at h3
  exact h3

theorem iotaI_len (n : Nat) : (iotaI n).length = n := by simp [iotaI]
theorem iotaI_succ (n : Nat) : appL (iotaI n) [(n : Int)] = iotaI (n + 1) := by simp [iotaI, appL, List.range_succ]
theorem relab_len (b a : Int) (l : List Int) : (relab b a l).length = l.length := by simp [relab]
theorem atI_get {l : List Int} {u : Nat} (h : u < l.length) : l[u]? = some (atI l (u : Int)) := by
  simp [atI, List.getD, List.getElem?_eq_getElem h]

def relG (b a : Int) (x : Int) : Int := if x = b then a else x

theorem partStep_ok {s i : Nat} {st : Int × List Int} {e : Int × Int} {m : Nat} (h1 : st.2.length = m) (h2 : (m : Int) - i ≤ st.1 ∧ st.1 ≤ m) :
    (partStep s i st e).2.length = m ∧ (m : Int) - ((i + 1 : Nat) : Int) ≤ (partStep s i st e).1 ∧ (partStep s i st e).1 ≤ m := by
  unfold partStep
  split
  · refine ⟨by simp [relab_len, h1], ?_, ?_⟩ <;> simp only <;> omega
  · refine ⟨h1, ?_, ?_⟩ <;> omega

theorem f_spec_l36Components (x : (Int × List (Int × Int)) × Int) (y : Int) (h : F_spec_l36Components x = some y) : G_spec_l36Components FUEL x = some y := by
  obtain ⟨⟨n, es⟩, s⟩ := x
  simp only [F_spec_l36Components] at h
  split at h
  · rename_i hc
    obtain ⟨hg, hs⟩ := hc
    injection h with h
    subst h
    obtain ⟨⟨hn0, hn⟩, hl, he⟩ := graphOk_t hg
    obtain ⟨m, rfl⟩ := natI_eq hn0
    have hs := of_decide_eq_true hs
    obtain ⟨k, rfl⟩ := natI_eq hs.1
    have hk : k < 2 ^ 63 := pow_lt63 (k := es.length) (by exact_mod_cast hs.2) (by omega)
    simp only [G_spec_l36Components]
    rw [show fulI 0 0 (lenN ([] : List Int)) = some () from rfl, bnd_s]
    rw [loopT_seq (fun j => (((k : Int), (j : Int)), ((m : Int), es), iotaI j)) (r := Sum.inl ((k : Int), ((m : Int), es), iotaI m)) m ?_ ?_ ?_ (FUEL_gt (by omega))]
    · rw [joinK_l]
      simp only [fulI_id, bnd_s]
      rw [loopT_foldN es (fun (st : Int × List Int) i => (((k : Int), st.1, es, natI (lenN es), (i : Int)), st.2)) (fun i st => st.2.length = m ∧ (m : Int) - i ≤ st.1 ∧ st.1 ≤ m) (partStep k) (fun st => Sum.inl st.1) ?_ ?_ (s := ((m : Int), iotaI m)) ⟨iotaI_len m, by simp, by simp⟩ ?_ (lt_FUEL hl (by decide))]
      · rfl
      all_goals try simp only
      · rintro i ⟨c, l⟩ ⟨u, v⟩ ha ⟨h1, h2⟩
        refine ⟨?_, partStep_ok h1 h2⟩
        obtain ⟨⟨hu, hu'⟩, hv, hv'⟩ := he _ (List.mem_of_getElem? ha)
        obtain ⟨u, rfl⟩ := natI_eq hu
        obtain ⟨v, rfl⟩ := natI_eq hv
        simp only at h1 h2 hu' hv'
        have hi := lt_of_get ha
        have gu := atI_get (l := l) (u := u) (by omega)
        have gv := atI_get (l := l) (u := v) (by omega)
        rw [cnd_t (ltI_in ha), getI_nat, ha, bnd_s]
        simp only [chkI_nat (i := u) (n := lenN l) (by simp only [lenN]; omega), chkI_nat (i := v) (n := lenN l) (by simp only [lenN]; omega), bnd_s, addN_0, getN, gu, gv, shrI_nat hk, bit_f hk]
        unfold partStep
        simp only
        cases hb : k.testBit i with
        | false => rw [cnd_t (by rfl), joinK_l, next_i ha (by omega)]; rfl
        | true =>
          rw [cnd_f (by rfl)]
          by_cases hab : atI l (u : Int) = atI l (v : Int)
          · rw [cnd_t (eqI_t hab), joinK_l, next_i ha (by omega), if_neg (by simp [hab])]
          rw [cnd_f (eqI_f hab), if_pos ⟨rfl, hab⟩, subI_eq (by omega) (by omega)]
          rw [loopT_seq (fun j => (((k : Int), c - 1, atI l (u : Int), atI l (v : Int), es, natI (lenN es), (i : Int), natI (lenN l), (j : Int)), mapTo (relG (atI l (v : Int)) (atI l (u : Int))) l j))
            (r := Sum.inl (((i : Int), (k : Int), c - 1, es, natI (lenN es)), relab (atI l (v : Int)) (atI l (u : Int)) l)) l.length ?_ ?_ ?_ (FUEL_gt (by omega))]
          · rw [joinK_l, next_i ha (by omega)]
          all_goals try simp only
          · intro j hj
            obtain ⟨x, hx⟩ : ∃ x, l[j]? = some x := ⟨_, List.getElem?_eq_getElem hj⟩
            have hl1 : lenN (mapTo (relG (atI l (v : Int)) (atI l (u : Int))) l j) = l.length := mapTo_len _ _ _
            rw [cnd_t (ltI_in hx)]
            simp only [lenN_setL, hl1, chkI_nat hj, bnd_s, addN_0, getN, mapTo_get hx, fulI_id, next_i hx (by omega)]
            by_cases hxb : x = atI l (v : Int)
            · rw [cnd_t (eqI_t hxb), ← mapTo_next hx, relG, if_pos hxb]; rfl
            · rw [cnd_f (eqI_f hxb), mapTo_same hx (by rw [relG, if_neg hxb])]
          · rw [cnd_f (ltI_end l), mapTo_all]
            rfl
          · rw [mapTo_0]; rfl
      · rintro ⟨c, l⟩ _
        rw [cnd_f (ltI_end es)]
      · rfl
    all_goals try simp only
    · intro j hj
      rw [cnd_t (ltI_t (by omega))]
      have h1 : lenN (iotaI j) = j := iotaI_len j
      have h2 : fitI (addN j 1) 8 = some () := fitI_ok (by simp only [addN, maxBytes]; omega)
      simp only [lenN_appL, h1, fulI_id, bnd_s, win1, iotaI_succ]
      rw [show lenN [(j : Int)] = 1 from rfl, h2, bnd_s, addI_eq (by omega) (by omega)]
      rfl
    · rw [cnd_f (ltI_f (by omega)), fulI_id]
      rfl
    · rfl
  · cases h

theorem leastStep_len {s i : Nat} {l : List Int} {e : Int × Int} : (leastStep s i l e).length = l.length := by
  unfold leastStep
  split
  · exact relab_len _ _ _
  · rfl

theorem minI_eq (a b : Int) : minI a b = min a b := by unfold minI; split <;> omega
theorem maxI_eq (a b : Int) : maxI a b = max a b := by unfold maxI; split <;> omega

theorem f_impl_componentsOf (x : (Int × List (Int × Int)) × Int) (y : List Int) (h : F_impl_componentsOf x = some y) : G_impl_componentsOf FUEL x = some y := by
  obtain ⟨⟨n, es⟩, s⟩ := x
  simp only [F_impl_componentsOf] at h
  split at h
  · rename_i hc
    obtain ⟨hg, hs⟩ := hc
    injection h with h
    subst h
    obtain ⟨⟨hn0, hn⟩, hl, he⟩ := graphOk_t hg
    obtain ⟨m, rfl⟩ := natI_eq hn0
    have hs := of_decide_eq_true hs
    obtain ⟨k, rfl⟩ := natI_eq hs.1
    have hk : k < 2 ^ 63 := pow_lt63 (k := es.length) (by exact_mod_cast hs.2) (by omega)
    simp only [G_impl_componentsOf]
    have hm : mkI (m : Int) (m : Int) 8 = some m := mkI_nat (n := m) (by simp only [maxBytes]; omega)
    have hr : lenN (repL m (0 : Int)) = m := by simp [lenN, repL]
    rw [hm, bnd_s, hr, fulI_id, bnd_s]
    rw [loopT_seq (fun j => (((k : Int), natI m, (j : Int)), ((m : Int), es), iotaI j ++ List.replicate (m - j) (0 : Int))) (r := Sum.inl ((k : Int), ((m : Int), es), iotaI m)) m ?_ ?_ ?_ (FUEL_gt (by omega))]
    · rw [joinK_l]
      simp only [fulI_id, bnd_s]
      rw [loopT_foldN es (fun (l : List Int) i => (((k : Int), es, natI (lenN es), (i : Int)), l)) (fun i l => l.length = m) (leastStep k) (fun l => Sum.inl l) ?_ ?_ (s := iotaI m) (iotaI_len m) ?_ (lt_FUEL hl (by decide))]
      · rw [joinK_l, takI_id]
        rfl
      all_goals try simp only
      · rintro i l ⟨u, v⟩ ha h1
        refine ⟨?_, leastStep_len.trans h1⟩
        obtain ⟨⟨hu, hu'⟩, hv, hv'⟩ := he _ (List.mem_of_getElem? ha)
        obtain ⟨u, rfl⟩ := natI_eq hu
        obtain ⟨v, rfl⟩ := natI_eq hv
        simp only at hu' hv'
        have hi := lt_of_get ha
        have gu := atI_get (l := l) (u := u) (by omega)
        have gv := atI_get (l := l) (u := v) (by omega)
        rw [cnd_t (ltI_in ha), getI_nat, ha, bnd_s]
        simp only [chkI_nat (i := u) (n := lenN l) (by simp only [lenN]; omega), chkI_nat (i := v) (n := lenN l) (by simp only [lenN]; omega), bnd_s, addN_0, getN, gu, gv, shrI_nat hk, bit_f hk]
        unfold leastStep
        simp only
        cases hb : k.testBit i with
        | false => rw [cnd_t (by rfl), joinK_l, next_i ha (by omega)]; rfl
        | true =>
          rw [cnd_f (by rfl), if_pos rfl, minI_eq, maxI_eq]
          generalize min (atI l (u : Int)) (atI l (v : Int)) = lo
          generalize max (atI l (u : Int)) (atI l (v : Int)) = hi'
          rw [loopT_seq (fun j => (((k : Int), lo, hi', es, natI (lenN es), (i : Int), natI (lenN l), (j : Int)), mapTo (relG hi' lo) l j))
            (r := Sum.inl (((i : Int), (k : Int), es, natI (lenN es)), relab hi' lo l)) l.length ?_ ?_ ?_ (FUEL_gt (by omega))]
          · rw [joinK_l, next_i ha (by omega)]
          all_goals try simp only
          · intro j hj
            obtain ⟨x, hx⟩ : ∃ x, l[j]? = some x := ⟨_, List.getElem?_eq_getElem hj⟩
            have hl1 : lenN (mapTo (relG hi' lo) l j) = l.length := mapTo_len _ _ _
            rw [cnd_t (ltI_in hx)]
            simp only [lenN_setL, hl1, chkI_nat hj, bnd_s, addN_0, getN, mapTo_get hx, fulI_id, next_i hx (by omega)]
            by_cases hxb : x = hi'
            · rw [cnd_t (eqI_t hxb), ← mapTo_next hx, relG, if_pos hxb]; rfl
            · rw [cnd_f (eqI_f hxb), mapTo_same hx (by rw [relG, if_neg hxb])]
          · rw [cnd_f (ltI_end l), mapTo_all]
            rfl
          · rw [mapTo_0]; rfl
      · rintro l _
        rw [cnd_f (ltI_end es)]
      · rfl
    all_goals try simp only
    · intro j hj
      rw [cnd_t (ltI_t (by simp only [natI]; omega))]
      have h1 : lenN (iotaI j ++ List.replicate (m - j) (0 : Int)) = m := by simp [lenN, iotaI_len]; omega
      have h2 : (iotaI j ++ List.replicate (m - j) (0 : Int))[j]? = some 0 := by
        rw [List.getElem?_append_right (by rw [iotaI_len]; omega), iotaI_len, Nat.sub_self, List.getElem?_replicate, if_pos (by omega)]
      have h3 : setL (iotaI j ++ List.replicate (m - j) (0 : Int)) j (j : Int) = iotaI (j + 1) ++ List.replicate (m - (j + 1)) (0 : Int) := by
        rw [← iotaI_succ, setL, List.set_append_right _ _ (by rw [iotaI_len]; omega), iotaI_len, Nat.sub_self, show m - j = (m - (j + 1)) + 1 by omega, List.replicate_succ]
        simp [appL]
      simp only [lenN_setL, h1, chkI_nat hj, bnd_s, addN_0, getN, h2, fulI_id, h3]
      rw [addI_eq (by omega) (by omega)]
      rfl
    · rw [cnd_f (ltI_f (by simp only [natI]; omega)), fulI_id, Nat.sub_self]
      simp
      rfl
    · simp [iotaI, repL]
  · cases h

theorem leasts_len {n : Int} {es : List (Int × Int)} {s : Int} : (leasts n es s).length = n.toNat := by
  unfold leasts
  generalize hl : iotaI n.toNat = l
  have h0 : l.length = n.toNat := by rw [← hl, iotaI_len]
  clear hl
  rw [← h0]
  clear h0
  generalize 0 = i
  induction es generalizing l i with
  | nil => rfl
  | cons e es ih => rw [foldN, ih, leastStep_len]

theorem countP_succ (p : Nat → Bool) (j : Nat) : (List.range (j + 1)).countP p = (List.range j).countP p + (if p j = true then 1 else 0) := by
  rw [List.range_succ, List.countP_append, List.countP_singleton]

theorem countP_le (p : Nat → Bool) (j : Nat) : (List.range j).countP p ≤ j := by
  have := List.countP_le_length (p := p) (l := List.range j)
  rwa [List.length_range] at this

theorem f_impl_rawComponentCount (x : (Int × List (Int × Int)) × Int) (y : Int) (h : F_impl_rawComponentCount x = some y) : G_impl_rawComponentCount FUEL x = some y := by
  obtain ⟨⟨n, es⟩, s⟩ := x
  simp only [F_impl_rawComponentCount] at h
  split at h
  · rename_i hc
    injection h with h
    subst h
    obtain ⟨⟨hn0, hn⟩, hl, he⟩ := graphOk_t hc.1
    simp only [G_impl_rawComponentCount, F_impl_componentsOf, if_pos hc, bnd_s]
    have hlen := leasts_len (n := n) (es := es) (s := s)
    generalize leasts n es s = l at *
    simp only [fulI_id, bnd_s]
    rw [loopT_seq (fun j => ((((List.countP (fun i => l.getD i 0 == (i : Int)) (List.range j) : Nat) : Int), natI (lenN l), (j : Int)), l)) (r := Sum.inl (fixes l)) l.length ?_ ?_ ?_ (FUEL_gt (by omega))]
    · rfl
    all_goals try simp only
    · intro j hj
      obtain ⟨x, hx⟩ : ∃ x, l[j]? = some x := ⟨_, List.getElem?_eq_getElem hj⟩
      rw [cnd_t (ltI_in hx)]
      simp only [chkI_nat (i := j) (n := lenN l) hj, bnd_s, addN_0, getN, hx]
      have hle := countP_le (fun i => l.getD i 0 == (i : Int)) j
      rw [countP_succ, next_i hx (by omega), addI_eq (by omega) (by omega)]
      by_cases hxj : (j : Int) = x
      · rw [cnd_t (eqI_t hxj), if_pos (by simp [List.getD, hx, hxj])]; rfl
      · rw [cnd_f (eqI_f hxj), if_neg (by simp [List.getD, hx]; omega)]; rfl
    · rw [cnd_f (ltI_end l)]
      rfl
    · rfl
  · cases h

theorem f_spec_ComponentCount (x : (Int × List (Int × Int)) × Int) (y : Int) (h : F_spec_ComponentCount x = some y) : G_spec_ComponentCount FUEL x = some y := by
  obtain ⟨⟨n, es⟩, s⟩ := x
  rw [← h]
  simp only [F_spec_ComponentCount, G_spec_ComponentCount, F_spec_GraphOk, F_spec_l01In, bnd_s]
  cases hg : graphOk n es with
  | false => rfl
  | true =>
    obtain ⟨⟨hn0, hn⟩, hl, he⟩ := graphOk_t hg
    rw [cnd_f (by rfl), show natI (lenN es) = ((es.length : Nat) : Int) from rfl, shlI_one (by omega), bnd_s, shl_sub (by omega)]
    by_cases hs : 0 ≤ s ∧ s < 2 ^ es.length
    · have hs' : 0 ≤ s ∧ s ≤ ((2 ^ es.length : Nat) : Int) - 1 := by rw [pow_cast]; omega
      have hc : graphOk n es = true ∧ setOk es s = true := ⟨hg, decide_eq_true hs⟩
      rw [cnd_f (notB_p hs'), if_pos ⟨rfl, hc.2⟩, F_spec_l36Components]
      rw [if_pos hc]
      rfl
    · have hs' : ¬ (0 ≤ s ∧ s ≤ ((2 ^ es.length : Nat) : Int) - 1) := by rw [pow_cast]; omega
      rw [cnd_t (notB_d hs'), if_neg (fun h => hs (of_decide_eq_true h.2))]

theorem f_impl_ComponentCount (x : (Int × List (Int × Int)) × Int) (y : Int) (h : F_impl_ComponentCount x = some y) : G_impl_ComponentCount FUEL x = some y := by
  obtain ⟨⟨n, es⟩, s⟩ := x
  rw [← h]
  simp only [F_impl_ComponentCount, G_impl_ComponentCount, F_impl_GraphOk, bnd_s]
  cases hg : graphOk n es with
  | false => rfl
  | true =>
    obtain ⟨⟨hn0, hn⟩, hl, he⟩ := graphOk_t hg
    rw [cnd_f (by rfl), show natI (lenN es) = ((es.length : Nat) : Int) from rfl, shlI_one (by omega), bnd_s]
    by_cases hs0 : s < 0
    · rw [cnd_t (ltI_t hs0), if_neg (fun h => by have := (of_decide_eq_true h.2).1; omega)]
    rw [cnd_f (ltI_f (by omega))]
    by_cases hs : s < 2 ^ es.length
    · have hc : graphOk n es = true ∧ setOk es s = true := ⟨hg, decide_eq_true ⟨by omega, hs⟩⟩
      rw [cnd_f (leI_f (by rw [pow_cast]; exact hs)), if_pos ⟨rfl, hc.2⟩, F_impl_rawComponentCount]
      rw [if_pos hc]
      rfl
    · rw [cnd_t (leI_t (by rw [pow_cast]; omega)), if_neg (fun h => hs (of_decide_eq_true h.2).2)]

/-! ### the parts have as many as the fixed points -/

theorem countP_one (p q : Nat → Bool) (k : Nat) : ∀ n, k < n → (∀ i, i < n → i ≠ k → p i = q i) → p k = true → q k = false → (List.range n).countP p = (List.range n).countP q + 1
  | 0, h, _, _, _ => by omega
  | n + 1, h, hpq, h1, h2 => by
    rw [countP_succ, countP_succ]
    by_cases hk : k = n
    · subst hk
      rw [h1, h2]
      have : (List.range k).countP p = (List.range k).countP q := List.countP_congr fun i hi => by
        have := List.mem_range.1 hi
        rw [hpq i (by omega) (by omega)]
      rw [this]
      simp
    · rw [countP_one p q k n (by omega) (fun i hi => hpq i (by omega)) h1 h2, hpq n (by omega) (by omega)]
      omega

structure PInv (m : Nat) (l : List Int) (c : Int) (q : List Int) : Prop where
  ll : l.length = m
  lq : q.length = m
  same : ∀ i j : Nat, i < m → j < m → (l.getD i 0 = l.getD j 0 ↔ q.getD i 0 = q.getD j 0)
  low : ∀ i : Nat, i < m → 0 ≤ l.getD i 0 ∧ l.getD i 0 ≤ (i : Int) ∧ l.getD (l.getD i 0).toNat 0 = l.getD i 0
  cnt : fixes l = c

theorem relab_getD {b a : Int} {l : List Int} {i : Nat} (h : i < l.length) : (relab b a l).getD i 0 = if l.getD i 0 = b then a else l.getD i 0 := by
  simp [relab, List.getD, List.getElem?_map, List.getElem?_eq_getElem h]

theorem relab_self (b : Int) (l : List Int) : relab b b l = l := by
  unfold relab
  conv => rhs; rw [← List.map_id l]
  refine List.map_congr_left fun x _ => ?_
  split
  · rename_i h; exact h.symm
  · rfl

theorem merge_eq {b a x y : Int} : ((if x = b then a else x) = (if y = b then a else y)) ↔ (x = y ∨ ((x = b ∨ x = a) ∧ (y = b ∨ y = a))) := by
  constructor
  · intro h; split at h <;> split at h <;> omega
  · intro h; split <;> split <;> omega

theorem PInv.step {m : Nat} {l : List Int} {c : Int} {q : List Int} (h : PInv m l c q) {u v : Nat} (hu : u < m) (hv : v < m) {s i : Nat} :
    PInv m (leastStep s i l ((u : Int), (v : Int))) (partStep s i (c, q) ((u : Int), (v : Int))).1 (partStep s i (c, q) ((u : Int), (v : Int))).2 := by
  cases hb : s.testBit i with
  | false =>
    have e1 : leastStep s i l ((u : Int), (v : Int)) = l := if_neg (by rw [hb]; decide)
    have e2 : partStep s i (c, q) ((u : Int), (v : Int)) = (c, q) := if_neg (fun hh => by rw [hb] at hh; exact absurd hh.1 (by decide))
    rw [e1, e2]
    exact h
  | true =>
    have ep : q.getD u 0 = q.getD v 0 → partStep s i (c, q) ((u : Int), (v : Int)) = (c, q) := fun h => if_neg (fun hh => hh.2 h)
    have en : q.getD u 0 ≠ q.getD v 0 → partStep s i (c, q) ((u : Int), (v : Int)) = (c - 1, relab (q.getD v 0) (q.getD u 0) q) := fun h => if_pos ⟨hb, h⟩
    have el : leastStep s i l ((u : Int), (v : Int)) = relab (max (l.getD u 0) (l.getD v 0)) (min (l.getD u 0) (l.getD v 0)) l := if_pos hb
    obtain ⟨ll, lq, same, low, cnt⟩ := h
    by_cases hq : q.getD u 0 = q.getD v 0
    · have hl := (same u v hu hv).2 hq
      rw [ep hq, el, hl, Int.max_self, Int.min_self, relab_self]
      exact ⟨ll, lq, same, low, cnt⟩
    · have hl : l.getD u 0 ≠ l.getD v 0 := fun e => hq ((same u v hu hv).1 e)
      rw [en hq, el]
      obtain ⟨lu0, lu1, lu2⟩ := low u hu
      obtain ⟨lv0, lv1, lv2⟩ := low v hv
      -- lo and hi
      obtain ⟨lo, hi, e1, e2, hlt, hset, hlo0, hlo, hhi, hhim⟩ : ∃ lo hi : Nat, min (l.getD u 0) (l.getD v 0) = (lo : Int) ∧ max (l.getD u 0) (l.getD v 0) = (hi : Int) ∧ lo < hi ∧
          (∀ x : Int, (x = (hi : Int) ∨ x = (lo : Int)) ↔ (x = l.getD v 0 ∨ x = l.getD u 0)) ∧ lo < m ∧ l.getD lo 0 = (lo : Int) ∧ l.getD hi 0 = (hi : Int) ∧ hi < m := by
        obtain ⟨a, ha⟩ := natI_eq lu0
        obtain ⟨b, hb⟩ := natI_eq lv0
        rw [ha, Int.toNat_natCast] at lu2
        rw [hb, Int.toNat_natCast] at lv2
        rw [ha] at lu1 hl
        rw [hb] at lv1 hl
        rw [ha, hb]
        rcases Nat.lt_or_ge a b with hab | hab
        · exact ⟨a, b, by omega, by omega, hab, fun x => by omega, by omega, lu2, lv2, by omega⟩
        · exact ⟨b, a, by omega, by omega, by omega, fun x => by omega, by omega, lv2, lu2, by omega⟩
      rw [e1, e2]
      have gl : ∀ j, j < m → (relab (hi : Int) (lo : Int) l).getD j 0 = if l.getD j 0 = (hi : Int) then (lo : Int) else l.getD j 0 := fun j hj => relab_getD (by omega)
      have gq : ∀ j, j < m → (relab (q.getD v 0) (q.getD u 0) q).getD j 0 = if q.getD j 0 = q.getD v 0 then q.getD u 0 else q.getD j 0 := fun j hj => relab_getD (by omega)
      refine ⟨by rw [relab_len]; exact ll, by rw [relab_len]; exact lq, ?_, ?_, ?_⟩
      · intro x y hx hy
        rw [gl x hx, gl y hy, gq x hx, gq y hy, merge_eq, merge_eq, hset, hset, same x y hx hy, same x u hx hu, same x v hx hv, same y u hy hu, same y v hy hv]
      · intro x hx
        obtain ⟨h0, h1, h2⟩ := low x hx
        rw [gl x hx]
        by_cases hxh : l.getD x 0 = (hi : Int)
        · rw [if_pos hxh]
          refine ⟨by omega, by omega, ?_⟩
          rw [Int.toNat_natCast, gl lo hlo0, hlo, if_neg (by omega)]
        · rw [if_neg hxh]
          refine ⟨h0, h1, ?_⟩
          rw [gl _ (by omega), h2, if_neg hxh]
      · have hc := countP_one (fun j => l.getD j 0 == (j : Int)) (fun j => (relab (hi : Int) (lo : Int) l).getD j 0 == (j : Int)) hi m hhim ?_ (by rw [hhi]; simp) (by rw [gl hi hhim, if_pos hhi]; simp; omega)
        · unfold fixes at cnt ⊢
          rw [relab_len, ll]
          rw [ll, hc] at cnt
          omega
        · intro j hj hne
          rw [gl j hj]
          by_cases hjh : l.getD j 0 = (hi : Int)
          · rw [if_pos hjh, hjh, Bool.eq_iff_iff]
            simp only [beq_iff_eq]
            constructor
            · intro h; omega
            · intro h
              have : lo = j := by omega
              subst this
              omega
          · rw [if_neg hjh]

theorem PInv.fold {m s : Nat} : ∀ (es : List (Int × Int)) (i : Nat) {l : List Int} {st : Int × List Int}, PInv m l st.1 st.2 → (∀ e ∈ es, (0 ≤ e.1 ∧ e.1 ≤ (m : Int) - 1) ∧ (0 ≤ e.2 ∧ e.2 ≤ (m : Int) - 1)) →
    PInv m (foldN (leastStep s) i l es) (foldN (partStep s) i st es).1 (foldN (partStep s) i st es).2
  | [], _, _, _, h, _ => h
  | (u, v) :: es, i, l, (c, q), h, he => by
    obtain ⟨⟨hu, hu'⟩, hv, hv'⟩ := he _ List.mem_cons_self
    obtain ⟨u, rfl⟩ := natI_eq hu
    obtain ⟨v, rfl⟩ := natI_eq hv
    simp only at hu' hv'
    exact PInv.fold es (i + 1) (h.step (by omega) (by omega)) (fun e h => he e (List.mem_cons_of_mem _ h))

theorem iotaI_getD {m i : Nat} (h : i < m) : (iotaI m).getD i 0 = (i : Int) := by
  simp [iotaI, List.getD, List.getElem?_map, List.getElem?_range h]

theorem PInv.init (m : Nat) : PInv m (iotaI m) (m : Int) (iotaI m) := by
  refine ⟨iotaI_len m, iotaI_len m, fun _ _ _ _ => Iff.rfl, fun i hi => ?_, ?_⟩
  · rw [iotaI_getD hi, Int.toNat_natCast, iotaI_getD hi]
    omega
  · unfold fixes
    rw [iotaI_len]
    have : (List.range m).countP (fun i => (iotaI m).getD i 0 == (i : Int)) = (List.range m).length := by
      rw [List.countP_eq_length]
      intro i hi
      rw [iotaI_getD (List.mem_range.1 hi)]
      simp
    rw [this, List.length_range]

theorem fixes_parts {n : Int} {es : List (Int × Int)} {s : Int} (h : graphOk n es = true) : fixes (leasts n es s) = (parts n es s).1 := by
  obtain ⟨⟨hn0, hn⟩, hl, he⟩ := graphOk_t h
  obtain ⟨m, rfl⟩ := natI_eq hn0
  exact (PInv.fold es 0 (st := ((m : Int), iotaI m)) (PInv.init m) he).cnt

theorem f_laws_FnExactComponentCount (x : (Int × List (Int × Int)) × Int) (y : Bool) (h : F_laws_FnExactComponentCount x = some y) : G_laws_FnExactComponentCount FUEL x = some y := by
  obtain ⟨⟨n, l⟩, s⟩ := x
  simp only [F_laws_FnExactComponentCount] at h
  split at h
  · rename_i hl
    rw [← h]
    simp only [G_laws_FnExactComponentCount, F_laws_szGraph, F_laws_szEdgeS]
    rw [subI_eq (by have := nl l; omega) (by have := nl l; omega)]
    by_cases hs : 1048576 - natI (lenN l) < 0
    · rw [if_pos hs, bnd_s, cnd_t (ltI_t (by omega))]
    · rw [if_neg hs, bnd_s, cnd_f (ltI_f (by omega))]
      have hle : l.length ≤ 8796093022208 := by have := nl l; omega
      have e1 : F_impl_ComponentCount ((n, l), s) = F_spec_ComponentCount ((n, l), s) := by
        simp only [F_impl_ComponentCount, F_spec_ComponentCount]
        by_cases hg : graphOk n l = true
        · rw [fixes_parts hg]
        · simp [hg]
      simp only [F_laws_toGraph, if_pos hle, bnd_s, winI_id, F_laws_eqGraph, e1]
      simp [F_spec_ComponentCount, bnd_s, neI, cnd, notB]
  · cases h
end Go.Am
