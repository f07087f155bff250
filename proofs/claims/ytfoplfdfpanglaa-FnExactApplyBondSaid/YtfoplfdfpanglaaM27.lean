/- M27: operators on two sites. No condition. -/
import Derived.Test.YtfoplfdfpanglaaM26
set_option linter.unusedVariables false
set_option linter.unusedSimpArgs false
namespace Go.Am

/-! ### operators on two sites -/
/-- Element (I, J): the operator on the values of both sites. -/
def wF (m : Int) (p p' c' : Nat) (X Jn : Mat) : Mat := fun I J => dotF m (fun q => X (I % p * p' + J / c') q) (fun q => Jn (I / p * p + q / p') (q % p' * c' + J % c')) (p * p')
def wTo (p p' c' : Nat) (W : Mat) (i j v : Nat) : Mat := fun I J => if I / p < i ∨ I / p = i ∧ (J % c' < j ∨ J % c' = j ∧ I % p * p' + J / c' < v) then W I J else 0
def bondD (m : Int) (s t : Site) (X : List Int) : List Int :=
  genD (s.1.toNat * s.2.1.toNat) (t.2.1.toNat * t.2.2.1.toNat) (wF m s.2.1.toNat t.2.1.toNat t.2.2.1.toNat (ofD (s.2.1.toNat * t.2.1.toNat) X)
    (mulF m s.2.2.1.toNat (ofD s.2.2.1.toNat s.2.2.2) (ofD (t.2.1.toNat * t.2.2.1.toNat) t.2.2.2)))
def bondT (m : Int) (l : List Site) (k : Nat) (s t : Site) (W : List Int) : List Site :=
  (l.set k (s.1, s.2.1, (facK m (s.1.toNat * s.2.1.toNat) (t.2.1.toNat * t.2.2.1.toNat) W : Int), facA m (s.1.toNat * s.2.1.toNat) (t.2.1.toNat * t.2.2.1.toNat) W)).set (k + 1)
    ((facK m (s.1.toNat * s.2.1.toNat) (t.2.1.toNat * t.2.2.1.toNat) W : Int), t.2.1, t.2.2.1, facB m (s.1.toNat * s.2.1.toNat) (t.2.1.toNat * t.2.2.1.toNat) W)
def bondOk (m : Int) (s t : Site) (x : Int × Int × List Int) : Prop := x.1 = s.2.1 * t.2.1 ∧ x.2.1 = s.2.1 * t.2.1 ∧ s.1 * s.2.1 ≤ 64 ∧ t.2.1 * t.2.2.1 ≤ 64
instance (m : Int) (s t : Site) (x : Int × Int × List Int) : Decidable (bondOk m s t x) := by unfold bondOk; infer_instance
def bondR2 (m : Int) (out : List Site) : (Int × List Site) × Bool := if chainOk (m, out) = true then ((m, out), true) else ((0, []), false)
def bondR (m : Int) (l : List Site) (k : Int) (x : Int × Int × List Int) : (Int × List Site) × Bool :=
  if chainOk (m, l) = true ∧ (0 ≤ k ∧ k + 1 < l.length) ∧ matOk m x = true then
    if bondOk m (l.getD k.toNat site0) (l.getD (k.toNat + 1) site0) x then
      bondR2 m (bondT m l k.toNat (l.getD k.toNat site0) (l.getD (k.toNat + 1) site0) (bondD m (l.getD k.toNat site0) (l.getD (k.toNat + 1) site0) x.2.2))
    else ((0, []), false)
  else ((0, []), false)
def F_spec_ApplyBond : (Int × List Site) × Int × Int × Int × List Int → Option ((Int × List Site) × Bool) := fun x =>
  if sz_Chain x.1 ≤ 1048576 ∧ sz_Matrix x.2.2 ≤ 1048576 then some (bondR x.1.1 x.1.2 x.2.1 x.2.2) else none
def F_impl_ApplyBond : (Int × List Site) × Int × Int × Int × List Int → Option ((Int × List Site) × Bool) := F_spec_ApplyBond

def ag_impl_ApplyBond : Sig := [(.agg, [.int .i64, .list [.int .i64, .int .i64, .int .i64, .list [.int .i64]]]), (.one, [.int .i64]), (.agg, [.int .i64, .int .i64, .list [.int .i64]])]
def rs_impl_ApplyBond : Sig := [(.agg, [.int .i64, .list [.int .i64, .int .i64, .int .i64, .list [.int .i64]]]), (.one, [.bool])]
def mu_impl_ApplyBond : MSig := []
def ag_spec_ApplyBond : Sig := [(.agg, [.int .i64, .list [.int .i64, .int .i64, .int .i64, .list [.int .i64]]]), (.one, [.int .i64]), (.agg, [.int .i64, .int .i64, .list [.int .i64]])]
def rs_spec_ApplyBond : Sig := [(.agg, [.int .i64, .list [.int .i64, .int .i64, .int .i64, .list [.int .i64]]]), (.one, [.bool])]
def mu_spec_ApplyBond : MSig := []

def G_impl_ApplyBond (NN : Nat) : ((Int × (List (Int × (Int × (Int × (List Int)))))) × (Int × (Int × (Int × (List Int))))) → (Option ((Int × (List (Int × (Int × (Int × (List Int)))))) × Bool)) :=
 (fun (((i0, l1), i2, i3, i4, l5) : ((Int × (List (Int × (Int × (Int × (List Int)))))) × (Int × (Int × (Int × (List Int)))))) =>
 (F_impl_ChainOk (i0, l1)).bnd (fun b6 =>
 cnd (notB b6)
 (some (((0 : Int), ([] : List (Int × (Int × (Int × (List Int)))))), false))
 (cnd (ltI i2 (0 : Int))
 (some (((0 : Int), ([] : List (Int × (Int × (Int × (List Int)))))), false))
 (cnd (leI (subI .i64 (natI (lenN l1)) (1 : Int)) i2)
 (some (((0 : Int), ([] : List (Int × (Int × (Int × (List Int)))))), false))
 ((F_impl_MatrixOk (i0, i3, i4, l5)).bnd (fun b7 =>
 cnd (notB b7)
 (some (((0 : Int), ([] : List (Int × (Int × (Int × (List Int)))))), false))
 ((getI l1 i2).bnd (fun (i8, i9, i10, l11) =>
 (getI l1 (addI .i64 i2 1)).bnd (fun (i12, i13, i14, l15) =>
 cnd (neI i3 (mulI .i64 i9 i13))
 (some (((0 : Int), ([] : List (Int × (Int × (Int × (List Int)))))), false))
 (cnd (neI i4 (mulI .i64 i9 i13))
 (some (((0 : Int), ([] : List (Int × (Int × (Int × (List Int)))))), false))
 (cnd (ltI (64 : Int) (mulI .i64 i8 i9))
 (some (((0 : Int), ([] : List (Int × (Int × (Int × (List Int)))))), false))
 (cnd (ltI (64 : Int) (mulI .i64 i13 i14))
 (some (((0 : Int), ([] : List (Int × (Int × (Int × (List Int)))))), false))
 ((F_impl_rawMulMatrix (i0, (mulI .i64 i8 i9, i10, l11), i12, mulI .i64 i13 i14, l15)).bnd (fun (i16, i17, l18) =>
 (F_impl_emptyMatrix (mulI .i64 i8 i9, mulI .i64 i13 i14)).bnd (fun (i19, i20, l21) =>
 joinK ((fulI 0 0 (lenN (([] : List (Int × (Int × (Int × (List Int)))))))).bnd (fun _ =>
 (fulI 0 (lenN l18) (lenN l18)).bnd (fun _ =>
 (fulI 0 (lenN l21) (lenN l21)).bnd (fun _ =>
 loopT NN (fun (((i22, i23), (i24, l25), (i26, i27, l28), i29, (i30, i31, i32, l33), (i34, i35, i36, l37), (i38, i39), (i40, i41), l42, l43, l44) : ((Int × Int) × ((Int × (List (Int × (Int × (Int × (List Int)))))) × ((Int × (Int × (List Int))) × (Int × ((Int × (Int × (Int × (List Int)))) × ((Int × (Int × (Int × (List Int)))) × ((Int × Int) × ((Int × Int) × ((List (Int × (Int × (Int × (List Int))))) × ((List Int) × (List Int)))))))))))) =>
 cnd (ltI i23 i30)
 (joinK ((fulI 0 (lenN l42) (lenN l42)).bnd (fun _ =>
 (fulI 0 (lenN l43) (lenN l43)).bnd (fun _ =>
 (fulI 0 (lenN l44) (lenN l44)).bnd (fun _ =>
 loopT NN (fun (((i45, i46, i47), (i48, l49), (i50, i51, l52), i53, (i54, i55, i56, l57), (i58, i59, i60, l61), (i62, i63), (i64, i65), l66, l67, l68) : ((Int × (Int × Int)) × ((Int × (List (Int × (Int × (Int × (List Int)))))) × ((Int × (Int × (List Int))) × (Int × ((Int × (Int × (Int × (List Int)))) × ((Int × (Int × (Int × (List Int)))) × ((Int × Int) × ((Int × Int) × ((List (Int × (Int × (Int × (List Int))))) × ((List Int) × (List Int)))))))))))) =>
 cnd (ltI i47 i60)
 (joinK ((fulI 0 (lenN l66) (lenN l66)).bnd (fun _ =>
 (fulI 0 (lenN l67) (lenN l67)).bnd (fun _ =>
 (fulI 0 (lenN l68) (lenN l68)).bnd (fun _ =>
 loopT NN (fun (((i69, i70, i71, i72), (i73, l74), (i75, i76, l77), i78, (i79, i80, i81, l82), (i83, i84, i85, l86), (i87, i88), (i89, i90), l91, l92, l93) : ((Int × (Int × (Int × Int))) × ((Int × (List (Int × (Int × (Int × (List Int)))))) × ((Int × (Int × (List Int))) × (Int × ((Int × (Int × (Int × (List Int)))) × ((Int × (Int × (Int × (List Int)))) × ((Int × Int) × ((Int × Int) × ((List (Int × (Int × (Int × (List Int))))) × ((List Int) × (List Int)))))))))))) =>
 cnd (ltI i72 i75)
 (joinK (joinK ((fulI 0 (lenN l91) (lenN l91)).bnd (fun _ =>
 (fulI 0 (lenN l92) (lenN l92)).bnd (fun _ =>
 (fulI 0 (lenN l93) (lenN l93)).bnd (fun _ =>
 loopT NN (fun (((i94, i95, i96, i97, i98, i99), (i100, l101), (i102, i103, l104), i105, (i106, i107, i108, l109), (i110, i111, i112, l113), (i114, i115), (i116, i117), l118, l119, l120) : ((Int × (Int × (Int × (Int × (Int × Int))))) × ((Int × (List (Int × (Int × (Int × (List Int)))))) × ((Int × (Int × (List Int))) × (Int × ((Int × (Int × (Int × (List Int)))) × ((Int × (Int × (Int × (List Int)))) × ((Int × Int) × ((Int × Int) × ((List (Int × (Int × (Int × (List Int))))) × ((List Int) × (List Int)))))))))))) =>
 cnd (ltI i99 i103)
 ((F_impl_Matrix_at ((i102, i103, l104), i97, i99)).bnd (fun i121 =>
 (quoI .i64 i99 i111).bnd (fun i122 =>
 (remI i99 i111).bnd (fun i123 =>
 (winI l119 0 (lenN l119)).bnd (fun l124 =>
 (F_impl_Matrix_at ((i114, i115, l124), addI .i64 (mulI .i64 i95 i107) i122, addI .i64 (mulI .i64 i123 i112) i96)).bnd (fun i125 =>
 (remI (addI .i64 i98 (mulI .i64 i121 i125)) i100).bnd (fun i126 =>
 (fulI 0 (lenN l118) (lenN l118)).bnd (fun _ =>
 (fulI 0 (lenN l119) (lenN l119)).bnd (fun _ =>
 (fulI 0 (lenN l120) (lenN l120)).bnd (fun _ =>
 some (Sum.inl ((i94, i95, i96, i97, i126, addI .i64 i99 1), (i100, l101), (i102, i103, l104), i105, (i106, i107, i108, l109), (i110, i111, i112, l113), (i114, i115), (i116, i117), l118, l119, l120))))))))))))
 (((fulI 0 (lenN l118) (lenN l118)).bnd (fun _ =>
 (fulI 0 (lenN l119) (lenN l119)).bnd (fun _ =>
 (fulI 0 (lenN l120) (lenN l120)).bnd (fun _ =>
 some (Sum.inl ((i98, i97, i94, i95, i96), (i100, l101), (i102, i103, l104), i105, (i106, i107, i108, l109), (i110, i111, i112, l113), (i114, i115), (i116, i117), l118, l119, l120)))))).bnd (fun l127 =>
 some (Sum.inr l127))))
 ((i69, i70, i71, i72, (0 : Int), (0 : Int)), (i73, l74), (i75, i76, l77), i78, (i79, i80, i81, l82), (i83, i84, i85, l86), (i87, i88), (i89, i90), l91, l92, l93)))))
 (fun ((i128, i129, i130, i131, i132), (i133, l134), (i135, i136, l137), i138, (i139, i140, i141, l142), (i143, i144, i145, l146), (i147, i148), (i149, i150), l151, l152, l153) =>
 (quoI .i64 i129 i144).bnd (fun i154 =>
 (remI i129 i144).bnd (fun i155 =>
 (fulI 0 (lenN l153) (lenN l153)).bnd (fun _ =>
 (F_impl_Matrix_set ((i149, i150, l153), addI .i64 (mulI .i64 i131 i140) i154, addI .i64 (mulI .i64 i155 i145) i132, i128)).bnd (fun l156 =>
 (fulI 0 (lenN l151) (lenN l151)).bnd (fun _ =>
 (fulI 0 (lenN l152) (lenN l152)).bnd (fun _ =>
 (fulI 0 (lenN l153) (lenN l156)).bnd (fun _ =>
 some (Sum.inl ((i129, i130, i131, i132), (i133, l134), (i135, i136, l137), i138, (i139, i140, i141, l142), (i143, i144, i145, l146), (i147, i148), (i149, i150), l151, l152, l156)))))))))))
 (fun ((i157, i158, i159, i160), (i161, l162), (i163, i164, l165), i166, (i167, i168, i169, l170), (i171, i172, i173, l174), (i175, i176), (i177, i178), l179, l180, l181) =>
 (fulI 0 (lenN l179) (lenN l179)).bnd (fun _ =>
 (fulI 0 (lenN l180) (lenN l180)).bnd (fun _ =>
 (fulI 0 (lenN l181) (lenN l181)).bnd (fun _ =>
 some (Sum.inl ((i158, i159, i160, addI .i64 i157 1), (i161, l162), (i163, i164, l165), i166, (i167, i168, i169, l170), (i171, i172, i173, l174), (i175, i176), (i177, i178), l179, l180, l181)))))))
 (((fulI 0 (lenN l91) (lenN l91)).bnd (fun _ =>
 (fulI 0 (lenN l92) (lenN l92)).bnd (fun _ =>
 (fulI 0 (lenN l93) (lenN l93)).bnd (fun _ =>
 some (Sum.inl ((i71, i69, i70), (i73, l74), (i75, i76, l77), i78, (i79, i80, i81, l82), (i83, i84, i85, l86), (i87, i88), (i89, i90), l91, l92, l93)))))).bnd (fun l182 =>
 some (Sum.inr l182))))
 ((i45, i46, i47, (0 : Int)), (i48, l49), (i50, i51, l52), i53, (i54, i55, i56, l57), (i58, i59, i60, l61), (i62, i63), (i64, i65), l66, l67, l68)))))
 (fun ((i183, i184, i185), (i186, l187), (i188, i189, l190), i191, (i192, i193, i194, l195), (i196, i197, i198, l199), (i200, i201), (i202, i203), l204, l205, l206) =>
 (fulI 0 (lenN l204) (lenN l204)).bnd (fun _ =>
 (fulI 0 (lenN l205) (lenN l205)).bnd (fun _ =>
 (fulI 0 (lenN l206) (lenN l206)).bnd (fun _ =>
 some (Sum.inl ((i184, i185, addI .i64 i183 1), (i186, l187), (i188, i189, l190), i191, (i192, i193, i194, l195), (i196, i197, i198, l199), (i200, i201), (i202, i203), l204, l205, l206)))))))
 (((fulI 0 (lenN l66) (lenN l66)).bnd (fun _ =>
 (fulI 0 (lenN l67) (lenN l67)).bnd (fun _ =>
 (fulI 0 (lenN l68) (lenN l68)).bnd (fun _ =>
 some (Sum.inl ((i46, i45), (i48, l49), (i50, i51, l52), i53, (i54, i55, i56, l57), (i58, i59, i60, l61), (i62, i63), (i64, i65), l66, l67, l68)))))).bnd (fun l207 =>
 some (Sum.inr l207))))
 ((i22, i23, (0 : Int)), (i24, l25), (i26, i27, l28), i29, (i30, i31, i32, l33), (i34, i35, i36, l37), (i38, i39), (i40, i41), l42, l43, l44)))))
 (fun ((i208, i209), (i210, l211), (i212, i213, l214), i215, (i216, i217, i218, l219), (i220, i221, i222, l223), (i224, i225), (i226, i227), l228, l229, l230) =>
 (fulI 0 (lenN l228) (lenN l228)).bnd (fun _ =>
 (fulI 0 (lenN l229) (lenN l229)).bnd (fun _ =>
 (fulI 0 (lenN l230) (lenN l230)).bnd (fun _ =>
 some (Sum.inl ((i209, addI .i64 i208 1), (i210, l211), (i212, i213, l214), i215, (i216, i217, i218, l219), (i220, i221, i222, l223), (i224, i225), (i226, i227), l228, l229, l230)))))))
 (((fulI 0 (lenN l42) (lenN l42)).bnd (fun _ =>
 (fulI 0 (lenN l44) (lenN l44)).bnd (fun _ =>
 some (Sum.inl (i22, (i24, l25), i29, (i30, i31, i32, l33), (i34, i35, i36, l37), (i40, i41), l42, l44))))).bnd (fun l231 =>
 some (Sum.inr l231))))
 ((i2, (0 : Int)), (i0, l1), (i3, i4, l5), (0 : Int), (i8, i9, i10, l11), (i12, i13, i14, l15), (i16, i17), (i19, i20), ([] : List (Int × (Int × (Int × (List Int))))), l18, l21)))))
 (fun (i232, (i233, l234), i235, (i236, i237, i238, l239), (i240, i241, i242, l243), (i244, i245), l246, l247) =>
 (winI l247 0 (lenN l247)).bnd (fun l248 =>
 (F_impl_FactorMatrix (i233, i244, i245, l248)).bnd (fun ((i249, i250, l251), (i252, i253, l254), b255) =>
 cnd (notB b255)
 (some (((0 : Int), ([] : List (Int × (Int × (Int × (List Int)))))), false))
 ((F_impl_copyChain (i233, l234)).bnd (fun (i256, l257) =>
 (chkI i232 (lenN l257)).bnd (fun k258 =>
 (getN l257 (addN 0 k258)).bnd (fun (i259, i260, i261, l262) =>
 (takI l251 (lenN l251)).bnd (fun l263 =>
 (chkI (addI .i64 i232 1) (lenN l257)).bnd (fun k264 =>
 (getN (setL l257 (addN 0 k258) (i236, i237, i250, l263)) (addN 0 k264)).bnd (fun (i265, i266, i267, l268) =>
 (takI l254 (lenN l254)).bnd (fun l269 =>
 (winI (setL (setL l257 (addN 0 k258) (i236, i237, i250, l263)) (addN 0 k264) (i252, i241, i242, l269)) 0 (lenN l257)).bnd (fun l270 =>
 (F_impl_ChainOk (i256, l270)).bnd (fun b271 =>
 cnd (notB b271)
 (some (((0 : Int), ([] : List (Int × (Int × (Int × (List Int)))))), false))
 ((takI (setL (setL l257 (addN 0 k258) (i236, i237, i250, l263)) (addN 0 k264) (i252, i241, i242, l269)) (lenN l257)).bnd (fun l272 =>
 some ((i256, l272), true)))))))))))))))))))))))))))))))


def G_spec_ApplyBond (NN : Nat) : ((Int × (List (Int × (Int × (Int × (List Int)))))) × (Int × (Int × (Int × (List Int))))) → (Option ((Int × (List (Int × (Int × (Int × (List Int)))))) × Bool)) :=
 (fun (((i0, l1), i2, i3, i4, l5) : ((Int × (List (Int × (Int × (Int × (List Int)))))) × (Int × (Int × (Int × (List Int)))))) =>
 (F_spec_ChainOk (i0, l1)).bnd (fun b6 =>
 cnd (notB b6)
 (some (((0 : Int), ([] : List (Int × (Int × (Int × (List Int)))))), false))
 ((F_spec_l01In (i2, (0 : Int), subI .i64 (natI (lenN l1)) (2 : Int))).bnd (fun b7 =>
 cnd (notB b7)
 (some (((0 : Int), ([] : List (Int × (Int × (Int × (List Int)))))), false))
 ((F_spec_MatrixOk (i0, i3, i4, l5)).bnd (fun b8 =>
 cnd (notB b8)
 (some (((0 : Int), ([] : List (Int × (Int × (Int × (List Int)))))), false))
 ((getI l1 i2).bnd (fun (i9, i10, i11, l12) =>
 (getI l1 (addI .i64 i2 1)).bnd (fun (i13, i14, i15, l16) =>
 cnd (neI i3 (mulI .i64 i10 i14))
 (some (((0 : Int), ([] : List (Int × (Int × (Int × (List Int)))))), false))
 (cnd (neI i4 (mulI .i64 i10 i14))
 (some (((0 : Int), ([] : List (Int × (Int × (Int × (List Int)))))), false))
 (cnd (ltI (64 : Int) (mulI .i64 i9 i10))
 (some (((0 : Int), ([] : List (Int × (Int × (Int × (List Int)))))), false))
 (cnd (ltI (64 : Int) (mulI .i64 i14 i15))
 (some (((0 : Int), ([] : List (Int × (Int × (Int × (List Int)))))), false))
 ((F_spec_l31New (mulI .i64 i9 i10, mulI .i64 i14 i15)).bnd (fun (i17, i18, l19) =>
 joinK ((fulI 0 0 (lenN (([] : List (Int × (Int × (Int × (List Int)))))))).bnd (fun _ =>
 (fulI 0 (lenN l19) (lenN l19)).bnd (fun _ =>
 loopT NN (fun (((i20, i21, i22), (i23, l24), (i25, i26, l27), i28, (i29, i30, i31, l32), (i33, i34, i35, l36), (i37, i38), l39, l40) : ((Int × (Int × Int)) × ((Int × (List (Int × (Int × (Int × (List Int)))))) × ((Int × (Int × (List Int))) × (Int × ((Int × (Int × (Int × (List Int)))) × ((Int × (Int × (Int × (List Int)))) × ((Int × Int) × ((List (Int × (Int × (Int × (List Int))))) × (List Int)))))))))) =>
 cnd (ltI i22 i29)
 (joinK ((fulI 0 (lenN l39) (lenN l39)).bnd (fun _ =>
 (fulI 0 (lenN l40) (lenN l40)).bnd (fun _ =>
 loopT NN (fun (((i41, i42, i43, i44), (i45, l46), (i47, i48, l49), i50, (i51, i52, i53, l54), (i55, i56, i57, l58), (i59, i60), l61, l62) : ((Int × (Int × (Int × Int))) × ((Int × (List (Int × (Int × (Int × (List Int)))))) × ((Int × (Int × (List Int))) × (Int × ((Int × (Int × (Int × (List Int)))) × ((Int × (Int × (Int × (List Int)))) × ((Int × Int) × ((List (Int × (Int × (Int × (List Int))))) × (List Int)))))))))) =>
 cnd (ltI i44 i57)
 (joinK ((F_spec_l31New (i42, (1 : Int))).bnd (fun (i63, i64, l65) =>
 joinK ((fulI 0 (lenN l61) (lenN l61)).bnd (fun _ =>
 (fulI 0 (lenN l62) (lenN l62)).bnd (fun _ =>
 (fulI 0 (lenN l65) (lenN l65)).bnd (fun _ =>
 loopT NN (fun (((i66, i67, i68, i69, i70), (i71, l72), (i73, i74, l75), i76, (i77, i78, i79, l80), (i81, i82, i83, l84), (i85, i86), (i87, i88), l89, l90, l91) : ((Int × (Int × (Int × (Int × Int)))) × ((Int × (List (Int × (Int × (Int × (List Int)))))) × ((Int × (Int × (List Int))) × (Int × ((Int × (Int × (Int × (List Int)))) × ((Int × (Int × (Int × (List Int)))) × ((Int × Int) × ((Int × Int) × ((List (Int × (Int × (Int × (List Int))))) × ((List Int) × (List Int)))))))))))) =>
 cnd (ltI i70 i78)
 (joinK ((fulI 0 (lenN l89) (lenN l89)).bnd (fun _ =>
 (fulI 0 (lenN l90) (lenN l90)).bnd (fun _ =>
 (fulI 0 (lenN l91) (lenN l91)).bnd (fun _ =>
 loopT NN (fun (((i92, i93, i94, i95, i96, i97), (i98, l99), (i100, i101, l102), i103, (i104, i105, i106, l107), (i108, i109, i110, l111), (i112, i113), (i114, i115), l116, l117, l118) : ((Int × (Int × (Int × (Int × (Int × Int))))) × ((Int × (List (Int × (Int × (Int × (List Int)))))) × ((Int × (Int × (List Int))) × (Int × ((Int × (Int × (Int × (List Int)))) × ((Int × (Int × (Int × (List Int)))) × ((Int × Int) × ((Int × Int) × ((List (Int × (Int × (Int × (List Int))))) × ((List Int) × (List Int)))))))))))) =>
 cnd (ltI i97 i109)
 (joinK (joinK ((fulI 0 (lenN l116) (lenN l116)).bnd (fun _ =>
 (fulI 0 (lenN l117) (lenN l117)).bnd (fun _ =>
 (fulI 0 (lenN l118) (lenN l118)).bnd (fun _ =>
 loopT NN (fun (((i119, i120, i121, i122, i123, i124, i125, i126), (i127, l128), (i129, i130, l131), i132, (i133, i134, i135, l136), (i137, i138, i139, l140), (i141, i142), (i143, i144), l145, l146, l147) : ((Int × (Int × (Int × (Int × (Int × (Int × (Int × Int))))))) × ((Int × (List (Int × (Int × (Int × (List Int)))))) × ((Int × (Int × (List Int))) × (Int × ((Int × (Int × (Int × (List Int)))) × ((Int × (Int × (Int × (List Int)))) × ((Int × Int) × ((Int × Int) × ((List (Int × (Int × (Int × (List Int))))) × ((List Int) × (List Int)))))))))))) =>
 cnd (ltI i126 i135)
 ((getI l136 (addI .i64 (mulI .i64 (addI .i64 (mulI .i64 i121 i134) i123) i135) i126)).bnd (fun i148 =>
 (getI l140 (addI .i64 (mulI .i64 (addI .i64 (mulI .i64 i126 i138) i124) i139) i122)).bnd (fun i149 =>
 (remI (addI .i64 i125 (mulI .i64 i148 i149)) i127).bnd (fun i150 =>
 (fulI 0 (lenN l145) (lenN l145)).bnd (fun _ =>
 (fulI 0 (lenN l146) (lenN l146)).bnd (fun _ =>
 (fulI 0 (lenN l147) (lenN l147)).bnd (fun _ =>
 some (Sum.inl ((i119, i120, i121, i122, i123, i124, i150, addI .i64 i126 1), (i127, l128), (i129, i130, l131), i132, (i133, i134, i135, l136), (i137, i138, i139, l140), (i141, i142), (i143, i144), l145, l146, l147)))))))))
 (((fulI 0 (lenN l145) (lenN l145)).bnd (fun _ =>
 (fulI 0 (lenN l146) (lenN l146)).bnd (fun _ =>
 (fulI 0 (lenN l147) (lenN l147)).bnd (fun _ =>
 some (Sum.inl ((i125, i124, i119, i120, i121, i122, i123), (i127, l128), (i129, i130, l131), i132, (i133, i134, i135, l136), (i137, i138, i139, l140), (i141, i142), (i143, i144), l145, l146, l147)))))).bnd (fun l151 =>
 some (Sum.inr l151))))
 ((i92, i93, i94, i95, i96, i97, (0 : Int), (0 : Int)), (i98, l99), (i100, i101, l102), i103, (i104, i105, i106, l107), (i108, i109, i110, l111), (i112, i113), (i114, i115), l116, l117, l118)))))
 (fun ((i152, i153, i154, i155, i156, i157, i158), (i159, l160), (i161, i162, l163), i164, (i165, i166, i167, l168), (i169, i170, i171, l172), (i173, i174), (i175, i176), l177, l178, l179) =>
 (chkI (addI .i64 (mulI .i64 i158 i170) i153) (lenN l179)).bnd (fun k180 =>
 (getN l179 (addN 0 k180)).bnd (fun i181 =>
 (fulI 0 (lenN l177) (lenN l177)).bnd (fun _ =>
 (fulI 0 (lenN l178) (lenN l178)).bnd (fun _ =>
 (fulI 0 (lenN l179) (lenN (setL l179 (addN 0 k180) i152))).bnd (fun _ =>
 some (Sum.inl ((i153, i154, i155, i156, i157, i158), (i159, l160), (i161, i162, l163), i164, (i165, i166, i167, l168), (i169, i170, i171, l172), (i173, i174), (i175, i176), l177, l178, setL l179 (addN 0 k180) i152)))))))))
 (fun ((i182, i183, i184, i185, i186, i187), (i188, l189), (i190, i191, l192), i193, (i194, i195, i196, l197), (i198, i199, i200, l201), (i202, i203), (i204, i205), l206, l207, l208) =>
 (fulI 0 (lenN l206) (lenN l206)).bnd (fun _ =>
 (fulI 0 (lenN l207) (lenN l207)).bnd (fun _ =>
 (fulI 0 (lenN l208) (lenN l208)).bnd (fun _ =>
 some (Sum.inl ((i183, i184, i185, i186, i187, addI .i64 i182 1), (i188, l189), (i190, i191, l192), i193, (i194, i195, i196, l197), (i198, i199, i200, l201), (i202, i203), (i204, i205), l206, l207, l208)))))))
 (((fulI 0 (lenN l116) (lenN l116)).bnd (fun _ =>
 (fulI 0 (lenN l117) (lenN l117)).bnd (fun _ =>
 (fulI 0 (lenN l118) (lenN l118)).bnd (fun _ =>
 some (Sum.inl ((i96, i92, i93, i94, i95), (i98, l99), (i100, i101, l102), i103, (i104, i105, i106, l107), (i108, i109, i110, l111), (i112, i113), (i114, i115), l116, l117, l118)))))).bnd (fun l209 =>
 some (Sum.inr l209))))
 ((i66, i67, i68, i69, i70, (0 : Int)), (i71, l72), (i73, i74, l75), i76, (i77, i78, i79, l80), (i81, i82, i83, l84), (i85, i86), (i87, i88), l89, l90, l91)))))
 (fun ((i210, i211, i212, i213, i214), (i215, l216), (i217, i218, l219), i220, (i221, i222, i223, l224), (i225, i226, i227, l228), (i229, i230), (i231, i232), l233, l234, l235) =>
 (fulI 0 (lenN l233) (lenN l233)).bnd (fun _ =>
 (fulI 0 (lenN l234) (lenN l234)).bnd (fun _ =>
 (fulI 0 (lenN l235) (lenN l235)).bnd (fun _ =>
 some (Sum.inl ((i211, i212, i213, i214, addI .i64 i210 1), (i215, l216), (i217, i218, l219), i220, (i221, i222, i223, l224), (i225, i226, i227, l228), (i229, i230), (i231, i232), l233, l234, l235)))))))
 (((fulI 0 (lenN l89) (lenN l89)).bnd (fun _ =>
 (fulI 0 (lenN l90) (lenN l90)).bnd (fun _ =>
 (fulI 0 (lenN l91) (lenN l91)).bnd (fun _ =>
 some (Sum.inl ((i68, i67, i66, i69), (i71, l72), (i73, i74, l75), i76, (i77, i78, i79, l80), (i81, i82, i83, l84), (i85, i86), (i87, i88), l89, l90, l91)))))).bnd (fun l236 =>
 some (Sum.inr l236))))
 ((i41, i42, i43, i44, (0 : Int)), (i45, l46), (i47, i48, l49), i50, (i51, i52, i53, l54), (i55, i56, i57, l58), (i59, i60), (i63, i64), l61, l62, l65)))))
 (fun ((i237, i238, i239, i240), (i241, l242), (i243, i244, l245), i246, (i247, i248, i249, l250), (i251, i252, i253, l254), (i255, i256), (i257, i258), l259, l260, l261) =>
 (winI l261 0 (lenN l261)).bnd (fun l262 =>
 (F_spec_l31Mul (i241, (i243, i244, l245), i257, i258, l262)).bnd (fun (i263, i264, l265) =>
 (fulI 0 (lenN l259) (lenN l259)).bnd (fun _ =>
 (fulI 0 (lenN l260) (lenN l260)).bnd (fun _ =>
 (fulI 0 (lenN l265) (lenN l265)).bnd (fun _ =>
 loopT NN (fun (((i266, i267, i268, i269, i270), (i271, l272), (i273, i274, l275), i276, (i277, i278, i279, l280), (i281, i282, i283, l284), (i285, i286), (i287, i288), l289, l290, l291) : ((Int × (Int × (Int × (Int × Int)))) × ((Int × (List (Int × (Int × (Int × (List Int)))))) × ((Int × (Int × (List Int))) × (Int × ((Int × (Int × (Int × (List Int)))) × ((Int × (Int × (Int × (List Int)))) × ((Int × Int) × ((Int × Int) × ((List (Int × (Int × (Int × (List Int))))) × ((List Int) × (List Int)))))))))))) =>
 cnd (ltI i270 i278)
 (joinK ((fulI 0 (lenN l289) (lenN l289)).bnd (fun _ =>
 (fulI 0 (lenN l290) (lenN l290)).bnd (fun _ =>
 (fulI 0 (lenN l291) (lenN l291)).bnd (fun _ =>
 loopT NN (fun (((i292, i293, i294, i295, i296, i297), (i298, l299), (i300, i301, l302), i303, (i304, i305, i306, l307), (i308, i309, i310, l311), (i312, i313), (i314, i315), l316, l317, l318) : ((Int × (Int × (Int × (Int × (Int × Int))))) × ((Int × (List (Int × (Int × (Int × (List Int)))))) × ((Int × (Int × (List Int))) × (Int × ((Int × (Int × (Int × (List Int)))) × ((Int × (Int × (Int × (List Int)))) × ((Int × Int) × ((Int × Int) × ((List (Int × (Int × (Int × (List Int))))) × ((List Int) × (List Int)))))))))))) =>
 cnd (ltI i297 i309)
 ((chkI (addI .i64 (mulI .i64 i296 i309) i297) (lenN l318)).bnd (fun k319 =>
 (getN l318 (addN 0 k319)).bnd (fun i320 =>
 (chkI (addI .i64 (addI .i64 (mulI .i64 (addI .i64 (mulI .i64 i294 i305) i296) i313) (mulI .i64 i297 i310)) i295) (lenN l317)).bnd (fun k321 =>
 (getN l317 (addN 0 k321)).bnd (fun i322 =>
 (fulI 0 (lenN l316) (lenN l316)).bnd (fun _ =>
 (fulI 0 (lenN l317) (lenN (setL l317 (addN 0 k321) i320))).bnd (fun _ =>
 (fulI 0 (lenN l318) (lenN l318)).bnd (fun _ =>
 some (Sum.inl ((i292, i293, i294, i295, i296, addI .i64 i297 1), (i298, l299), (i300, i301, l302), i303, (i304, i305, i306, l307), (i308, i309, i310, l311), (i312, i313), (i314, i315), l316, setL l317 (addN 0 k321) i320, l318))))))))))
 (((fulI 0 (lenN l316) (lenN l316)).bnd (fun _ =>
 (fulI 0 (lenN l317) (lenN l317)).bnd (fun _ =>
 (fulI 0 (lenN l318) (lenN l318)).bnd (fun _ =>
 some (Sum.inl ((i296, i292, i293, i294, i295), (i298, l299), (i300, i301, l302), i303, (i304, i305, i306, l307), (i308, i309, i310, l311), (i312, i313), (i314, i315), l316, l317, l318)))))).bnd (fun l323 =>
 some (Sum.inr l323))))
 ((i266, i267, i268, i269, i270, (0 : Int)), (i271, l272), (i273, i274, l275), i276, (i277, i278, i279, l280), (i281, i282, i283, l284), (i285, i286), (i287, i288), l289, l290, l291)))))
 (fun ((i324, i325, i326, i327, i328), (i329, l330), (i331, i332, l333), i334, (i335, i336, i337, l338), (i339, i340, i341, l342), (i343, i344), (i345, i346), l347, l348, l349) =>
 (fulI 0 (lenN l347) (lenN l347)).bnd (fun _ =>
 (fulI 0 (lenN l348) (lenN l348)).bnd (fun _ =>
 (fulI 0 (lenN l349) (lenN l349)).bnd (fun _ =>
 some (Sum.inl ((i325, i326, i327, i328, addI .i64 i324 1), (i329, l330), (i331, i332, l333), i334, (i335, i336, i337, l338), (i339, i340, i341, l342), (i343, i344), (i345, i346), l347, l348, l349)))))))
 (((fulI 0 (lenN l289) (lenN l289)).bnd (fun _ =>
 (fulI 0 (lenN l290) (lenN l290)).bnd (fun _ =>
 some (Sum.inl ((i269, i266, i267, i268), (i271, l272), (i273, i274, l275), i276, (i277, i278, i279, l280), (i281, i282, i283, l284), (i285, i286), l289, l290))))).bnd (fun l350 =>
 some (Sum.inr l350))))
 ((i239, i238, i237, i240, (0 : Int)), (i241, l242), (i243, i244, l245), i246, (i247, i248, i249, l250), (i251, i252, i253, l254), (i255, i256), (i263, i264), l259, l260, l265)))))))))
 (fun ((i351, i352, i353, i354), (i355, l356), (i357, i358, l359), i360, (i361, i362, i363, l364), (i365, i366, i367, l368), (i369, i370), l371, l372) =>
 (fulI 0 (lenN l371) (lenN l371)).bnd (fun _ =>
 (fulI 0 (lenN l372) (lenN l372)).bnd (fun _ =>
 some (Sum.inl ((i352, i353, i354, addI .i64 i351 1), (i355, l356), (i357, i358, l359), i360, (i361, i362, i363, l364), (i365, i366, i367, l368), (i369, i370), l371, l372))))))
 (((fulI 0 (lenN l61) (lenN l61)).bnd (fun _ =>
 (fulI 0 (lenN l62) (lenN l62)).bnd (fun _ =>
 some (Sum.inl ((i43, i41, i42), (i45, l46), (i47, i48, l49), i50, (i51, i52, i53, l54), (i55, i56, i57, l58), (i59, i60), l61, l62))))).bnd (fun l373 =>
 some (Sum.inr l373))))
 ((i20, i21, i22, (0 : Int)), (i23, l24), (i25, i26, l27), i28, (i29, i30, i31, l32), (i33, i34, i35, l36), (i37, i38), l39, l40))))
 (fun ((i374, i375, i376), (i377, l378), (i379, i380, l381), i382, (i383, i384, i385, l386), (i387, i388, i389, l390), (i391, i392), l393, l394) =>
 (fulI 0 (lenN l393) (lenN l393)).bnd (fun _ =>
 (fulI 0 (lenN l394) (lenN l394)).bnd (fun _ =>
 some (Sum.inl ((i375, i376, addI .i64 i374 1), (i377, l378), (i379, i380, l381), i382, (i383, i384, i385, l386), (i387, i388, i389, l390), (i391, i392), l393, l394))))))
 (((fulI 0 (lenN l39) (lenN l39)).bnd (fun _ =>
 (fulI 0 (lenN l40) (lenN l40)).bnd (fun _ =>
 some (Sum.inl (i20, (i23, l24), i28, (i29, i30, i31, l32), (i33, i34, i35, l36), (i37, i38), l39, l40))))).bnd (fun l395 =>
 some (Sum.inr l395))))
 ((i2, mulI .i64 i10 i14, (0 : Int)), (i0, l1), (i3, i4, l5), (0 : Int), (i9, i10, i11, l12), (i13, i14, i15, l16), (i17, i18), ([] : List (Int × (Int × (Int × (List Int))))), l19))))
 (fun (i396, (i397, l398), i399, (i400, i401, i402, l403), (i404, i405, i406, l407), (i408, i409), l410, l411) =>
 (winI l411 0 (lenN l411)).bnd (fun l412 =>
 (F_spec_l31Factor (i397, i408, i409, l412)).bnd (fun ((i413, i414, l415), i416, i417, l418) =>
 (F_spec_l32Copy (i397, l398)).bnd (fun (i419, l420) =>
 (chkI i396 (lenN l420)).bnd (fun k421 =>
 (getN l420 (addN 0 k421)).bnd (fun (i422, i423, i424, l425) =>
 (takI l415 (lenN l415)).bnd (fun l426 =>
 (chkI (addI .i64 i396 1) (lenN l420)).bnd (fun k427 =>
 (getN (setL l420 (addN 0 k421) (i400, i401, i414, l426)) (addN 0 k427)).bnd (fun (i428, i429, i430, l431) =>
 (takI l418 (lenN l418)).bnd (fun l432 =>
 (winI (setL (setL l420 (addN 0 k421) (i400, i401, i414, l426)) (addN 0 k427) (i414, i405, i406, l432)) 0 (lenN l420)).bnd (fun l433 =>
 (F_spec_ChainOk (i419, l433)).bnd (fun b434 =>
 cnd (notB b434)
 (some (((0 : Int), ([] : List (Int × (Int × (Int × (List Int)))))), false))
 ((takI (setL (setL l420 (addN 0 k421) (i400, i401, i414, l426)) (addN 0 k427) (i414, i405, i406, l432)) (lenN l420)).bnd (fun l435 =>
 some ((i419, l435), true)))))))))))))))))))))))))))))



theorem sum_le {α : Type} {f : α → Nat} {B : Nat} : ∀ {l : List α}, (∀ e ∈ l, f e ≤ B) → (l.map f).sum ≤ l.length * B
  | [], _ => by simp
  | a :: l, h => by
    have h1 := h a List.mem_cons_self
    have h2 := sum_le (f := f) (B := B) (l := l) fun e he => h e (List.mem_cons_of_mem _ he)
    rw [List.map_cons, List.sum_cons, List.length_cons, Nat.add_mul]
    omega


theorem lx1 {a i b j w v : Nat} (h : a = i ∧ b = j ∧ w = v) : a < i ∨ a = i ∧ (b < j ∨ b = j ∧ w < v + 1) := by omega
theorem lx2 {a i b j w v : Nat} (q : a < i ∨ a = i ∧ (b < j ∨ b = j ∧ w < v)) : a < i ∨ a = i ∧ (b < j ∨ b = j ∧ w < v + 1) := by omega
theorem lx3 {a i b j w v : Nat} (h : ¬ (a = i ∧ b = j ∧ w = v)) (q : ¬ (a < i ∨ a = i ∧ (b < j ∨ b = j ∧ w < v))) : ¬ (a < i ∨ a = i ∧ (b < j ∨ b = j ∧ w < v + 1)) := by omega
theorem lx4 {a i b j w n : Nat} (q : a < i ∨ a = i ∧ (b < j ∨ b = j ∧ w < n)) : a < i ∨ a = i ∧ (b < j + 1 ∨ b = j + 1 ∧ w < 0) := by omega
theorem lx5 {a i b j w n : Nat} (hw : w < n) (q : ¬ (a < i ∨ a = i ∧ (b < j ∨ b = j ∧ w < n))) : ¬ (a < i ∨ a = i ∧ (b < j + 1 ∨ b = j + 1 ∧ w < 0)) := by omega
theorem lx6 {a i b w n : Nat} (q : a < i ∨ a = i ∧ (b < n ∨ b = n ∧ w < 0)) : a < i + 1 ∨ a = i + 1 ∧ (b < 0 ∨ b = 0 ∧ w < 0) := by omega
theorem lx7 {a i b w n : Nat} (hb : b < n) (q : ¬ (a < i ∨ a = i ∧ (b < n ∨ b = n ∧ w < 0))) : ¬ (a < i + 1 ∨ a = i + 1 ∧ (b < 0 ∨ b = 0 ∧ w < 0)) := by omega
theorem lx8 {a b w : Nat} : ¬ (a < 0 ∨ a = 0 ∧ (b < 0 ∨ b = 0 ∧ w < 0)) := by omega

theorem wTo_set {R C p p' c' : Nat} {W : Mat} {i j v : Nat} (hR : ∀ I, I < R → I / p * p + I % p = I) (hp : 0 < p) (hp' : 0 < p') (hj : j < c') (hv : v < p * p') (hC : C = p' * c') :
    genD R C (updM (wTo p p' c' W i j v) (i * p + v / p') (v % p' * c' + j) (W (i * p + v / p') (v % p' * c' + j))) = genD R C (wTo p p' c' W i j (v + 1)) := by
  refine genD_congr fun I hI J hJ => ?_
  have hc' : 0 < c' := by omega
  have hx : v % p' < p' := Nat.mod_lt _ hp'
  have hu : v / p' < p := (Nat.div_lt_iff_lt_mul hp').2 hv
  have hJd : J / c' < p' := (Nat.div_lt_iff_lt_mul hc').2 (by rw [← hC]; exact hJ)
  have hI2 := Nat.mod_lt I hp
  have key : (I = i * p + v / p' ∧ J = v % p' * c' + j) ↔ (I / p = i ∧ J % c' = j ∧ I % p * p' + J / c' = v) := by
    constructor
    · rintro ⟨rfl, rfl⟩
      rw [idx_div hu, idx_mod hu, idx_div hj, idx_mod hj]
      exact ⟨rfl, rfl, by rw [Nat.mul_comm]; exact Nat.div_add_mod v p'⟩
    · rintro ⟨h1, h2, h3⟩
      have e1 : v / p' = I % p := by rw [← h3]; exact idx_div hJd
      have e2 : v % p' = J / c' := by rw [← h3]; exact idx_mod hJd
      refine ⟨by rw [e1, ← h1]; exact (hR I hI).symm, ?_⟩
      rw [e2, ← h2, Nat.mul_comm]
      exact (Nat.div_add_mod J c').symm
  unfold updM wTo
  by_cases h : I = i * p + v / p' ∧ J = v % p' * c' + j
  · rw [if_pos h]
    have h' := key.1 h
    rw [if_pos (lx1 h'), h.1, h.2]
  · rw [if_neg h]
    have h' : ¬ (I / p = i ∧ J % c' = j ∧ I % p * p' + J / c' = v) := fun e => h (key.2 e)
    by_cases q : I / p < i ∨ I / p = i ∧ (J % c' < j ∨ J % c' = j ∧ I % p * p' + J / c' < v)
    · rw [if_pos q, if_pos (lx2 q)]
    · rw [if_neg q, if_neg (lx3 h' q)]

theorem wTo_row {R C p p' c' : Nat} {W : Mat} {i j : Nat} (hp : 0 < p) (hc' : 0 < c') (hC : C = p' * c') : genD R C (wTo p p' c' W i j (p * p')) = genD R C (wTo p p' c' W i (j + 1) 0) := by
  refine genD_congr fun I hI J hJ => ?_
  have hJd : J / c' < p' := (Nat.div_lt_iff_lt_mul hc').2 (by rw [← hC]; exact hJ)
  have hI2 := Nat.mod_lt I hp
  have hlt := idx_lt hI2 hJd
  unfold wTo
  by_cases q : I / p < i ∨ I / p = i ∧ (J % c' < j ∨ J % c' = j ∧ I % p * p' + J / c' < p * p')
  · rw [if_pos q, if_pos (lx4 q)]
  · rw [if_neg q, if_neg (lx5 hlt q)]
theorem wTo_blk {R C p p' c' : Nat} {W : Mat} {i : Nat} (hc' : 0 < c' ∨ C = 0) : genD R C (wTo p p' c' W i c' 0) = genD R C (wTo p p' c' W (i + 1) 0 0) := by
  refine genD_congr fun I hI J hJ => ?_
  have hc : 0 < c' := by omega
  have := Nat.mod_lt J hc
  unfold wTo
  by_cases q : I / p < i ∨ I / p = i ∧ (J % c' < c' ∨ J % c' = c' ∧ I % p * p' + J / c' < 0)
  · rw [if_pos q, if_pos (lx6 q)]
  · rw [if_neg q, if_neg (lx7 this q)]
theorem wTo_end {b C p p' c' : Nat} {W : Mat} (hp : 0 < p) : genD (b * p) C (wTo p p' c' W b 0 0) = genD (b * p) C W :=
  genD_congr fun I hI J _ => if_pos (.inl ((Nat.div_lt_iff_lt_mul hp).2 hI))
theorem wTo_0 {R C p p' c' : Nat} {W : Mat} : genD R C (wTo p p' c' W 0 0 0) = genD R C fun _ _ => 0 := genD_congr fun I _ J _ => if_neg lx8

theorem wF_at {m : Int} {p p' c' i j v : Nat} {X Jn : Mat} (hp' : 0 < p') (hj : j < c') (hv : v < p * p') :
    wF m p p' c' X Jn (i * p + v / p') (v % p' * c' + j) = dotF m (fun q => X v q) (fun q => Jn (i * p + q / p') (q % p' * c' + j)) (p * p') := by
  have hu : v / p' < p := (Nat.div_lt_iff_lt_mul hp').2 hv
  unfold wF
  rw [idx_div hu, idx_mod hu, idx_div hj, idx_mod hj, show v / p' * p' + v % p' = v by rw [Nat.mul_comm]; exact Nat.div_add_mod v p']

theorem quoS {a b : Nat} (hb : 0 < b) (ha : a ≤ 1048576) : quoI .i64 (a : Int) (b : Int) = some ((a / b : Nat) : Int) := quoN hb ha

/-- What is given for a good operator. -/
theorem mat_nat {m : Int} {x : Int × Int × List Int} (h : matOk m x = true) : ∃ (r c : Nat) (d : List Int), x = ((r : Int), (c : Int), d) ∧ r ≤ 64 ∧ c ≤ 64 ∧ d.length = r * c ∧ allP m d := by
  obtain ⟨r, c, M, e, _, h1, h2, h3, h4, h5⟩ := matOk_red h
  exact ⟨r, c, genD r c M, e, h1, h2, genD_len _ _ _, allP_gen.2 h4⟩

theorem bond_sz {m : Int} {l out : List Site} {k : Nat} {s t : Site} (hk : chainOk (m, l) = true) (hs : s.2.2.2.length ≤ 8192) (ht : t.2.2.2.length ≤ 8192) : sz_Chain (m, (l.set k s).set (k + 1) t) ≤ 131072 := by
  have hl := (chainOk_t hk).2.1
  have F := fitC_of hk
  have hsite : ∀ e ∈ l, sz_Site e ≤ 8192 := fun e he => by
    obtain ⟨q, hq⟩ := List.mem_iff_getElem?.1 he
    have hql := lt_of_get hq
    obtain ⟨b, p, c, d, e1, h1, h2, h3, h4, _⟩ := site_nat (F.1 q hql)
    have e2 := getD_some site0 hql
    rw [hq] at e2
    injection e2 with e2
    rw [← e2] at e1
    subst e1
    show d.length ≤ _
    have q1 : b * p ≤ 32 * 8 := Nat.mul_le_mul h1 h3.2
    have q2 : b * p * c ≤ (32 * 8) * 32 := Nat.mul_le_mul q1 h2
    omega
  show ((l.set k s).set (k + 1) t).length + (((l.set k s).set (k + 1) t).map sz_Site).sum ≤ _
  have h := sum_le (f := sz_Site) (B := 8192) (l := (l.set k s).set (k + 1) t) fun e he => by
    rcases List.mem_or_eq_of_mem_set he with he | rfl
    · rcases List.mem_or_eq_of_mem_set he with he | rfl
      · exact hsite e he
      · exact hs
    · exact ht
  have hle : ((l.set k s).set (k + 1) t).length = l.length := by simp
  rw [hle] at h ⊢
  have : l.length * 8192 ≤ 8 * 8192 := Nat.mul_le_mul_right _ hl.2
  omega

/-- Both places, and what follows from the checks. -/
theorem bond_nat {m : Int} {l : List Site} {k : Nat} {x : Int × Int × List Int} (hc : chainOk (m, l) = true) (hk : k + 1 < l.length) (hx : matOk m x = true) (hb : bondOk m (l.getD k site0) (l.getD (k + 1) site0) x) :
    ∃ (b p c p' c' : Nat) (d d' xd : List Int), l[k]? = some ((b : Int), (p : Int), (c : Int), d) ∧ l[k + 1]? = some ((c : Int), (p' : Int), (c' : Int), d') ∧
      l.getD k site0 = ((b : Int), (p : Int), (c : Int), d) ∧ l.getD (k + 1) site0 = ((c : Int), (p' : Int), (c' : Int), d') ∧ x = (((p * p' : Nat) : Int), ((p * p' : Nat) : Int), xd) ∧
      b ≤ 32 ∧ c ≤ 32 ∧ c' ≤ 32 ∧ (1 ≤ p ∧ p ≤ 8) ∧ (1 ≤ p' ∧ p' ≤ 8) ∧ d.length = b * p * c ∧ d'.length = c * p' * c' ∧ allP m d ∧ allP m d' ∧ b * p ≤ 64 ∧ p' * c' ≤ 64 ∧ p * p' ≤ 64 ∧ xd.length = p * p' * (p * p') ∧ allP m xd := by
  obtain ⟨b, p, c, p', c', d, d', g1, g2, g3, g4, h1, h2, h3, h4, h5, h6, h7, h8, h9⟩ := fit_pair (fitC_of hc) hk
  obtain ⟨r, q, xd, rfl, r1, r2, r3, r4⟩ := mat_nat hx
  rw [g3, g4] at hb
  obtain ⟨q1, q2, q3, q4⟩ := hb
  simp only at q1 q2 q3 q4
  have e1 : ((p : Int) * (p' : Int)) = ((p * p' : Nat) : Int) := by norm_cast
  have e2 : ((b : Int) * (p : Int)) = ((b * p : Nat) : Int) := by norm_cast
  have e3 : ((p' : Int) * (c' : Int)) = ((p' * c' : Nat) : Int) := by norm_cast
  rw [e1] at q1 q2
  rw [e2] at q3
  rw [e3] at q4
  have hr : r = p * p' := by omega
  have hq : q = p * p' := by omega
  subst hr hq
  exact ⟨b, p, c, p', c', d, d', xd, g1, g2, g3, g4, rfl, h1, h2, h3, h4, h5, h6, h7, h8, h9, by omega, by omega, r1, r3, r4⟩

theorem bondT_sz {m : Int} {l : List Site} {k : Nat} (hm : pOk m) (hk : chainOk (m, l) = true) {b p c p' c' : Nat} {d d' W : List Int} (h1 : b * p ≤ 64) (h2 : p' * c' ≤ 64) (hl : W.length = b * p * (p' * c')) (hW : allP m W) :
    sz_Chain (m, bondT m l k ((b : Int), (p : Int), (c : Int), d) ((c : Int), (p' : Int), (c' : Int), d') W) ≤ 131072 := by
  obtain ⟨_, f1, f2, f3, f4, f5, f6⟩ := fac_facts hm hl hW
  have k1 : b * p * facK m (b * p) (p' * c') W ≤ 64 * 64 := Nat.mul_le_mul h1 (by omega)
  have k2 : facK m (b * p) (p' * c') W * (p' * c') ≤ 64 * 64 := Nat.mul_le_mul (by omega) h2
  simp only [bondT, Int.toNat_natCast]
  exact bond_sz (out := l) hk (by rw [f3]; omega) (by rw [f5]; omega)

theorem wF_in {m : Int} (hm : pOk m) (p p' c' : Nat) (X Jn : Mat) (I J : Nat) : inP m (wF m p p' c' X Jn I J) := dotF_in hm _ _ _

theorem f_impl_ApplyBond (x : (Int × List Site) × Int × Int × Int × List Int) (y : (Int × List Site) × Bool) (h : F_impl_ApplyBond x = some y) : G_impl_ApplyBond FUEL x = some y := by
  obtain ⟨⟨m, l⟩, k, x1, x2, xd⟩ := x
  simp only [F_impl_ApplyBond, F_spec_ApplyBond] at h
  split at h
  · rename_i hs
    obtain ⟨hs1, hs2⟩ := hs
    rw [← h]
    simp only [G_impl_ApplyBond, bondR]
    rw [show F_impl_ChainOk (m, l) = some (chainOk (m, l)) from if_pos hs1, bnd_s]
    cases hc : chainOk (m, l) with
    | false => rw [cnd_t (by rfl), if_neg (by simp)]
    | true =>
      rw [cnd_f (by rfl)]
      obtain ⟨hm, hl, _⟩ := chainOk_t hc
      have hpr : isPrimeI m = true := by have := hc; simp only [chainOk, Bool.and_eq_true] at this; exact this.1
      by_cases k0 : k < 0
      · rw [cnd_t (ltI_t k0), if_neg (fun h => by have := h.2.1; omega)]
      rw [cnd_f (ltI_f (by omega)), nl, subI_eq (by omega) (by omega)]
      by_cases k1 : (l.length : Int) - 1 ≤ k
      · rw [cnd_t (leI_t k1), if_neg (fun h => by have := h.2.1; omega)]
      rw [cnd_f (leI_f (by omega)), show F_impl_MatrixOk (m, x1, x2, xd) = some (matOk m (x1, x2, xd)) from if_pos hs2, bnd_s]
      cases hx : matOk m (x1, x2, xd) with
      | false => rw [cnd_t (by rfl), if_neg (by simp)]
      | true =>
      rw [cnd_f (by rfl), if_pos ⟨rfl, ⟨by omega, by omega⟩, rfl⟩]
      obtain ⟨k, rfl⟩ := natI_eq (show 0 ≤ k by omega)
      have hk : k + 1 < l.length := by omega
      simp only [Int.toNat_natCast]
      obtain ⟨b, p, c, p', c', d, d', g1, g2, g3, g4, h1, h2, h3, h4, h5, h6, h7, h8, h9⟩ := fit_pair (fitC_of hc) hk
      rw [getI_nat, g1, bnd_s]
      simp only
      rw [addN1 (by omega), getI_nat, g2, bnd_s]
      simp only
      rw [mulN (by omega) (by omega), mulN (by omega) (by omega), mulN (by omega) (by omega)]
      have e1 : ((p : Int) * (p' : Int)) = ((p * p' : Nat) : Int) := by norm_cast
      have e2 : ((b : Int) * (p : Int)) = ((b * p : Nat) : Int) := by norm_cast
      have e3 : ((p' : Int) * (c' : Int)) = ((p' * c' : Nat) : Int) := by norm_cast
      have hbo : bondOk m (l.getD k site0) (l.getD (k + 1) site0) (x1, x2, xd) ↔ x1 = ((p * p' : Nat) : Int) ∧ x2 = ((p * p' : Nat) : Int) ∧ b * p ≤ 64 ∧ p' * c' ≤ 64 := by
        rw [g3, g4]
        simp only [bondOk, e1, e2, e3]
        constructor <;> (rintro ⟨a1, a2, a3, a4⟩; exact ⟨a1, a2, by omega, by omega⟩)
      by_cases q1 : x1 = ((p * p' : Nat) : Int)
      rotate_left
      · rw [cnd_t (neI_t q1), if_neg (fun h => q1 (hbo.1 h).1)]
      rw [cnd_f (neI_f q1)]
      by_cases q2 : x2 = ((p * p' : Nat) : Int)
      rotate_left
      · rw [cnd_t (neI_t q2), if_neg (fun h => q2 (hbo.1 h).2.1)]
      rw [cnd_f (neI_f q2)]
      by_cases q3 : b * p ≤ 64
      rotate_left
      · rw [cnd_t (ltI_t (by omega)), if_neg (fun h => q3 (hbo.1 h).2.2.1)]
      rw [cnd_f (ltI_f (by omega))]
      by_cases q4 : p' * c' ≤ 64
      rotate_left
      · rw [cnd_t (ltI_t (by omega)), if_neg (fun h => q4 (hbo.1 h).2.2.2)]
      rw [cnd_f (ltI_f (by omega))]
      have hb := hbo.2 ⟨q1, q2, q3, q4⟩
      rw [if_pos hb]
      obtain ⟨b_, p_, c_, p'_, c'_, d_, d'_, xd_, _, _, z3, z4, z5, _, _, _, _, _, _, _, _, _, _, _, hD, hxl, hxd⟩ := bond_nat hc hk hx hb
      rw [g3] at z3
      rw [g4] at z4
      have ep : p_ = p := by injection z3 with _ z; injection z with z _; omega
      have ep' : p'_ = p' := by injection z4 with _ z; injection z with z _; omega
      subst ep ep'
      have ex : xd_ = xd := by injection z5 with _ z; injection z with _ z; exact z.symm
      subst ex
      subst q1 q2
      rw [g3, g4]
      have hd' : d'.length = c * (p'_ * c') := by rw [h7, Nat.mul_assoc]
      have s1 : b * p_ * c ≤ 64 * 32 := Nat.mul_le_mul q3 h2
      have s2 : c * (p'_ * c') ≤ 32 * 64 := Nat.mul_le_mul h2 q4
      have s3 : b * p_ * (p'_ * c') ≤ 64 * 64 := Nat.mul_le_mul q3 q4
      have s4 : p_ * p'_ * (p_ * p'_) ≤ 64 * 64 := Nat.mul_le_mul hD hD
      rw [show F_impl_rawMulMatrix (m, (((b * p_ : Nat) : Int), (c : Int), d), ((c : Int), ((p'_ * c' : Nat) : Int), d')) = _ from mulD_spec hm (by omega) (by omega) (by omega) (by omega) (by omega) (by omega) h6 hd' h8 h9, bnd_s]
      simp only
      rw [newI_nat (by omega) (by omega) (by omega), bnd_s]
      simp only
      rw [show fulI 0 0 (lenN ([] : List (Int × (Int × (Int × (List Int)))))) = some () from rfl]
      simp only [bnd_s, fulI_id]
      have hXg := genD_of hxl
      generalize hX : ofD (p_ * p'_) xd_ = X at *
      have hXin : inM m (p_ * p'_) (p_ * p'_) X := by rw [← allP_gen, hXg]; exact hxd
      have hJn : mulD m (b * p_) c (p'_ * c') d d' = genD (b * p_) (p'_ * c') (mulF m c (ofD c d) (ofD (p'_ * c') d')) := rfl
      generalize hJ : mulF m c (ofD c d) (ofD (p'_ * c') d') = Jn at *
      have hJin : ∀ I J, inP m (Jn I J) := fun I J => by rw [← hJ]; exact dotF_in hm _ _ _
      rw [hJn]
      have hRd : ∀ I, I < b * p_ → I / p_ * p_ + I % p_ = I := fun I _ => by rw [Nat.mul_comm]; exact Nat.div_add_mod I p_
      generalize hW : wF m p_ p'_ c' X Jn = W
      rw [← hXg]
      rw [loopT_seq (fun i => (((k : Int), (i : Int)), (m, l), (((p_ * p'_ : Nat) : Int), ((p_ * p'_ : Nat) : Int), genD (p_ * p'_) (p_ * p'_) X), (0 : Int), ((b : Int), (p_ : Int), (c : Int), d), ((c : Int), (p'_ : Int), (c' : Int), d'), (((b * p_ : Nat) : Int), ((p'_ * c' : Nat) : Int)), (((b * p_ : Nat) : Int), ((p'_ * c' : Nat) : Int)), ([] : List Site), genD (b * p_) (p'_ * c') Jn, genD (b * p_) (p'_ * c') (wTo p_ p'_ c' W i 0 0)))
        (r := Sum.inl ((k : Int), (m, l), (0 : Int), ((b : Int), (p_ : Int), (c : Int), d), ((c : Int), (p'_ : Int), (c' : Int), d'), (((b * p_ : Nat) : Int), ((p'_ * c' : Nat) : Int)), ([] : List Site), genD (b * p_) (p'_ * c') W)) b ?_ ?_ ?_ (FUEL_gt (by omega))]
      · rw [joinK_l]
        simp only [winI_id, bnd_s]
        have hWl : (genD (b * p_) (p'_ * c') W).length = b * p_ * (p'_ * c') := genD_len _ _ _
        have hWin : allP m (genD (b * p_) (p'_ * c') W) := allP_gen.2 fun I _ J _ => by rw [← hW]; exact wF_in hm _ _ _ _ _ _ _
        rw [fac_impl hpr (by omega) (by omega) hWl hWin, bnd_s, if_pos q3]
        simp only
        rw [cnd_f (by rfl), show F_impl_copyChain (m, l) = some (m, l) from if_pos hs1, bnd_s]
        simp only
        rw [chkI_nat (by show k < l.length; omega)]
        simp only [bnd_s, addN_0]
        rw [show getN l k = _ from g1]
        simp only [bnd_s, takI_id]
        rw [addN1 (by omega), chkI_nat (by show k + 1 < l.length; omega)]
        simp only [bnd_s, addN_0]
        rw [getN_set_ne (by omega), show getN l (k + 1) = _ from g2]
        simp only [bnd_s, takI_id]
        have hTe : bondT m l k ((b : Int), (p_ : Int), (c : Int), d) ((c : Int), (p'_ : Int), (c' : Int), d') (bondD m ((b : Int), (p_ : Int), (c : Int), d) ((c : Int), (p'_ : Int), (c' : Int), d') (genD (p_ * p'_) (p_ * p'_) X)) =
            setL (setL l k ((b : Int), (p_ : Int), (facK m (b * p_) (p'_ * c') (genD (b * p_) (p'_ * c') W) : Int), facA m (b * p_) (p'_ * c') (genD (b * p_) (p'_ * c') W))) (k + 1) ((facK m (b * p_) (p'_ * c') (genD (b * p_) (p'_ * c') W) : Int), (p'_ : Int), (c' : Int), facB m (b * p_) (p'_ * c') (genD (b * p_) (p'_ * c') W)) := by
          have eB : bondD m ((b : Int), (p_ : Int), (c : Int), d) ((c : Int), (p'_ : Int), (c' : Int), d') (genD (p_ * p'_) (p_ * p'_) X) = genD (b * p_) (p'_ * c') W := by
            simp only [bondD, Int.toNat_natCast]
            rw [hXg, hX, hJ, hW]
          simp only [bondT, Int.toNat_natCast, eB]
          rfl
        rw [← hTe]
        have hsz : sz_Chain (m, bondT m l k ((b : Int), (p_ : Int), (c : Int), d) ((c : Int), (p'_ : Int), (c' : Int), d') (bondD m ((b : Int), (p_ : Int), (c : Int), d) ((c : Int), (p'_ : Int), (c' : Int), d') (genD (p_ * p'_) (p_ * p'_) X))) ≤ 131072 := by
          refine bondT_sz hm hc q3 q4 ?_ ?_
          · simp only [bondD, Int.toNat_natCast, genD_len]
          · simp only [bondD, Int.toNat_natCast]
            exact allP_gen.2 fun I _ J _ => wF_in hm _ _ _ _ _ _ _
        have hle : lenN l = lenN (bondT m l k ((b : Int), (p_ : Int), (c : Int), d) ((c : Int), (p'_ : Int), (c' : Int), d') (bondD m ((b : Int), (p_ : Int), (c : Int), d) ((c : Int), (p'_ : Int), (c' : Int), d') (genD (p_ * p'_) (p_ * p'_) X))) := by
          simp [bondT, lenN]
        rw [hle]
        generalize bondT m l k ((b : Int), (p_ : Int), (c : Int), d) ((c : Int), (p'_ : Int), (c' : Int), d') (bondD m ((b : Int), (p_ : Int), (c : Int), d) ((c : Int), (p'_ : Int), (c' : Int), d') (genD (p_ * p'_) (p_ * p'_) X)) = out at *
        simp only [winI_id, bnd_s]
        rw [show F_impl_ChainOk (m, out) = some (chainOk (m, out)) from if_pos (by omega), bnd_s, bondR2]
        cases chainOk (m, out) with
        | false => rfl
        | true =>
          rw [cnd_f (by rfl), if_pos rfl]
          simp only [takI_id, bnd_s]
      · intro i hi
        simp only
        rw [cnd_t (ltN_t hi)]
        rw [loopT_seq (fun j => (((k : Int), (i : Int), (j : Int)), (m, l), (((p_ * p'_ : Nat) : Int), ((p_ * p'_ : Nat) : Int), genD (p_ * p'_) (p_ * p'_) X), (0 : Int), ((b : Int), (p_ : Int), (c : Int), d), ((c : Int), (p'_ : Int), (c' : Int), d'), (((b * p_ : Nat) : Int), ((p'_ * c' : Nat) : Int)), (((b * p_ : Nat) : Int), ((p'_ * c' : Nat) : Int)), ([] : List Site), genD (b * p_) (p'_ * c') Jn, genD (b * p_) (p'_ * c') (wTo p_ p'_ c' W i j 0)))
          (r := Sum.inl (((i : Int), (k : Int)), (m, l), (((p_ * p'_ : Nat) : Int), ((p_ * p'_ : Nat) : Int), genD (p_ * p'_) (p_ * p'_) X), (0 : Int), ((b : Int), (p_ : Int), (c : Int), d), ((c : Int), (p'_ : Int), (c' : Int), d'), (((b * p_ : Nat) : Int), ((p'_ * c' : Nat) : Int)), (((b * p_ : Nat) : Int), ((p'_ * c' : Nat) : Int)), ([] : List Site), genD (b * p_) (p'_ * c') Jn, genD (b * p_) (p'_ * c') (wTo p_ p'_ c' W (i + 1) 0 0))) c' ?_ ?_ ?_ (FUEL_gt (by omega))]
        · rw [joinK_l]
          simp only [fulI_id, bnd_s, addN1 (show i ≤ 1048577 by omega)]
        · intro j hj
          simp only
          rw [cnd_t (ltN_t hj)]
          rw [loopT_seq (fun v => (((k : Int), (i : Int), (j : Int), (v : Int)), (m, l), (((p_ * p'_ : Nat) : Int), ((p_ * p'_ : Nat) : Int), genD (p_ * p'_) (p_ * p'_) X), (0 : Int), ((b : Int), (p_ : Int), (c : Int), d), ((c : Int), (p'_ : Int), (c' : Int), d'), (((b * p_ : Nat) : Int), ((p'_ * c' : Nat) : Int)), (((b * p_ : Nat) : Int), ((p'_ * c' : Nat) : Int)), ([] : List Site), genD (b * p_) (p'_ * c') Jn, genD (b * p_) (p'_ * c') (wTo p_ p'_ c' W i j v)))
            (r := Sum.inl (((j : Int), (k : Int), (i : Int)), (m, l), (((p_ * p'_ : Nat) : Int), ((p_ * p'_ : Nat) : Int), genD (p_ * p'_) (p_ * p'_) X), (0 : Int), ((b : Int), (p_ : Int), (c : Int), d), ((c : Int), (p'_ : Int), (c' : Int), d'), (((b * p_ : Nat) : Int), ((p'_ * c' : Nat) : Int)), (((b * p_ : Nat) : Int), ((p'_ * c' : Nat) : Int)), ([] : List Site), genD (b * p_) (p'_ * c') Jn, genD (b * p_) (p'_ * c') (wTo p_ p'_ c' W i (j + 1) 0))) (p_ * p'_) ?_ ?_ ?_ (FUEL_gt (by omega))]
          · rw [joinK_l]
            simp only [fulI_id, bnd_s, addN1 (show j ≤ 1048577 by omega)]
          · intro v hv
            have hvx : v % p'_ < p'_ := Nat.mod_lt _ (by omega)
            have hvu : v / p'_ < p_ := (Nat.div_lt_iff_lt_mul (by omega)).2 hv
            have hI := idx_lt hi hvu
            have hJJ := idx_lt hvx hj
            simp only
            rw [cnd_t (ltN_t hv)]
            rw [loopT_seq (fun q => (((k : Int), (i : Int), (j : Int), (v : Int), dotF m (fun q => X v q) (fun q => Jn (i * p_ + q / p'_) (q % p'_ * c' + j)) q, (q : Int)), (m, l), (((p_ * p'_ : Nat) : Int), ((p_ * p'_ : Nat) : Int), genD (p_ * p'_) (p_ * p'_) X), (0 : Int), ((b : Int), (p_ : Int), (c : Int), d), ((c : Int), (p'_ : Int), (c' : Int), d'), (((b * p_ : Nat) : Int), ((p'_ * c' : Nat) : Int)), (((b * p_ : Nat) : Int), ((p'_ * c' : Nat) : Int)), ([] : List Site), genD (b * p_) (p'_ * c') Jn, genD (b * p_) (p'_ * c') (wTo p_ p'_ c' W i j v)))
              (r := Sum.inl ((W (i * p_ + v / p'_) (v % p'_ * c' + j), (v : Int), (k : Int), (i : Int), (j : Int)), (m, l), (((p_ * p'_ : Nat) : Int), ((p_ * p'_ : Nat) : Int), genD (p_ * p'_) (p_ * p'_) X), (0 : Int), ((b : Int), (p_ : Int), (c : Int), d), ((c : Int), (p'_ : Int), (c' : Int), d'), (((b * p_ : Nat) : Int), ((p'_ * c' : Nat) : Int)), (((b * p_ : Nat) : Int), ((p'_ * c' : Nat) : Int)), ([] : List Site), genD (b * p_) (p'_ * c') Jn, genD (b * p_) (p'_ * c') (wTo p_ p'_ c' W i j v))) (p_ * p'_) ?_ ?_ ?_ (FUEL_gt (by omega))]
            · rw [joinK_l]
              simp only
              rw [quoS (by omega) (by omega), bnd_s, remNN (by omega), bnd_s]
              try simp only [fulI_id, bnd_s]
              rw [idxI (by omega) (by omega) (by omega), idxI (by omega) (by omega) (by omega), set_nat (by omega) (by omega) (by omega) hI hJJ, bnd_s]
              rw [wTo_set hRd (by omega) (by omega) hj hv rfl]
              simp only [fulI_gen, bnd_s]
              rw [joinK_l]
              simp only [addN1 (show v ≤ 1048577 by omega)]
            · intro q hq
              have hqx : q % p'_ < p'_ := Nat.mod_lt _ (by omega)
              have hqu : q / p'_ < p_ := (Nat.div_lt_iff_lt_mul (by omega)).2 hq
              simp only
              rw [cnd_t (ltN_t hq), at_nat (by omega) (by omega) (by omega) hv hq, bnd_s, quoS (by omega) (by omega), bnd_s, remNN (by omega), bnd_s]
              simp only [winI_id, bnd_s]
              rw [idxI (by omega) (by omega) (by omega), idxI (by omega) (by omega) (by omega), at_nat (by omega) (by omega) (by omega) (idx_lt hi hqu) (idx_lt hqx hj), bnd_s, macI hm ((dotF_in hm _ _ q).s hm) (hXin v hv q hq).le (hJin _ _).le, bnd_s]
              simp only [fulI_id, bnd_s, addN1 (show q ≤ 1048577 by omega), dotF]
            · simp only
              rw [cnd_f (ltN_f (Nat.le_refl _)), ← hW, wF_at (by omega) hj hv]
              try simp only [fulI_id, bnd_s]
            · rfl
          · simp only
            rw [cnd_f (ltN_f (Nat.le_refl _)), wTo_row (by omega) (by omega) rfl]
            try simp only [fulI_id, bnd_s]
          · rfl
        · simp only
          rw [cnd_f (ltN_f (Nat.le_refl _)), wTo_blk (by rcases Nat.eq_zero_or_pos c' with h | h; exact .inr (by rw [h]; simp); exact .inl h)]
          try simp only [fulI_id, bnd_s]
        · rfl
      · simp only
        rw [cnd_f (ltN_f (Nat.le_refl _)), wTo_end (by omega)]
        try simp only [fulI_id, bnd_s]
      · rw [wTo_0]; rfl
  · cases h

theorem genDc1 (n : Nat) (f : Nat → Int) : (genD n 1 fun q _ => f q) = rowL n f := by
  unfold genD rowL
  rw [Nat.mul_one]
  exact List.map_congr_left fun q _ => by rw [Nat.div_one]
def rowTo (f : Nat → Int) (k : Nat) : Nat → Int := fun q => if q < k then f q else 0
theorem rowTo_0 (n : Nat) (f : Nat → Int) : rowL n (rowTo f 0) = rowL n fun _ => 0 := rowL_congr fun q _ => by simp [rowTo]
theorem rowTo_end (n : Nat) (f : Nat → Int) : rowL n (rowTo f n) = rowL n f := rowL_congr fun q hq => by simp [rowTo, hq]
theorem rowTo_set {n k : Nat} (f : Nat → Int) : setL (rowL n (rowTo f k)) k (f k) = rowL n (rowTo f (k + 1)) := by
  rw [rowL_set]
  refine rowL_congr fun q _ => ?_
  unfold rowTo
  by_cases e : q = k
  · subst e; simp
  · by_cases h : q < k
    · rw [if_neg e, if_pos h, if_pos (by omega)]
    · rw [if_neg e, if_neg h, if_neg (by omega)]
theorem idx3 {I C x c' j : Nat} (h1 : I ≤ 4096) (h2 : C ≤ 4096) (h3 : x ≤ 4096) (h4 : c' ≤ 4096) (h5 : j ≤ 4096) : addI .i64 (addI .i64 (mulI .i64 (I : Int) (C : Int)) (mulI .i64 (x : Int) (c' : Int))) (j : Int) = ((I * C + (x * c' + j) : Nat) : Int) := by
  have q1 : I * C ≤ 4096 * 4096 := Nat.mul_le_mul h1 h2
  have q2 : x * c' ≤ 4096 * 4096 := Nat.mul_le_mul h3 h4
  rw [mulN (by omega) (by omega), mulN (by omega) (by omega), addI_eq (a := ((I * C : Nat) : Int)) (by omega) (by omega), addI_eq (by omega) (by omega)]
  omega
theorem dotF_congr {p : Int} {f g f' g' : Nat → Int} : ∀ {n : Nat}, (∀ q, q < n → f q = f' q ∧ g q = g' q) → dotF p f g n = dotF p f' g' n
  | 0, _ => rfl
  | n + 1, h => by
    rw [dotF, dotF, dotF_congr (n := n) fun q hq => h q (by omega), (h n (by omega)).1, (h n (by omega)).2]

theorem f_spec_ApplyBond (x : (Int × List Site) × Int × Int × Int × List Int) (y : (Int × List Site) × Bool) (h : F_spec_ApplyBond x = some y) : G_spec_ApplyBond FUEL x = some y := by
  obtain ⟨⟨m, l⟩, k, x1, x2, xd⟩ := x
  simp only [F_spec_ApplyBond] at h
  split at h
  · rename_i hs
    obtain ⟨hs1, hs2⟩ := hs
    rw [← h]
    simp only [G_spec_ApplyBond, bondR]
    rw [show F_spec_ChainOk (m, l) = some (chainOk (m, l)) from if_pos hs1, bnd_s]
    cases hc : chainOk (m, l) with
    | false => rw [cnd_t (by rfl), if_neg (by simp)]
    | true =>
      rw [cnd_f (by rfl)]
      obtain ⟨hm, hl, _⟩ := chainOk_t hc
      have hpr : isPrimeI m = true := by have := hc; simp only [chainOk, Bool.and_eq_true] at this; exact this.1
      rw [F_spec_l01In, bnd_s, nl, subI_eq (by omega) (by omega)]
      by_cases k0 : 0 ≤ k ∧ k ≤ (l.length : Int) - 2
      rotate_left
      · rw [cnd_t (notB_d k0), if_neg (fun h => by have := h.2.1; omega)]
      rw [cnd_f (notB_p k0), show F_spec_MatrixOk (m, x1, x2, xd) = some (matOk m (x1, x2, xd)) from if_pos hs2, bnd_s]
      cases hx : matOk m (x1, x2, xd) with
      | false => rw [cnd_t (by rfl), if_neg (by simp)]
      | true =>
      rw [cnd_f (by rfl), if_pos ⟨rfl, ⟨by omega, by omega⟩, rfl⟩]
      obtain ⟨k, rfl⟩ := natI_eq (show 0 ≤ k by omega)
      have hk : k + 1 < l.length := by omega
      simp only [Int.toNat_natCast]
      obtain ⟨b, p, c, p', c', d, d', g1, g2, g3, g4, h1, h2, h3, h4, h5, h6, h7, h8, h9⟩ := fit_pair (fitC_of hc) hk
      rw [getI_nat, g1, bnd_s]
      simp only
      rw [addN1 (by omega), getI_nat, g2, bnd_s]
      simp only
      rw [mulN (by omega) (by omega), mulN (by omega) (by omega), mulN (by omega) (by omega)]
      have e1 : ((p : Int) * (p' : Int)) = ((p * p' : Nat) : Int) := by norm_cast
      have e2 : ((b : Int) * (p : Int)) = ((b * p : Nat) : Int) := by norm_cast
      have e3 : ((p' : Int) * (c' : Int)) = ((p' * c' : Nat) : Int) := by norm_cast
      have hbo : bondOk m (l.getD k site0) (l.getD (k + 1) site0) (x1, x2, xd) ↔ x1 = ((p * p' : Nat) : Int) ∧ x2 = ((p * p' : Nat) : Int) ∧ b * p ≤ 64 ∧ p' * c' ≤ 64 := by
        rw [g3, g4]
        simp only [bondOk, e1, e2, e3]
        constructor <;> (rintro ⟨a1, a2, a3, a4⟩; exact ⟨a1, a2, by omega, by omega⟩)
      by_cases q1 : x1 = ((p * p' : Nat) : Int)
      rotate_left
      · rw [cnd_t (neI_t q1), if_neg (fun h => q1 (hbo.1 h).1)]
      rw [cnd_f (neI_f q1)]
      by_cases q2 : x2 = ((p * p' : Nat) : Int)
      rotate_left
      · rw [cnd_t (neI_t q2), if_neg (fun h => q2 (hbo.1 h).2.1)]
      rw [cnd_f (neI_f q2)]
      by_cases q3 : b * p ≤ 64
      rotate_left
      · rw [cnd_t (ltI_t (by omega)), if_neg (fun h => q3 (hbo.1 h).2.2.1)]
      rw [cnd_f (ltI_f (by omega))]
      by_cases q4 : p' * c' ≤ 64
      rotate_left
      · rw [cnd_t (ltI_t (by omega)), if_neg (fun h => q4 (hbo.1 h).2.2.2)]
      rw [cnd_f (ltI_f (by omega))]
      have hb := hbo.2 ⟨q1, q2, q3, q4⟩
      rw [if_pos hb]
      obtain ⟨b_, p_, c_, p'_, c'_, d_, d'_, xd_, _, _, z3, z4, z5, _, _, _, _, _, _, _, _, _, _, _, hD, hxl, hxd⟩ := bond_nat hc hk hx hb
      rw [g3] at z3
      rw [g4] at z4
      have ep : p_ = p := by injection z3 with _ z; injection z with z _; omega
      have ep' : p'_ = p' := by injection z4 with _ z; injection z with z _; omega
      subst ep ep'
      have ex : xd_ = xd := by injection z5 with _ z; injection z with _ z; exact z.symm
      subst ex
      subst q1 q2
      rw [g3, g4]
      have hd' : d'.length = c * (p'_ * c') := by rw [h7, Nat.mul_assoc]
      have s1 : b * p_ * c ≤ 64 * 32 := Nat.mul_le_mul q3 h2
      have s2 : c * (p'_ * c') ≤ 32 * 64 := Nat.mul_le_mul h2 q4
      have s3 : b * p_ * (p'_ * c') ≤ 64 * 64 := Nat.mul_le_mul q3 q4
      have s4 : p_ * p'_ * (p_ * p'_) ≤ 64 * 64 := Nat.mul_le_mul hD hD
      have s5 : c * p'_ ≤ 32 * 8 := Nat.mul_le_mul h2 h5.2
      rw [new_nat (by omega) (by omega) (by omega), bnd_s]
      simp only
      rw [show fulI 0 0 (lenN ([] : List (Int × (Int × (Int × (List Int)))))) = some () from rfl]
      simp only [bnd_s, fulI_id]
      have hXg := genD_of hxl
      generalize hX : ofD (p_ * p'_) xd_ = X at *
      have hXin : inM m (p_ * p'_) (p_ * p'_) X := by rw [← allP_gen, hXg]; exact hxd
      have hJn : mulD m (b * p_) c (p'_ * c') d d' = genD (b * p_) (p'_ * c') (mulF m c (ofD c d) (ofD (p'_ * c') d')) := rfl
      generalize hJ : mulF m c (ofD c d) (ofD (p'_ * c') d') = Jn at *
      have hJin : ∀ I J, inP m (Jn I J) := fun I J => by rw [← hJ]; exact dotF_in hm _ _ _
      have hRd : ∀ I, I < b * p_ → I / p_ * p_ + I % p_ = I := fun I _ => by rw [Nat.mul_comm]; exact Nat.div_add_mod I p_
      generalize hW : wF m p_ p'_ c' X Jn = W
      have hS : genD (b * p_) c (ofD c d) = d := genD_of h6
      have hT : genD (c * p'_) c' (ofD c' d') = d' := genD_of h7
      have hSin : inM m (b * p_) c (ofD c d) := allP_ofD h6 h8
      have hTin : inM m (c * p'_) c' (ofD c' d') := allP_ofD h7 h9
      rw [← hXg]
      rw [loopT_seq (fun i => (((k : Int), ((p_ * p'_ : Nat) : Int), (i : Int)), (m, l), (((p_ * p'_ : Nat) : Int), ((p_ * p'_ : Nat) : Int), genD (p_ * p'_) (p_ * p'_) X), (0 : Int), ((b : Int), (p_ : Int), (c : Int), d), ((c : Int), (p'_ : Int), (c' : Int), d'), (((b * p_ : Nat) : Int), ((p'_ * c' : Nat) : Int)), ([] : List Site), genD (b * p_) (p'_ * c') (wTo p_ p'_ c' W i 0 0)))
        (r := Sum.inl ((k : Int), (m, l), (0 : Int), ((b : Int), (p_ : Int), (c : Int), d), ((c : Int), (p'_ : Int), (c' : Int), d'), (((b * p_ : Nat) : Int), ((p'_ * c' : Nat) : Int)), ([] : List Site), genD (b * p_) (p'_ * c') W)) b ?_ ?_ ?_ (FUEL_gt (by omega))]
      · rw [joinK_l]
        simp only [winI_id, bnd_s]
        have hWl : (genD (b * p_) (p'_ * c') W).length = b * p_ * (p'_ * c') := genD_len _ _ _
        have hWin : allP m (genD (b * p_) (p'_ * c') W) := allP_gen.2 fun I _ J _ => by rw [← hW]; exact wF_in hm _ _ _ _ _ _ _
        rw [fac_spec hm (by omega) (by omega) (by omega) hWl hWin, bnd_s]
        simp only
        rw [show F_spec_l32Copy (m, l) = some (m, l) from if_pos hs1, bnd_s]
        simp only
        rw [chkI_nat (by show k < l.length; omega)]
        simp only [bnd_s, addN_0]
        rw [show getN l k = _ from g1]
        simp only [bnd_s, takI_id]
        rw [addN1 (by omega), chkI_nat (by show k + 1 < l.length; omega)]
        simp only [bnd_s, addN_0]
        rw [getN_set_ne (by omega), show getN l (k + 1) = _ from g2]
        simp only [bnd_s, takI_id]
        have hTe : bondT m l k ((b : Int), (p_ : Int), (c : Int), d) ((c : Int), (p'_ : Int), (c' : Int), d') (bondD m ((b : Int), (p_ : Int), (c : Int), d) ((c : Int), (p'_ : Int), (c' : Int), d') (genD (p_ * p'_) (p_ * p'_) X)) =
            setL (setL l k ((b : Int), (p_ : Int), (facK m (b * p_) (p'_ * c') (genD (b * p_) (p'_ * c') W) : Int), facA m (b * p_) (p'_ * c') (genD (b * p_) (p'_ * c') W))) (k + 1) ((facK m (b * p_) (p'_ * c') (genD (b * p_) (p'_ * c') W) : Int), (p'_ : Int), (c' : Int), facB m (b * p_) (p'_ * c') (genD (b * p_) (p'_ * c') W)) := by
          have eB : bondD m ((b : Int), (p_ : Int), (c : Int), d) ((c : Int), (p'_ : Int), (c' : Int), d') (genD (p_ * p'_) (p_ * p'_) X) = genD (b * p_) (p'_ * c') W := by
            simp only [bondD, Int.toNat_natCast]
            rw [hXg, hX, hJ, hW]
          simp only [bondT, Int.toNat_natCast, eB]
          rfl
        rw [← hTe]
        have hsz : sz_Chain (m, bondT m l k ((b : Int), (p_ : Int), (c : Int), d) ((c : Int), (p'_ : Int), (c' : Int), d') (bondD m ((b : Int), (p_ : Int), (c : Int), d) ((c : Int), (p'_ : Int), (c' : Int), d') (genD (p_ * p'_) (p_ * p'_) X))) ≤ 131072 := by
          refine bondT_sz hm hc q3 q4 ?_ ?_
          · simp only [bondD, Int.toNat_natCast, genD_len]
          · simp only [bondD, Int.toNat_natCast]
            exact allP_gen.2 fun I _ J _ => wF_in hm _ _ _ _ _ _ _
        have hle : lenN l = lenN (bondT m l k ((b : Int), (p_ : Int), (c : Int), d) ((c : Int), (p'_ : Int), (c' : Int), d') (bondD m ((b : Int), (p_ : Int), (c : Int), d) ((c : Int), (p'_ : Int), (c' : Int), d') (genD (p_ * p'_) (p_ * p'_) X))) := by
          simp [bondT, lenN]
        rw [hle]
        generalize bondT m l k ((b : Int), (p_ : Int), (c : Int), d) ((c : Int), (p'_ : Int), (c' : Int), d') (bondD m ((b : Int), (p_ : Int), (c : Int), d) ((c : Int), (p'_ : Int), (c' : Int), d') (genD (p_ * p'_) (p_ * p'_) X)) = out at *
        simp only [winI_id, bnd_s]
        rw [show F_spec_ChainOk (m, out) = some (chainOk (m, out)) from if_pos (by omega), bnd_s, bondR2]
        cases chainOk (m, out) with
        | false => rfl
        | true =>
          rw [cnd_f (by rfl), if_pos rfl]
          simp only [takI_id, bnd_s]
      · intro i hi
        simp only
        rw [cnd_t (ltN_t hi)]
        rw [loopT_seq (fun j => (((k : Int), ((p_ * p'_ : Nat) : Int), (i : Int), (j : Int)), (m, l), (((p_ * p'_ : Nat) : Int), ((p_ * p'_ : Nat) : Int), genD (p_ * p'_) (p_ * p'_) X), (0 : Int), ((b : Int), (p_ : Int), (c : Int), d), ((c : Int), (p'_ : Int), (c' : Int), d'), (((b * p_ : Nat) : Int), ((p'_ * c' : Nat) : Int)), ([] : List Site), genD (b * p_) (p'_ * c') (wTo p_ p'_ c' W i j 0)))
          (r := Sum.inl (((i : Int), (k : Int), ((p_ * p'_ : Nat) : Int)), (m, l), (((p_ * p'_ : Nat) : Int), ((p_ * p'_ : Nat) : Int), genD (p_ * p'_) (p_ * p'_) X), (0 : Int), ((b : Int), (p_ : Int), (c : Int), d), ((c : Int), (p'_ : Int), (c' : Int), d'), (((b * p_ : Nat) : Int), ((p'_ * c' : Nat) : Int)), ([] : List Site), genD (b * p_) (p'_ * c') (wTo p_ p'_ c' W (i + 1) 0 0))) c' ?_ ?_ ?_ (FUEL_gt (by omega))]
        · rw [joinK_l]
          simp only [fulI_id, bnd_s, addN1 (show i ≤ 1048577 by omega)]
        · intro j hj
          simp only
          rw [cnd_t (ltN_t hj), show F_spec_l31New (((p_ * p'_ : Nat) : Int), (1 : Int)) = _ from new_nat (r := p_ * p'_) (c := 1) (by omega) (by omega) (by omega), bnd_s]
          try simp only [fulI_id, bnd_s]
          generalize hV : (fun q => dotF m (fun t => ofD c d (i * p_ + q / p'_) t) (fun t => ofD c' d' (t * p'_ + q % p'_) j) c : Nat → Int) = V
          have hVin : ∀ q, inP m (V q) := fun q => by rw [← hV]; exact dotF_in hm _ _ _
          have hVJ : ∀ q, q < p_ * p'_ → V q = Jn (i * p_ + q / p'_) (q % p'_ * c' + j) := fun q _ => by
            rw [← hV, ← hJ]
            show dotF m _ _ c = dotF m _ _ c
            congr 1
            funext t
            show d'.getD _ 0 = d'.getD _ 0
            congr 1
            rw [Nat.add_mul, Nat.mul_assoc]
            omega
          rw [loopT_seq (fun u => (((k : Int), ((p_ * p'_ : Nat) : Int), (i : Int), (j : Int), (u : Int)), (m, l), (((p_ * p'_ : Nat) : Int), ((p_ * p'_ : Nat) : Int), genD (p_ * p'_) (p_ * p'_) X), (0 : Int), ((b : Int), (p_ : Int), (c : Int), d), ((c : Int), (p'_ : Int), (c' : Int), d'), (((b * p_ : Nat) : Int), ((p'_ * c' : Nat) : Int)), (((p_ * p'_ : Nat) : Int), (1 : Int)), ([] : List Site), genD (b * p_) (p'_ * c') (wTo p_ p'_ c' W i j 0), rowL (p_ * p'_) (rowTo V (u * p'_))))
            (r := Sum.inl (((i : Int), ((p_ * p'_ : Nat) : Int), (k : Int), (j : Int)), (m, l), (((p_ * p'_ : Nat) : Int), ((p_ * p'_ : Nat) : Int), genD (p_ * p'_) (p_ * p'_) X), (0 : Int), ((b : Int), (p_ : Int), (c : Int), d), ((c : Int), (p'_ : Int), (c' : Int), d'), (((b * p_ : Nat) : Int), ((p'_ * c' : Nat) : Int)), (((p_ * p'_ : Nat) : Int), (1 : Int)), ([] : List Site), genD (b * p_) (p'_ * c') (wTo p_ p'_ c' W i j 0), rowL (p_ * p'_) V)) p_ ?_ ?_ ?_ (FUEL_gt (by omega))]
          · rw [joinK_l]
            simp only [winI_id, bnd_s]
            rw [← genDc1 (p_ * p'_) V]
            rw [show F_spec_l31Mul (m, (((p_ * p'_ : Nat) : Int), ((p_ * p'_ : Nat) : Int), genD (p_ * p'_) (p_ * p'_) X), (((p_ * p'_ : Nat) : Int), (1 : Int), genD (p_ * p'_) 1 fun q _ => V q)) = _ from mulS_nat (r := p_ * p'_) (k := p_ * p'_) (c := 1) hm (by omega) (by omega) (by omega) (by omega) (by omega) (by omega) hXin (fun q _ _ _ => hVin q), bnd_s]
            try simp only [fulI_id, bnd_s]
            have hV2 : genD (p_ * p'_) 1 (mulF m (p_ * p'_) X fun q _ => V q) = rowL (p_ * p'_) fun v => W (i * p_ + v / p'_) (v % p'_ * c' + j) := by
              rw [show (mulF m (p_ * p'_) X fun q _ => V q) = fun v _ => dotF m (fun q => X v q) V (p_ * p'_) from rfl, genDc1]
              refine rowL_congr fun v hv => ?_
              rw [← hW, wF_at (by omega) hj hv]
              exact dotF_congr fun q hq => ⟨rfl, hVJ q hq⟩
            rw [hV2]
            rw [loopT_seq (fun u => (((k : Int), ((p_ * p'_ : Nat) : Int), (i : Int), (j : Int), (u : Int)), (m, l), (((p_ * p'_ : Nat) : Int), ((p_ * p'_ : Nat) : Int), genD (p_ * p'_) (p_ * p'_) X), (0 : Int), ((b : Int), (p_ : Int), (c : Int), d), ((c : Int), (p'_ : Int), (c' : Int), d'), (((b * p_ : Nat) : Int), ((p'_ * c' : Nat) : Int)), (((p_ * p'_ : Nat) : Int), (1 : Int)), ([] : List Site), genD (b * p_) (p'_ * c') (wTo p_ p'_ c' W i j (u * p'_)), rowL (p_ * p'_) fun v => W (i * p_ + v / p'_) (v % p'_ * c' + j)))
              (r := Sum.inl (((j : Int), (k : Int), ((p_ * p'_ : Nat) : Int), (i : Int)), (m, l), (((p_ * p'_ : Nat) : Int), ((p_ * p'_ : Nat) : Int), genD (p_ * p'_) (p_ * p'_) X), (0 : Int), ((b : Int), (p_ : Int), (c : Int), d), ((c : Int), (p'_ : Int), (c' : Int), d'), (((b * p_ : Nat) : Int), ((p'_ * c' : Nat) : Int)), ([] : List Site), genD (b * p_) (p'_ * c') (wTo p_ p'_ c' W i (j + 1) 0))) p_ ?_ ?_ ?_ (FUEL_gt (by omega))]
            · rw [joinK_l]
              simp only [fulI_id, bnd_s, addN1 (show j ≤ 1048577 by omega)]
            · intro u hu
              simp only
              rw [cnd_t (ltN_t hu)]
              rw [loopT_seq (fun x => (((k : Int), ((p_ * p'_ : Nat) : Int), (i : Int), (j : Int), (u : Int), (x : Int)), (m, l), (((p_ * p'_ : Nat) : Int), ((p_ * p'_ : Nat) : Int), genD (p_ * p'_) (p_ * p'_) X), (0 : Int), ((b : Int), (p_ : Int), (c : Int), d), ((c : Int), (p'_ : Int), (c' : Int), d'), (((b * p_ : Nat) : Int), ((p'_ * c' : Nat) : Int)), (((p_ * p'_ : Nat) : Int), (1 : Int)), ([] : List Site), genD (b * p_) (p'_ * c') (wTo p_ p'_ c' W i j (u * p'_ + x)), rowL (p_ * p'_) fun v => W (i * p_ + v / p'_) (v % p'_ * c' + j)))
                (r := Sum.inl (((u : Int), (k : Int), ((p_ * p'_ : Nat) : Int), (i : Int), (j : Int)), (m, l), (((p_ * p'_ : Nat) : Int), ((p_ * p'_ : Nat) : Int), genD (p_ * p'_) (p_ * p'_) X), (0 : Int), ((b : Int), (p_ : Int), (c : Int), d), ((c : Int), (p'_ : Int), (c' : Int), d'), (((b * p_ : Nat) : Int), ((p'_ * c' : Nat) : Int)), (((p_ * p'_ : Nat) : Int), (1 : Int)), ([] : List Site), genD (b * p_) (p'_ * c') (wTo p_ p'_ c' W i j ((u + 1) * p'_)), rowL (p_ * p'_) fun v => W (i * p_ + v / p'_) (v % p'_ * c' + j))) p'_ ?_ ?_ ?_ (FUEL_gt (by omega))]
              · rw [joinK_l]
                simp only [fulI_id, bnd_s, addN1 (show u ≤ 1048577 by omega)]
              · intro x hx
                have hv := idx_lt hu hx
                have hI := idx_lt hi hu
                have hJJ := idx_lt hx hj
                have eu : (u * p'_ + x) / p'_ = u := idx_div hx
                have ex : (u * p'_ + x) % p'_ = x := idx_mod hx
                simp only
                rw [cnd_t (ltN_t hx), idxI (by omega) (by omega) (by omega), chkI_row _ hv, bnd_s, addN_0, getN_row _ hv, bnd_s, idxI (by omega) (by omega) (by omega), idx3 (by omega) (by omega) (by omega) (by omega) (by omega), chkI_gen _ hI hJJ, bnd_s, addN_0, getN_gen _ hI hJJ, bnd_s]
                try simp only
                rw [setL_gen _ hJJ]
                have hset := wTo_set (R := b * p_) (C := p'_ * c') (W := W) (i := i) (j := j) (v := u * p'_ + x) hRd (by omega) (by omega) hj hv rfl
                rw [eu, ex] at hset ⊢
                rw [hset]
                simp only [fulI_gen, fulI_id, bnd_s, addN1 (show x ≤ 1048577 by omega)]
                rfl
              · simp only
                rw [cnd_f (ltN_f (Nat.le_refl _)), Nat.add_mul, Nat.one_mul]
                try simp only [fulI_id, bnd_s]
              · rfl
            · simp only
              rw [cnd_f (ltN_f (Nat.le_refl _)), wTo_row (by omega) (by omega) rfl]
              try simp only [fulI_id, bnd_s]
            · rw [Nat.zero_mul]; rfl
          · intro u hu
            simp only
            rw [cnd_t (ltN_t hu)]
            rw [loopT_seq (fun x => (((k : Int), ((p_ * p'_ : Nat) : Int), (i : Int), (j : Int), (u : Int), (x : Int)), (m, l), (((p_ * p'_ : Nat) : Int), ((p_ * p'_ : Nat) : Int), genD (p_ * p'_) (p_ * p'_) X), (0 : Int), ((b : Int), (p_ : Int), (c : Int), d), ((c : Int), (p'_ : Int), (c' : Int), d'), (((b * p_ : Nat) : Int), ((p'_ * c' : Nat) : Int)), (((p_ * p'_ : Nat) : Int), (1 : Int)), ([] : List Site), genD (b * p_) (p'_ * c') (wTo p_ p'_ c' W i j 0), rowL (p_ * p'_) (rowTo V (u * p'_ + x))))
              (r := Sum.inl (((u : Int), (k : Int), ((p_ * p'_ : Nat) : Int), (i : Int), (j : Int)), (m, l), (((p_ * p'_ : Nat) : Int), ((p_ * p'_ : Nat) : Int), genD (p_ * p'_) (p_ * p'_) X), (0 : Int), ((b : Int), (p_ : Int), (c : Int), d), ((c : Int), (p'_ : Int), (c' : Int), d'), (((b * p_ : Nat) : Int), ((p'_ * c' : Nat) : Int)), (((p_ * p'_ : Nat) : Int), (1 : Int)), ([] : List Site), genD (b * p_) (p'_ * c') (wTo p_ p'_ c' W i j 0), rowL (p_ * p'_) (rowTo V ((u + 1) * p'_)))) p'_ ?_ ?_ ?_ (FUEL_gt (by omega))]
            · rw [joinK_l]
              simp only [fulI_row, fulI_id, bnd_s, addN1 (show u ≤ 1048577 by omega)]
            · intro x hx
              have hv := idx_lt hu hx
              have hI := idx_lt hi hu
              have eu : (u * p'_ + x) / p'_ = u := idx_div hx
              have ex : (u * p'_ + x) % p'_ = x := idx_mod hx
              simp only
              rw [cnd_t (ltN_t hx)]
              rw [loopT_seq (fun t => (((k : Int), ((p_ * p'_ : Nat) : Int), (i : Int), (j : Int), (u : Int), (x : Int), dotF m (fun t => ofD c d (i * p_ + u) t) (fun t => ofD c' d' (t * p'_ + x) j) t, (t : Int)), (m, l), (((p_ * p'_ : Nat) : Int), ((p_ * p'_ : Nat) : Int), genD (p_ * p'_) (p_ * p'_) X), (0 : Int), ((b : Int), (p_ : Int), (c : Int), d), ((c : Int), (p'_ : Int), (c' : Int), d'), (((b * p_ : Nat) : Int), ((p'_ * c' : Nat) : Int)), (((p_ * p'_ : Nat) : Int), (1 : Int)), ([] : List Site), genD (b * p_) (p'_ * c') (wTo p_ p'_ c' W i j 0), rowL (p_ * p'_) (rowTo V (u * p'_ + x))))
                (r := Sum.inl ((V (u * p'_ + x), (x : Int), (k : Int), ((p_ * p'_ : Nat) : Int), (i : Int), (j : Int), (u : Int)), (m, l), (((p_ * p'_ : Nat) : Int), ((p_ * p'_ : Nat) : Int), genD (p_ * p'_) (p_ * p'_) X), (0 : Int), ((b : Int), (p_ : Int), (c : Int), d), ((c : Int), (p'_ : Int), (c' : Int), d'), (((b * p_ : Nat) : Int), ((p'_ * c' : Nat) : Int)), (((p_ * p'_ : Nat) : Int), (1 : Int)), ([] : List Site), genD (b * p_) (p'_ * c') (wTo p_ p'_ c' W i j 0), rowL (p_ * p'_) (rowTo V (u * p'_ + x)))) c ?_ ?_ ?_ (FUEL_gt (by omega))]
              · rw [joinK_l]
                simp only
                rw [idxI (by omega) (by omega) (by omega), chkI_row _ hv, bnd_s, addN_0, getN_row _ hv, bnd_s, rowTo_set]
                simp only [fulI_row, fulI_id, bnd_s]
                rw [joinK_l]
                simp only [fulI_row, fulI_id, bnd_s, addN1 (show x ≤ 1048577 by omega)]
                rfl
              · intro t ht
                have hTt := idx_lt ht hx
                simp only
                have q1' : getI d (((i * p_ + u) * c + t : Nat) : Int) = some (ofD c d (i * p_ + u) t) := by
                  have := getI_gen (ofD c d) hI ht
                  rwa [hS] at this
                have q2' : getI d' (((t * p'_ + x) * c' + j : Nat) : Int) = some (ofD c' d' (t * p'_ + x) j) := by
                  have := getI_gen (ofD c' d') hTt hj
                  rwa [hT] at this
                rw [cnd_t (ltN_t ht), idxI (by omega) (by omega) (by omega), idxI (by omega) (by omega) (by omega), q1', bnd_s, idxI (by omega) (by omega) (by omega), idxI (by omega) (by omega) (by omega), q2', bnd_s, macI hm ((dotF_in hm _ _ t).s hm) (hSin _ hI t ht).le (hTin _ hTt j hj).le, bnd_s]
                simp only [fulI_row, fulI_id, bnd_s, addN1 (show t ≤ 1048577 by omega), dotF]
              · simp only
                rw [cnd_f (ltN_f (Nat.le_refl _)), ← hV]
                simp only [eu, ex]
                try simp only [fulI_id, bnd_s]
              · rfl
            · simp only
              rw [cnd_f (ltN_f (Nat.le_refl _)), Nat.add_mul, Nat.one_mul]
              try simp only [fulI_row, fulI_id, bnd_s]
            · rfl
          · simp only
            rw [cnd_f (ltN_f (Nat.le_refl _)), rowTo_end]
            try simp only [fulI_row, fulI_id, bnd_s]
          · rw [Nat.zero_mul, genDc1 (p_ * p'_) (fun _ => 0), rowTo_0]; rfl
        · simp only
          rw [cnd_f (ltN_f (Nat.le_refl _)), wTo_blk (by rcases Nat.eq_zero_or_pos c' with h | h; exact .inr (by rw [h]; simp); exact .inl h)]
          try simp only [fulI_id, bnd_s]
        · rfl
      · simp only
        rw [cnd_f (ltN_f (Nat.le_refl _)), wTo_end (by omega)]
        try simp only [fulI_id, bnd_s]
      · rw [wTo_0]; rfl
  · cases h
end Go.Am
