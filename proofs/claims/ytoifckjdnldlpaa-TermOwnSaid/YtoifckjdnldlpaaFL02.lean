/- Short texts of functions, made by program; each with its contract's rule. -/
import Derived.Test.YtoifckjdnldlpaaF02
set_option linter.unusedVariables false
set_option linter.unusedSimpArgs false
namespace Am
open Go Go.Proofs.Try
def vlaw02_TermCheck (a0 : AV) (h : Heap) (Q : AV → Heap → Prop) : Prop :=
 aggA 3 a0 fun c_1 =>
 callS prog n_vlaw02_given [(.agg [(g c_1 0), (g c_1 1), (g c_1 2)])] h fun r_2 h_3 =>
 callS prog n_term_Check [r_2] h_3 fun r_4 h_5 =>
 callS prog n_vref02_Check [(.agg [(g c_1 0), (g c_1 1), (g c_1 2)])] h_5 fun r_6 h_7 =>
 binA .eql r_4 r_6 fun x_8 =>
 brA x_8 (callS prog n_vlaw02_alive [] h_7 fun r_9 h_10 =>
 retA r_9 h_10 Q) (retA (B false) h_7 Q)
def c_vlaw02_TermCheck : Cfg := ⟨tab, [], [], [(1, [0, 3, 1, 2, 4, 5, 6, 7, 8, 9])], [3], [9]⟩
theorem vlaw02_TermCheck_eq (a0 : AV) (h : Heap) (Q : AV → Heap → Prop) : abody prog c_vlaw02_TermCheck f3 [a0] h Q = vlaw02_TermCheck a0 h Q := by kernel_rfl
theorem vlaw02_TermCheck_ok : fnB c_vlaw02_TermCheck f3 = true := by kernel_rfl
theorem vlaw02_TermCheck_call {a0 : AV} {h : Heap} {Q : AV → Heap → Prop} (hk : vlaw02_TermCheck a0 h Q) : ACalls prog n_vlaw02_TermCheck [a0] h Q := contract (cf := c_vlaw02_TermCheck) tab_ok prog_mixed func3 vlaw02_TermCheck_ok (Eq.mpr (vlaw02_TermCheck_eq a0 h Q) hk)
def vlaw02_TermSort (a0 a1 : AV) (h : Heap) (Q : AV → Heap → Prop) : Prop :=
 aggA 3 a0 fun c_1 =>
 aggA 3 a1 fun c_2 =>
 callS prog n_vlaw02_given [(.agg [(g c_1 0), (g c_1 1), (g c_1 2)])] h fun r_3 h_4 =>
 callS prog n_term_Sort [r_3, (.agg [(g c_2 0), (g c_2 1), (g c_2 2)])] h_4 fun r_5 h_6 =>
 tupA r_5 0 fun x_7 =>
 tupA r_5 1 fun x_8 =>
 aggA 1 x_7 fun c_9 =>
 callS prog n_vref02_Sort [(.agg [(g c_1 0), (g c_1 1), (g c_1 2)]), (.agg [(g c_2 0), (g c_2 1), (g c_2 2)])] h_6 fun r_10 h_11 =>
 tupA r_10 0 fun x_12 =>
 tupA r_10 1 fun x_13 =>
 aggA 1 x_12 fun c_14 =>
 binA .eql x_8 x_13 fun x_15 =>
 brA x_15 (callS prog n_vref01_Same [(.agg [(g c_9 0)]), (.agg [(g c_14 0)])] h_11 fun r_16 h_17 =>
 brA r_16 (callS prog n_vlaw02_alive [] h_17 fun r_18 h_19 =>
 retA r_18 h_19 Q) (retA (B false) h_17 Q)) (retA (B false) h_11 Q)
def c_vlaw02_TermSort : Cfg := ⟨tab, [], [], [(1, [7, 0, 2, 1, 3, 4, 5, 6, 8, 9])], [10], []⟩
theorem vlaw02_TermSort_eq (a0 a1 : AV) (h : Heap) (Q : AV → Heap → Prop) : abody prog c_vlaw02_TermSort f4 [a0, a1] h Q = vlaw02_TermSort a0 a1 h Q := by kernel_rfl
theorem vlaw02_TermSort_ok : fnB c_vlaw02_TermSort f4 = true := by kernel_rfl
theorem vlaw02_TermSort_call {a0 a1 : AV} {h : Heap} {Q : AV → Heap → Prop} (hk : vlaw02_TermSort a0 a1 h Q) : ACalls prog n_vlaw02_TermSort [a0, a1] h Q := contract (cf := c_vlaw02_TermSort) tab_ok prog_mixed func4 vlaw02_TermSort_ok (Eq.mpr (vlaw02_TermSort_eq a0 a1 h Q) hk)
def vlaw02_TermSubst (a0 a1 : AV) (h : Heap) (Q : AV → Heap → Prop) : Prop :=
 aggA 3 a0 fun c_1 =>
 callS prog n_vlaw02_different [(.agg [(g c_1 0), (g c_1 1), (g c_1 2)])] h fun r_2 h_3 =>
 brA r_2 (callS prog n_vlaw02_alive [] h_3 fun r_4 h_5 =>
 retA r_4 h_5 Q) (callS prog n_term_Subst [(.agg [(g c_1 0), (g c_1 1), (g c_1 2)]), a1] h_3 fun r_6 h_7 =>
 tupA r_6 0 fun x_8 =>
 tupA r_6 1 fun x_9 =>
 aggA 3 x_8 fun c_10 =>
 callS prog n_vref02_Subst [(.agg [(g c_1 0), (g c_1 1), (g c_1 2)]), a1] h_7 fun r_11 h_12 =>
 tupA r_11 0 fun x_13 =>
 tupA r_11 1 fun x_14 =>
 aggA 3 x_13 fun c_15 =>
 callS prog n_vlaw02_is [(.agg [(g c_10 0), (g c_10 1), (g c_10 2)]), x_9, (.agg [(g c_15 0), (g c_15 1), (g c_15 2)]), x_14] h_12 fun r_16 h_17 =>
 brA r_16 (callS prog n_vlaw02_alive [] h_17 fun r_18 h_19 =>
 retA r_18 h_19 Q) (retA (B false) h_17 Q))
def c_vlaw02_TermSubst : Cfg := ⟨tab, [], [], [], [], []⟩
theorem vlaw02_TermSubst_eq (a0 a1 : AV) (h : Heap) (Q : AV → Heap → Prop) : abody prog c_vlaw02_TermSubst f5 [a0, a1] h Q = vlaw02_TermSubst a0 a1 h Q := by kernel_rfl
theorem vlaw02_TermSubst_ok : fnB c_vlaw02_TermSubst f5 = true := by kernel_rfl
theorem vlaw02_TermSubst_call {a0 a1 : AV} {h : Heap} {Q : AV → Heap → Prop} (hk : vlaw02_TermSubst a0 a1 h Q) : ACalls prog n_vlaw02_TermSubst [a0, a1] h Q := contract (cf := c_vlaw02_TermSubst) tab_ok prog_mixed func5 vlaw02_TermSubst_ok (Eq.mpr (vlaw02_TermSubst_eq a0 a1 h Q) hk)
def vlaw02_TermSorts (a0 a1 a2 a3 : AV) (h : Heap) (Q : AV → Heap → Prop) : Prop :=
 aggA 3 a0 fun c_1 =>
 aggA 3 a2 fun c_2 =>
 oneA (g c_1 0) <|
 oneA (g c_1 1) <|
 oneA a1 <|
 callS prog n_vlaw02_given [(.agg [(g c_1 0), (g c_1 1), (g c_1 2)])] h fun r_3 h_4 =>
 callS prog n_term_Sort [r_3, (.agg [(g c_2 0), (g c_2 1), (g c_2 2)])] h_4 fun r_5 h_6 =>
 tupA r_5 0 fun x_7 =>
 tupA r_5 1 fun x_8 =>
 aggA 1 x_7 fun c_9 =>
 binA .neq x_8 (I 0) fun x_10 =>
 brA x_10 (callS prog n_vlaw02_alive [] h_6 fun r_11 h_12 =>
 retA r_11 h_12 Q) (lenA a3 fun x_13 =>
 lenA (g c_1 2) fun x_14 =>
 binA .neq x_13 x_14 fun x_15 =>
 brA x_15 (callS prog n_vlaw02_alive [] h_6 fun r_16 h_17 =>
 retA r_16 h_17 Q) (lenA a3 fun x_18 =>
 loopS (fun s_19 h_20 K_21 =>
 binA .lss (g s_19 0) x_18 fun x_22 =>
 brA x_22 (idxA 3 a3 (g s_19 0) h_20 fun p_23 =>
 loadG 3 p_23 h_20 fun c_24 =>
 callS prog n_vlaw02_given [(.agg [(g c_1 0), (g c_1 1), a1])] h_20 fun r_25 h_26 =>
 callS prog n_term_Sort [r_25, (.agg [(g c_24 0), (g c_24 1), (g c_24 2)])] h_26 fun r_27 h_28 =>
 tupA r_27 0 fun x_29 =>
 tupA r_27 1 fun x_30 =>
 aggA 1 x_29 fun c_31 =>
 binA .neq x_30 (I 0) fun x_32 =>
 brA x_32 (callS prog n_vlaw02_alive [] h_28 fun r_33 h_34 =>
 retA r_33 h_34 Q) (idxA 1 (g c_1 2) (g s_19 0) h_28 fun p_35 =>
 loadG 1 p_35 h_28 fun c_36 =>
 callS prog n_vref01_Same [(.agg [(g c_31 0)]), (.agg [(g c_36 0)])] h_28 fun r_37 h_38 =>
 notA r_37 fun x_39 =>
 brA x_39 (callS prog n_vlaw02_alive [] h_38 fun r_40 h_41 =>
 retA r_40 h_41 Q) (binA .add (g s_19 0) (I 1) fun x_42 =>
 K_21 [x_42] h_38))) (callS prog n_term_Subst [(.agg [(g c_2 0), (g c_2 1), (g c_2 2)]), a3] h_20 fun r_43 h_44 =>
 tupA r_43 0 fun x_45 =>
 tupA r_43 1 fun x_46 =>
 aggA 3 x_45 fun c_47 =>
 binA .neq x_46 (I 0) fun x_48 =>
 brA x_48 (binA .eql x_46 (I 3) fun x_49 =>
 brA x_49 (callS prog n_vlaw02_alive [] h_44 fun r_50 h_51 =>
 retA r_50 h_51 Q) (retA (B false) h_44 Q)) (callS prog n_vlaw02_given [(.agg [(g c_1 0), (g c_1 1), a1])] h_44 fun r_52 h_53 =>
 callS prog n_term_Sort [r_52, (.agg [(g c_47 0), (g c_47 1), (g c_47 2)])] h_53 fun r_54 h_55 =>
 tupA r_54 0 fun x_56 =>
 tupA r_54 1 fun x_57 =>
 aggA 1 x_56 fun c_58 =>
 binA .eql x_57 (I 0) fun x_59 =>
 brA x_59 (callS prog n_vref01_Same [(.agg [(g c_58 0)]), (.agg [(g c_9 0)])] h_55 fun r_60 h_61 =>
 brA r_60 (callS prog n_vlaw02_alive [] h_61 fun r_62 h_63 =>
 retA r_62 h_63 Q) (retA (B false) h_61 Q)) (retA (B false) h_55 Q)))) [(I 0)] h_6))
def c_vlaw02_TermSorts : Cfg := ⟨tab, [], [(6, ⟨[46], [], [8, 12, 13, 14, 15, 46, 47, 48, 49, 50, 51, 52, 53, 54, 55, 56, 57, 58, 59, 60, 61, 62, 63, 64, 65, 66, 67, 68, 69, 70, 71]⟩)], [(2, [7, 0, 2, 1, 3, 4, 5, 6, 8, 9]), (8, [7, 0, 2, 1, 3, 4, 5, 6, 8, 9]), (9, [0, 1, 2, 3, 4, 5, 6, 7, 8, 9, 10, 11]), (15, [7, 0, 2, 1, 3, 4, 5, 6, 8, 9])], [27, 52, 61, 63, 65, 66, 86], [60]⟩
theorem vlaw02_TermSorts_eq (a0 a1 a2 a3 : AV) (h : Heap) (Q : AV → Heap → Prop) : abody prog c_vlaw02_TermSorts f6 [a0, a1, a2, a3] h Q = vlaw02_TermSorts a0 a1 a2 a3 h Q := by kernel_rfl
theorem vlaw02_TermSorts_ok : fnB c_vlaw02_TermSorts f6 = true := by kernel_rfl
theorem vlaw02_TermSorts_call {a0 a1 a2 a3 : AV} {h : Heap} {Q : AV → Heap → Prop} (hk : vlaw02_TermSorts a0 a1 a2 a3 h Q) : ACalls prog n_vlaw02_TermSorts [a0, a1, a2, a3] h Q := contract (cf := c_vlaw02_TermSorts) tab_ok prog_mixed func6 vlaw02_TermSorts_ok (Eq.mpr (vlaw02_TermSorts_eq a0 a1 a2 a3 h Q) hk)
def vlaw02_TermNodes (a0 a1 : AV) (h : Heap) (Q : AV → Heap → Prop) : Prop :=
 aggA 3 a0 fun c_1 =>
 lenA a1 fun x_2 =>
 binA .gtr x_2 (I 20) fun x_3 =>
 brA x_3 (callS prog n_vlaw02_alive [] h fun r_4 h_5 =>
 retA r_4 h_5 Q) (callS prog n_term_Subst [(.agg [(g c_1 0), (g c_1 1), (g c_1 2)]), a1] h fun r_6 h_7 =>
 tupA r_6 0 fun x_8 =>
 tupA r_6 1 fun x_9 =>
 aggA 3 x_8 fun c_10 =>
 binA .neq x_9 (I 0) fun x_11 =>
 brA x_11 (callS prog n_vlaw02_alive [] h_7 fun r_12 h_13 =>
 retA r_12 h_13 Q) (callS prog n_term_Size [(.agg [(g c_1 0), (g c_1 1), (g c_1 2)])] h_7 fun r_14 h_15 =>
 tupA r_14 0 fun x_16 =>
 tupA r_14 1 fun x_17 =>
 lenA a1 fun x_18 =>
 loopS (fun s_19 h_20 K_21 =>
 binA .lss (g s_19 1) x_18 fun x_22 =>
 brA x_22 (idxA 3 a1 (g s_19 1) h_20 fun p_23 =>
 loadG 3 p_23 h_20 fun c_24 =>
 callS prog n_term_Size [(.agg [(g c_24 0), (g c_24 1), (g c_24 2)])] h_20 fun r_25 h_26 =>
 tupA r_25 0 fun x_27 =>
 tupA r_25 1 fun x_28 =>
 callS prog n_vref02_Count [(.agg [(g c_1 0), (g c_1 1), (g c_1 2)]), (g s_19 1)] h_26 fun r_29 h_30 =>
 binA .sub x_27 (I 1) fun x_31 =>
 binA .mul r_29 x_31 fun x_32 =>
 binA .add (g s_19 0) x_32 fun x_33 =>
 binA .add (g s_19 1) (I 1) fun x_34 =>
 K_21 [x_33, x_34] h_30) (callS prog n_term_Size [(.agg [(g c_10 0), (g c_10 1), (g c_10 2)])] h_20 fun r_35 h_36 =>
 tupA r_35 0 fun x_37 =>
 tupA r_35 1 fun x_38 =>
 binA .eql (g s_19 0) x_37 fun x_39 =>
 brA x_39 (callS prog n_vlaw02_alive [] h_36 fun r_40 h_41 =>
 retA r_40 h_41 Q) (retA (B false) h_36 Q))) [x_16, (I 0)] h_15))
def c_vlaw02_TermNodes : Cfg := ⟨tab, [], [(8, ⟨[7, 35], [], [7, 9, 10, 11, 12, 35, 36, 37, 38, 39, 40, 41, 42, 43, 44, 45, 46, 47, 48, 49, 50, 51, 52, 53]⟩)], [], [], []⟩
theorem vlaw02_TermNodes_eq (a0 a1 : AV) (h : Heap) (Q : AV → Heap → Prop) : abody prog c_vlaw02_TermNodes f7 [a0, a1] h Q = vlaw02_TermNodes a0 a1 h Q := by kernel_rfl
theorem vlaw02_TermNodes_ok : fnB c_vlaw02_TermNodes f7 = true := by kernel_rfl
theorem vlaw02_TermNodes_call {a0 a1 : AV} {h : Heap} {Q : AV → Heap → Prop} (hk : vlaw02_TermNodes a0 a1 h Q) : ACalls prog n_vlaw02_TermNodes [a0, a1] h Q := contract (cf := c_vlaw02_TermNodes) tab_ok prog_mixed func7 vlaw02_TermNodes_ok (Eq.mpr (vlaw02_TermNodes_eq a0 a1 h Q) hk)
def vlaw02_TermSize (a0 a1 : AV) (h : Heap) (Q : AV → Heap → Prop) : Prop :=
 aggA 3 a0 fun c_1 =>
 aggA 3 a1 fun c_2 =>
 callS prog n_term_Size [(.agg [(g c_1 0), (g c_1 1), (g c_1 2)])] h fun r_3 h_4 =>
 tupA r_3 0 fun x_5 =>
 tupA r_3 1 fun x_6 =>
 callS prog n_vref02_Size [(.agg [(g c_1 0), (g c_1 1), (g c_1 2)])] h_4 fun r_7 h_8 =>
 tupA r_7 0 fun x_9 =>
 tupA r_7 1 fun x_10 =>
 binA .eql x_5 x_9 fun x_11 =>
 brA x_11 (binA .eql x_6 x_10 fun x_12 =>
 brA x_12 (callS prog n_term_Same [(.agg [(g c_1 0), (g c_1 1), (g c_1 2)]), (.agg [(g c_2 0), (g c_2 1), (g c_2 2)])] h_8 fun r_13 h_14 =>
 callS prog n_vref02_Same [(.agg [(g c_1 0), (g c_1 1), (g c_1 2)]), (.agg [(g c_2 0), (g c_2 1), (g c_2 2)])] h_14 fun r_15 h_16 =>
 eqbA false r_13 r_15 fun x_17 =>
 brA x_17 (callS prog n_term_Same [(.agg [(g c_1 0), (g c_1 1), (g c_1 2)]), (.agg [(g c_1 0), (g c_1 1), (g c_1 2)])] h_16 fun r_18 h_19 =>
 callS prog n_vref02_Same [(.agg [(g c_1 0), (g c_1 1), (g c_1 2)]), (.agg [(g c_1 0), (g c_1 1), (g c_1 2)])] h_19 fun r_20 h_21 =>
 eqbA false r_18 r_20 fun x_22 =>
 brA x_22 (callS prog n_vlaw02_alive [] h_21 fun r_23 h_24 =>
 retA r_23 h_24 Q) (retA (B false) h_21 Q)) (retA (B false) h_16 Q)) (retA (B false) h_8 Q)) (retA (B false) h_8 Q)
def c_vlaw02_TermSize : Cfg := ⟨tab, [], [], [(3, [0, 1, 2, 3, 4, 5, 6, 7, 8, 9, 10, 12, 13, 11, 14, 15, 16, 17, 18, 19, 21, 22, 20, 23, 24, 25, 26, 27, 28, 29])], [28, 29, 37, 38], [22, 27, 36, 45]⟩
theorem vlaw02_TermSize_eq (a0 a1 : AV) (h : Heap) (Q : AV → Heap → Prop) : abody prog c_vlaw02_TermSize f8 [a0, a1] h Q = vlaw02_TermSize a0 a1 h Q := by kernel_rfl
theorem vlaw02_TermSize_ok : fnB c_vlaw02_TermSize f8 = true := by kernel_rfl
theorem vlaw02_TermSize_call {a0 a1 : AV} {h : Heap} {Q : AV → Heap → Prop} (hk : vlaw02_TermSize a0 a1 h Q) : ACalls prog n_vlaw02_TermSize [a0, a1] h Q := contract (cf := c_vlaw02_TermSize) tab_ok prog_mixed func8 vlaw02_TermSize_ok (Eq.mpr (vlaw02_TermSize_eq a0 a1 h Q) hk)
def vlaw02_TermTwice (a0 a1 a2 : AV) (h : Heap) (Q : AV → Heap → Prop) : Prop :=
 aggA 3 a0 fun c_1 =>
 callS prog n_term_Subst [(.agg [(g c_1 0), (g c_1 1), (g c_1 2)]), a1] h fun r_2 h_3 =>
 tupA r_2 0 fun x_4 =>
 tupA r_2 1 fun x_5 =>
 aggA 3 x_4 fun c_6 =>
 binA .neq x_5 (I 0) fun x_7 =>
 brA x_7 (callS prog n_vlaw02_alive [] h_3 fun r_8 h_9 =>
 retA r_8 h_9 Q) (lenA a1 fun x_10 =>
 binA .gtr x_10 (I 1000) fun x_11 =>
 brA x_11 (callS prog n_vlaw02_alive [] h_3 fun r_12 h_13 =>
 retA r_12 h_13 Q) (callS prog n_term_Subst [(.agg [(g c_6 0), (g c_6 1), (g c_6 2)]), a2] h_3 fun r_14 h_15 =>
 tupA r_14 0 fun x_16 =>
 tupA r_14 1 fun x_17 =>
 aggA 3 x_16 fun c_18 =>
 binA .neq x_17 (I 0) fun x_19 =>
 brA x_19 (callS prog n_vlaw02_alive [] h_15 fun r_20 h_21 =>
 retA r_20 h_21 Q) (lenA a1 fun x_22 =>
 loopS (fun s_23 h_24 K_25 =>
 binA .lss (g s_23 1) x_22 fun x_26 =>
 brA x_26 (idxA 3 a1 (g s_23 1) h_24 fun p_27 =>
 loadG 3 p_27 h_24 fun c_28 =>
 callS prog n_term_Subst [(.agg [(g c_28 0), (g c_28 1), (g c_28 2)]), a2] h_24 fun r_29 h_30 =>
 tupA r_29 0 fun x_31 =>
 tupA r_29 1 fun x_32 =>
 aggA 3 x_31 fun c_33 =>
 binA .neq x_32 (I 0) fun x_34 =>
 brA x_34 (callS prog n_vlaw02_alive [] h_30 fun r_35 h_36 =>
 retA r_35 h_36 Q) (appA 3 40 (g s_23 0) (.rs 3 [[(g c_33 0), (g c_33 1), (g c_33 2)]]) h_30 fun x_37 h_38 =>
 binA .add (g s_23 1) (I 1) fun x_39 =>
 K_25 [x_37, x_39] h_38)) (callS prog n_term_Subst [(.agg [(g c_1 0), (g c_1 1), (g c_1 2)]), (g s_23 0)] h_24 fun r_40 h_41 =>
 tupA r_40 0 fun x_42 =>
 tupA r_40 1 fun x_43 =>
 aggA 3 x_42 fun c_44 =>
 binA .eql x_43 (I 0) fun x_45 =>
 brA x_45 (callS prog n_term_Same [(.agg [(g c_18 0), (g c_18 1), (g c_18 2)]), (.agg [(g c_44 0), (g c_44 1), (g c_44 2)])] h_41 fun r_46 h_47 =>
 brA r_46 (callS prog n_vlaw02_alive [] h_47 fun r_48 h_49 =>
 retA r_48 h_49 Q) (retA (B false) h_47 Q)) (retA (B false) h_41 Q))) [.e0, (I 0)] h_15)))
def c_vlaw02_TermTwice : Cfg := ⟨tab, [], [(9, ⟨[10, 42], [], [6, 10, 12, 13, 14, 42, 43, 44, 45, 46, 47, 48, 49, 50, 51, 52, 53, 54, 55, 56, 57, 58, 59]⟩)], [], [], []⟩
theorem vlaw02_TermTwice_eq (a0 a1 a2 : AV) (h : Heap) (Q : AV → Heap → Prop) : abody prog c_vlaw02_TermTwice f9 [a0, a1, a2] h Q = vlaw02_TermTwice a0 a1 a2 h Q := by kernel_rfl
theorem vlaw02_TermTwice_ok : fnB c_vlaw02_TermTwice f9 = true := by kernel_rfl
theorem vlaw02_TermTwice_call {a0 a1 a2 : AV} {h : Heap} {Q : AV → Heap → Prop} (hk : vlaw02_TermTwice a0 a1 a2 h Q) : ACalls prog n_vlaw02_TermTwice [a0, a1, a2] h Q := contract (cf := c_vlaw02_TermTwice) tab_ok prog_mixed func9 vlaw02_TermTwice_ok (Eq.mpr (vlaw02_TermTwice_eq a0 a1 a2 h Q) hk)
def vlaw02_TermApply (a0 a1 : AV) (h : Heap) (Q : AV → Heap → Prop) : Prop :=
 aggA 3 a0 fun c_1 =>
 callS prog n_term_Apply [(.agg [(g c_1 0), (g c_1 1), (g c_1 2)]), a1] h fun r_2 h_3 =>
 tupA r_2 0 fun x_4 =>
 tupA r_2 1 fun x_5 =>
 aggA 3 x_4 fun c_6 =>
 callS prog n_vref02_Apply [(.agg [(g c_1 0), (g c_1 1), (g c_1 2)]), a1] h_3 fun r_7 h_8 =>
 tupA r_7 0 fun x_9 =>
 tupA r_7 1 fun x_10 =>
 aggA 3 x_9 fun c_11 =>
 callS prog n_vlaw02_is [(.agg [(g c_6 0), (g c_6 1), (g c_6 2)]), x_5, (.agg [(g c_11 0), (g c_11 1), (g c_11 2)]), x_10] h_8 fun r_12 h_13 =>
 brA r_12 (callS prog n_vlaw02_alive [] h_13 fun r_14 h_15 =>
 retA r_14 h_15 Q) (retA (B false) h_13 Q)
def c_vlaw02_TermApply : Cfg := ⟨tab, [], [], [], [], []⟩
theorem vlaw02_TermApply_eq (a0 a1 : AV) (h : Heap) (Q : AV → Heap → Prop) : abody prog c_vlaw02_TermApply f10 [a0, a1] h Q = vlaw02_TermApply a0 a1 h Q := by kernel_rfl
theorem vlaw02_TermApply_ok : fnB c_vlaw02_TermApply f10 = true := by kernel_rfl
theorem vlaw02_TermApply_call {a0 a1 : AV} {h : Heap} {Q : AV → Heap → Prop} (hk : vlaw02_TermApply a0 a1 h Q) : ACalls prog n_vlaw02_TermApply [a0, a1] h Q := contract (cf := c_vlaw02_TermApply) tab_ok prog_mixed func10 vlaw02_TermApply_ok (Eq.mpr (vlaw02_TermApply_eq a0 a1 h Q) hk)
end Am
