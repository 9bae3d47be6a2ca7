/- Short texts of functions, made by program; each with its contract's rule. -/
import Derived.Test.YtoifckjdnldlpaaGreatZG0
set_option linter.unusedVariables false
set_option linter.unusedSimpArgs false
set_option maxRecDepth 100000
namespace Am
open Go Go.Proofs.Tryz
def scheme_Check (a0 : AV) (h : Heap) (Q : AV → Heap → Prop) : Prop :=
 aggA 2 a0 fun c_1 =>
 lenA (g c_1 0) fun x_2 =>
 binA .gtr x_2 (I 24) fun x_3 =>
 brA x_3 (retA (I 7) h Q) (callS prog n_term_Symbols [(g c_1 0)] h fun r_4 h_5 =>
 notA r_4 fun x_6 =>
 brA x_6 (retA (I 7) h_5 Q) (lenA (g c_1 1) fun x_7 =>
 binA .eql x_7 (I 0) fun x_8 =>
 brA x_8 (retA (I 7) h_5 Q) (lenA (g c_1 1) fun x_9 =>
 binA .gtr x_9 (I 64) fun x_10 =>
 brA x_10 (retA (I 7) h_5 Q) (idxA 5 (g c_1 1) (I 0) h_5 fun p_11 =>
 fldA 1 p_11 fun p_12 =>
 fldA 0 p_12 fun p_13 =>
 loadV p_13 h_5 fun x_14 =>
 lenA x_14 fun x_15 =>
 binA .gtr x_15 (I 0) fun x_16 =>
 brA x_16 (retA (I 7) h_5 Q) (newM h_5 fun m_17 h_18 =>
 lenA (g c_1 1) fun x_19 =>
 loopS (fun s_20 h_21 K_22 =>
 binA .lss (g s_20 0) x_19 fun x_23 =>
 brA x_23 (idxA 5 (g c_1 1) (g s_20 0) h_21 fun p_24 =>
 loadG 5 p_24 h_21 fun c_25 =>
 callS prog n_term_Name [(g c_25 0)] h_21 fun r_26 h_27 =>
 notA r_26 fun x_28 =>
 brA x_28 (retA (I 7) h_27 Q) (oneA (g c_25 0) <|
 lookA [.str] false (B false) m_17 (g c_25 0) h_27 fun x_29 =>
 brA x_29 (retA (I 7) h_27 Q) (callS prog n_sorts_Check [(.agg [(g c_25 1)])] h_27 fun r_31 h_32 =>
 binA .neq r_31 (I 0) fun x_33 =>
 brA x_33 (retA (I 7) h_32 Q) (oneA (g c_25 0) <|
 updA [.str] m_17 (g c_25 0) (B true) h_32 fun h_35 =>
 binA .add (g s_20 0) (I 1) fun x_36 =>
 K_22 [x_36] h_35)))) (lenA (g c_1 1) fun x_37 =>
 loopS (fun s_38 h_39 K_40 =>
 binA .lss (g s_38 0) x_37 fun x_41 =>
 brA x_41 (idxA 5 (g c_1 1) (g s_38 0) h_39 fun p_42 =>
 loadG 5 p_42 h_39 fun c_43 =>
 callS prog n_term_Size [(.agg [(g c_43 2), (g c_43 3), (g c_43 4)])] h_39 fun r_44 h_45 =>
 tupA r_44 0 fun x_46 =>
 tupA r_44 1 fun x_47 =>
 binA .gtr x_46 (I 400) fun x_48 =>
 brA x_48 (retA (I 7) h_45 Q) (binA .gtr x_47 (I 30) fun x_49 =>
 brA x_49 (retA (I 7) h_45 Q) (callS prog n_scheme_Place [(.agg [(g c_1 0), (g c_1 1)]), (g c_43 1)] h_45 fun r_50 h_51 =>
 callS prog n_term_Place_Of [r_50, (.agg [(g c_43 2), (g c_43 3), (g c_43 4)])] h_51 fun r_52 h_53 =>
 tupA r_52 0 fun x_54 =>
 tupA r_52 1 fun x_55 =>
 aggA 1 x_54 fun c_56 =>
 notA x_55 fun x_57 =>
 brA x_57 (retA (I 7) h_53 Q) (lenA (g c_56 0) fun x_58 =>
 binA .gtr x_58 (I 0) fun x_59 =>
 brA x_59 (retA (I 7) h_53 Q) (binA .add (g s_38 0) (I 1) fun x_60 =>
 K_40 [x_60] h_53))))) (retA (I 0) h_39 Q)) [(I 0)] h_21)) [(I 0)] h_18)))))
def c_scheme_Check : Cfg := ⟨tab, [], [(5, ⟨[48], [], [2, 5, 48, 49, 50, 51, 52, 53, 54, 55, 56, 57, 58, 59, 60, 61, 62, 63, 64, 65, 66, 67, 68, 69, 70, 71]⟩), (12, ⟨[75], [], [2, 7, 8, 9, 10, 11, 75, 76, 77, 78, 79, 80, 81, 82, 83, 84, 85, 86, 87, 88, 89, 90, 91, 92, 93, 94, 95, 96, 97, 98, 99, 100, 101, 102, 103, 104, 105, 106, 107, 108, 109, 110]⟩)], [(17, [11, 0, 1, 2, 3, 5, 6, 4, 7, 8, 9, 10, 12, 13])], [92, 95], []⟩
theorem scheme_Check_eq (a0 : AV) (h : Heap) (Q : AV → Heap → Prop) : abody prog c_scheme_Check f58 [a0] h Q = scheme_Check a0 h Q := by kernel_rfl
theorem scheme_Check_ok : fnB c_scheme_Check f58 = true := by kernel_rfl
theorem scheme_Check_call {a0 : AV} {h : Heap} {Q : AV → Heap → Prop} (hk : scheme_Check a0 h Q) : ACalls prog n_scheme_Check [a0] h Q := contract (cf := c_scheme_Check) tab_ok prog_mixed func58 scheme_Check_ok (Eq.mpr (scheme_Check_eq a0 h Q) hk)
def scheme_Place (a0 a1 : AV) (h : Heap) (Q : AV → Heap → Prop) : Prop :=
 aggA 2 a0 fun c_1 =>
 oneA (g c_1 0) <|
 oneA a1 <|
 lenA (g c_1 1) fun x_2 =>
 loopS (fun s_3 h_4 K_5 =>
 binA .lss (g s_3 0) x_2 fun x_6 =>
 brA x_6 (idxA 5 (g c_1 1) (g s_3 0) h_4 fun p_7 =>
 loadG 5 p_7 h_4 fun c_8 =>
 appA 1 24 (g s_3 2) (.rs 1 [[(g c_8 1)]]) h_4 fun x_9 h_10 =>
 oneA x_9 <|
 binA .add (g s_3 0) (I 1) fun x_11 =>
 K_5 [x_11, (g s_3 1), x_9, (g s_3 3)] h_10) (retA (.agg [(g s_3 1), (g s_3 2), (g s_3 3)]) h_4 Q)) [(I 0), (g c_1 0), .e0, a1] h
def c_scheme_Place : Cfg := ⟨tab, [], [(3, ⟨[15], [5], [7, 15, 16, 17, 18, 19, 20, 21, 22, 23, 24, 25, 26]⟩)], [], [], []⟩
theorem scheme_Place_eq (a0 a1 : AV) (h : Heap) (Q : AV → Heap → Prop) : abody prog c_scheme_Place f109 [a0, a1] h Q = scheme_Place a0 a1 h Q := by kernel_rfl
theorem scheme_Place_ok : fnB c_scheme_Place f109 = true := by kernel_rfl
theorem scheme_Place_call {a0 a1 : AV} {h : Heap} {Q : AV → Heap → Prop} (hk : scheme_Place a0 a1 h Q) : ACalls prog n_scheme_Place [a0, a1] h Q := contract (cf := c_scheme_Place) tab_ok prog_mixed func109 scheme_Place_ok (Eq.mpr (scheme_Place_eq a0 a1 h Q) hk)
def term_Place_Of (a0 a1 : AV) (h : Heap) (Q : AV → Heap → Prop) : Prop :=
 aggA 3 a0 fun c_1 =>
 aggA 3 a1 fun c_2 =>
 callS prog n_term_Place_sort [(.agg [(g c_1 0), (g c_1 1), (g c_1 2)]), (.agg [(g c_2 0), (g c_2 1), (g c_2 2)])] h fun r_3 h_4 =>
 tupA r_3 0 fun x_5 =>
 tupA r_3 1 fun x_6 =>
 aggA 1 x_5 fun c_7 =>
 retA (.tup [(.agg [(g c_7 0)]), x_6]) h_4 Q
def c_term_Place_Of : Cfg := ⟨tab, [], [], [], [], []⟩
theorem term_Place_Of_eq (a0 a1 : AV) (h : Heap) (Q : AV → Heap → Prop) : abody prog c_term_Place_Of f110 [a0, a1] h Q = term_Place_Of a0 a1 h Q := by kernel_rfl
theorem term_Place_Of_ok : fnB c_term_Place_Of f110 = true := by kernel_rfl
theorem term_Place_Of_call {a0 a1 : AV} {h : Heap} {Q : AV → Heap → Prop} (hk : term_Place_Of a0 a1 h Q) : ACalls prog n_term_Place_Of [a0, a1] h Q := contract (cf := c_term_Place_Of) tab_ok prog_mixed func110 term_Place_Of_ok (Eq.mpr (term_Place_Of_eq a0 a1 h Q) hk)
def vref03_Is (a0 : AV) (h : Heap) (Q : AV → Heap → Prop) : Prop :=
 aggA 2 a0 fun c_1 =>
 callS prog n_vref02_Symbols [(g c_1 0)] h fun r_2 h_3 =>
 notA r_2 fun x_4 =>
 brA x_4 (retA (B false) h_3 Q) (lenA (g c_1 1) fun x_5 =>
 binA .lss x_5 (I 1) fun x_6 =>
 brA x_6 (retA (B false) h_3 Q) (lenA (g c_1 1) fun x_7 =>
 binA .gtr x_7 (I 64) fun x_8 =>
 brA x_8 (retA (B false) h_3 Q) (lenA (g c_1 1) fun x_9 =>
 loopS (fun s_10 h_11 K_12 =>
 binA .lss (g s_10 0) x_9 fun x_13 =>
 brA x_13 (idxA 5 (g c_1 1) (g s_10 0) h_11 fun p_14 =>
 loadG 5 p_14 h_11 fun c_15 =>
 callS prog n_vref02_Name [(g c_15 0)] h_11 fun r_16 h_17 =>
 notA r_16 fun x_18 =>
 brA x_18 (retA (B false) h_17 Q) (callS prog n_vref01_Is [(.agg [(g c_15 1)])] h_17 fun r_19 h_20 =>
 notA r_19 fun x_21 =>
 brA x_21 (retA (B false) h_20 Q) (callS prog n_vref02_Nodes [(.agg [(g c_15 2), (g c_15 3), (g c_15 4)]), (I 400)] h_20 fun r_22 h_23 =>
 binA .gtr r_22 (I 400) fun x_24 =>
 brA x_24 (retA (B false) h_23 Q) (callS prog n_vref02_Depth [(.agg [(g c_15 2), (g c_15 3), (g c_15 4)])] h_23 fun r_25 h_26 =>
 binA .gtr r_25 (I 30) fun x_27 =>
 brA x_27 (retA (B false) h_26 Q) (sliceA 5 (g c_1 1) none (some (g s_10 0)) fun x_28 =>
 lenA x_28 fun x_29 =>
 loopS (fun s_30 h_31 K_32 =>
 binA .lss (g s_30 0) x_29 fun x_33 =>
 brA x_33 (idxA 5 x_28 (g s_30 0) h_31 fun p_34 =>
 loadG 5 p_34 h_31 fun c_35 =>
 binA .eql (g c_15 0) (g c_35 0) fun x_36 =>
 brA x_36 (retA (B false) h_31 Q) (binA .add (g s_30 0) (I 1) fun x_37 =>
 K_32 [x_37] h_31)) (binA .add (g s_10 0) (I 1) fun x_38 =>
 K_12 [x_38] h_31)) [(I 0)] h_26))))) (idxA 5 (g c_1 1) (I 0) h_11 fun p_39 =>
 fldA 1 p_39 fun p_40 =>
 fldA 0 p_40 fun p_41 =>
 loadV p_41 h_11 fun x_42 =>
 lenA x_42 fun x_43 =>
 binA .gtr x_43 (I 0) fun x_44 =>
 brA x_44 (retA (B false) h_11 Q) (lenA (g c_1 1) fun x_45 =>
 loopS (fun s_46 h_47 K_48 =>
 binA .lss (g s_46 0) x_45 fun x_49 =>
 brA x_49 (idxA 5 (g c_1 1) (g s_46 0) h_47 fun p_50 =>
 loadG 5 p_50 h_47 fun c_51 =>
 callS prog n_vref03_Place [(.agg [(g c_1 0), (g c_1 1)]), (g s_46 0)] h_47 fun r_52 h_53 =>
 callS prog n_vref02_Of [r_52, (.agg [(g c_51 2), (g c_51 3), (g c_51 4)])] h_53 fun r_54 h_55 =>
 tupA r_54 0 fun x_56 =>
 tupA r_54 1 fun x_57 =>
 aggA 1 x_56 fun c_58 =>
 notA x_57 fun x_59 =>
 brA x_59 (retA (B false) h_55 Q) (lenA (g c_58 0) fun x_60 =>
 binA .gtr x_60 (I 0) fun x_61 =>
 brA x_61 (retA (B false) h_55 Q) (binA .add (g s_46 0) (I 1) fun x_62 =>
 K_48 [x_62] h_55))) (retA (B true) h_47 Q)) [(I 0)] h_11))) [(I 0)] h_3)))
def c_vref03_Is : Cfg := ⟨tab, [], [(4, ⟨[30], [], [2, 3, 4, 6, 30, 31, 32, 33, 34, 35, 36, 37, 38, 39, 40, 41, 42, 43, 44, 45, 46, 47, 48, 49, 50, 51, 52, 53, 54, 55, 56, 57, 58, 59, 60, 61, 62, 63, 64, 65, 66, 67, 68, 69, 70, 71, 72]⟩), (9, ⟨[62], [], [2, 6, 62, 63, 64, 65, 66, 67, 68, 69, 70, 71]⟩), (18, ⟨[84], [], [2, 7, 8, 9, 10, 84, 85, 86, 87, 88, 89, 90, 91, 92, 93, 94, 95, 96, 97, 98, 99, 100, 101, 102, 103, 104, 105, 106]⟩)], [(20, [9, 0, 1, 3, 4, 2, 5, 6, 7, 8, 10, 11])], [90], []⟩
theorem vref03_Is_eq (a0 : AV) (h : Heap) (Q : AV → Heap → Prop) : abody prog c_vref03_Is f12 [a0] h Q = vref03_Is a0 h Q := by kernel_rfl
theorem vref03_Is_ok : fnB c_vref03_Is f12 = true := by kernel_rfl
theorem vref03_Is_call {a0 : AV} {h : Heap} {Q : AV → Heap → Prop} (hk : vref03_Is a0 h Q) : ACalls prog n_vref03_Is [a0] h Q := contract (cf := c_vref03_Is) tab_ok prog_mixed func12 vref03_Is_ok (Eq.mpr (vref03_Is_eq a0 h Q) hk)
def vref03_Place (a0 a1 : AV) (h : Heap) (Q : AV → Heap → Prop) : Prop :=
 aggA 2 a0 fun c_1 =>
 idxA 5 (g c_1 1) a1 h fun p_2 =>
 fldA 1 p_2 fun p_3 =>
 fldA 0 p_3 fun p_4 =>
 loadV p_4 h fun x_5 =>
 oneA (g c_1 0) <|
 oneA x_5 <|
 lenA (g c_1 1) fun x_6 =>
 loopS (fun s_7 h_8 K_9 =>
 binA .lss (g s_7 0) x_6 fun x_10 =>
 brA x_10 (idxA 5 (g c_1 1) (g s_7 0) h_8 fun p_11 =>
 loadG 5 p_11 h_8 fun c_12 =>
 appA 1 24 (g s_7 2) (.rs 1 [[(g c_12 1)]]) h_8 fun x_13 h_14 =>
 oneA x_13 <|
 binA .add (g s_7 0) (I 1) fun x_15 =>
 K_9 [x_15, (g s_7 1), x_13, (g s_7 3)] h_14) (retA (.agg [(g s_7 1), (g s_7 2), (g s_7 3)]) h_8 Q)) [(I 0), (g c_1 0), .e0, x_5] h
def c_vref03_Place : Cfg := ⟨tab, [], [(3, ⟨[21], [5], [7, 21, 22, 23, 24, 25, 26, 27, 28, 29, 30, 31, 32]⟩)], [(1, [10, 0, 1, 2, 3, 4, 5, 6, 7, 8, 9, 11])], [9, 11, 13, 16], []⟩
theorem vref03_Place_eq (a0 a1 : AV) (h : Heap) (Q : AV → Heap → Prop) : abody prog c_vref03_Place f49 [a0, a1] h Q = vref03_Place a0 a1 h Q := by kernel_rfl
theorem vref03_Place_ok : fnB c_vref03_Place f49 = true := by kernel_rfl
theorem vref03_Place_call {a0 a1 : AV} {h : Heap} {Q : AV → Heap → Prop} (hk : vref03_Place a0 a1 h Q) : ACalls prog n_vref03_Place [a0, a1] h Q := contract (cf := c_vref03_Place) tab_ok prog_mixed func49 vref03_Place_ok (Eq.mpr (vref03_Place_eq a0 a1 h Q) hk)
def vref03_Copy (a0 : AV) (h : Heap) (Q : AV → Heap → Prop) : Prop :=
 aggA 2 a0 fun c_1 =>
 appA 2 24 .e0 (g c_1 0) h fun x_2 h_3 =>
 oneA x_2 <|
 lenA (g c_1 1) fun x_4 =>
 loopS (fun s_5 h_6 K_7 =>
 binA .lss (g s_5 0) x_4 fun x_8 =>
 brA x_8 (idxA 5 (g c_1 1) (g s_5 0) h_6 fun p_9 =>
 loadG 5 p_9 h_6 fun c_10 =>
 callS prog n_vref01_Copy [(.agg [(g c_10 1)])] h_6 fun r_11 h_12 =>
 callS prog n_vref02_Copy [(.agg [(g c_10 2), (g c_10 3), (g c_10 4)])] h_12 fun r_13 h_14 =>
 oneA (g c_10 0) <|
 aggA 1 r_11 fun c_15 =>
 aggA 3 r_13 fun c_16 =>
 appA 5 80 (g s_5 2) (.rs 5 [[(g c_10 0), (g c_15 0), (g c_16 0), (g c_16 1), (g c_16 2)]]) h_14 fun x_17 h_18 =>
 oneA x_17 <|
 binA .add (g s_5 0) (I 1) fun x_19 =>
 K_7 [x_19, (g s_5 1), x_17] h_18) (retA (.agg [(g s_5 1), (g s_5 2)]) h_6 Q)) [(I 0), x_2, .e0] h_3
def c_vref03_Copy : Cfg := ⟨tab, [], [(4, ⟨[15], [3], [5, 15, 16, 17, 18, 19, 20, 21, 22, 23, 24, 25, 26, 27, 28, 29, 30, 31, 32, 33]⟩)], [(6, [0, 1, 2, 3, 4, 5, 7, 8, 6, 9, 10, 11, 12, 13, 14])], [24], []⟩
theorem vref03_Copy_eq (a0 : AV) (h : Heap) (Q : AV → Heap → Prop) : abody prog c_vref03_Copy f24 [a0] h Q = vref03_Copy a0 h Q := by kernel_rfl
theorem vref03_Copy_ok : fnB c_vref03_Copy f24 = true := by kernel_rfl
theorem vref03_Copy_call {a0 : AV} {h : Heap} {Q : AV → Heap → Prop} (hk : vref03_Copy a0 h Q) : ACalls prog n_vref03_Copy [a0] h Q := contract (cf := c_vref03_Copy) tab_ok prog_mixed func24 vref03_Copy_ok (Eq.mpr (vref03_Copy_eq a0 h Q) hk)
def vref03_Equal (a0 a1 : AV) (h : Heap) (Q : AV → Heap → Prop) : Prop :=
 aggA 2 a0 fun c_1 =>
 aggA 2 a1 fun c_2 =>
 lenA (g c_1 0) fun x_3 =>
 lenA (g c_2 0) fun x_4 =>
 binA .neq x_3 x_4 fun x_5 =>
 brA x_5 (retA (B false) h Q) (lenA (g c_1 1) fun x_6 =>
 lenA (g c_2 1) fun x_7 =>
 binA .neq x_6 x_7 fun x_8 =>
 brA x_8 (retA (B false) h Q) (lenA (g c_1 0) fun x_9 =>
 loopS (fun s_10 h_11 K_12 =>
 binA .lss (g s_10 0) x_9 fun x_13 =>
 brA x_13 (idxA 2 (g c_1 0) (g s_10 0) h_11 fun p_14 =>
 loadG 2 p_14 h_11 fun c_15 =>
 idxA 2 (g c_2 0) (g s_10 0) h_11 fun p_16 =>
 loadG 2 p_16 h_11 fun c_17 =>
 eqA [.str, (.int .i64)] true (.agg [(g c_15 0), (g c_15 1)]) (.agg [(g c_17 0), (g c_17 1)]) fun x_18 =>
 brA x_18 (retA (B false) h_11 Q) (binA .add (g s_10 0) (I 1) fun x_19 =>
 K_12 [x_19] h_11)) (lenA (g c_1 1) fun x_20 =>
 loopS (fun s_21 h_22 K_23 =>
 binA .lss (g s_21 0) x_20 fun x_24 =>
 brA x_24 (idxA 5 (g c_1 1) (g s_21 0) h_22 fun p_25 =>
 fldA 0 p_25 fun p_26 =>
 loadV p_26 h_22 fun x_27 =>
 idxA 5 (g c_2 1) (g s_21 0) h_22 fun p_28 =>
 fldA 0 p_28 fun p_29 =>
 loadV p_29 h_22 fun x_30 =>
 binA .neq x_27 x_30 fun x_31 =>
 brA x_31 (retA (B false) h_22 Q) (idxA 5 (g c_1 1) (g s_21 0) h_22 fun p_32 =>
 fldA 1 p_32 fun p_33 =>
 loadG 1 p_33 h_22 fun c_34 =>
 idxA 5 (g c_2 1) (g s_21 0) h_22 fun p_35 =>
 fldA 1 p_35 fun p_36 =>
 loadG 1 p_36 h_22 fun c_37 =>
 callS prog n_vref01_Equal [(.agg [(g c_34 0)]), (.agg [(g c_37 0)])] h_22 fun r_38 h_39 =>
 notA r_38 fun x_40 =>
 brA x_40 (retA (B false) h_39 Q) (idxA 5 (g c_1 1) (g s_21 0) h_39 fun p_41 =>
 fldA 2 p_41 fun p_42 =>
 loadG 3 p_42 h_39 fun c_43 =>
 idxA 5 (g c_2 1) (g s_21 0) h_39 fun p_44 =>
 fldA 2 p_44 fun p_45 =>
 loadG 3 p_45 h_39 fun c_46 =>
 callS prog n_vref02_Equal [(.agg [(g c_43 0), (g c_43 1), (g c_43 2)]), (.agg [(g c_46 0), (g c_46 1), (g c_46 2)])] h_39 fun r_47 h_48 =>
 notA r_47 fun x_49 =>
 brA x_49 (retA (B false) h_48 Q) (binA .add (g s_21 0) (I 1) fun x_50 =>
 K_23 [x_50] h_48)))) (retA (B true) h_22 Q)) [(I 0)] h_11)) [(I 0)] h))
def c_vref03_Equal : Cfg := ⟨tab, [], [(4, ⟨[26], [], [4, 5, 26, 27, 28, 29, 30, 31, 32, 33, 34, 35, 36, 37, 38, 39, 40]⟩), (10, ⟨[44], [], [4, 6, 44, 45, 46, 47, 48, 49, 50, 51, 52, 53, 54, 55, 56, 57, 58, 59, 60, 61, 62, 63, 64, 65, 66, 67, 68, 69, 70, 71, 72, 73, 74, 75, 76, 77, 78, 79, 80, 81, 82, 83, 84, 85, 86, 87, 88, 89, 90, 91, 92]⟩)], [(6, [0, 1, 2, 3, 4, 5, 6, 7, 8, 9, 10]), (12, [0, 1, 2, 3, 4, 5, 6, 7, 8, 9, 10, 11, 12, 13, 14, 15, 16, 17, 18, 19, 20, 21, 22, 23, 24, 25, 26, 27, 28, 29, 30, 31, 32, 33, 34, 35, 36, 37, 38, 39, 40, 41, 42, 43, 44])], [30, 32, 33, 35, 37, 38, 48, 50, 52, 54, 56, 58, 62, 64, 66, 68, 70, 72, 78, 80, 82, 84, 86, 88], [60, 76]⟩
theorem vref03_Equal_eq (a0 a1 : AV) (h : Heap) (Q : AV → Heap → Prop) : abody prog c_vref03_Equal f30 [a0, a1] h Q = vref03_Equal a0 a1 h Q := by kernel_rfl
theorem vref03_Equal_ok : fnB c_vref03_Equal f30 = true := by kernel_rfl
theorem vref03_Equal_call {a0 a1 : AV} {h : Heap} {Q : AV → Heap → Prop} (hk : vref03_Equal a0 a1 h Q) : ACalls prog n_vref03_Equal [a0, a1] h Q := contract (cf := c_vref03_Equal) tab_ok prog_mixed func30 vref03_Equal_ok (Eq.mpr (vref03_Equal_eq a0 a1 h Q) hk)
def vref03_Get (a0 : AV) (h : Heap) (Q : AV → Heap → Prop) : Prop :=
 lenS a0 fun x_1 =>
 binA .gtr x_1 (I 65536) fun x_2 =>
 brA x_2 (retA (.tup [(.agg [.e0, .e0]), (I 3)]) h Q) (callS prog n_vref03_names [a0] h fun r_3 h_4 =>
 tupA r_3 0 fun x_5 =>
 tupA r_3 1 fun x_6 =>
 tupA r_3 2 fun x_7 =>
 aggA 2 x_5 fun c_8 =>
 notA x_7 fun x_9 =>
 brA x_9 (retA (.tup [(.agg [.e0, .e0]), (I 4)]) h_4 Q) (lenA (g c_8 1) fun x_10 =>
 loopS (fun s_11 h_12 K_13 =>
 binA .lss (g s_11 1) x_10 fun x_14 =>
 brA x_14 (idxA 5 (g c_8 1) (g s_11 1) h_12 fun p_15 =>
 loadG 5 p_15 h_12 fun c_16 =>
 idxA 1 x_6 (g s_11 1) h_12 fun p_17 =>
 loadV p_17 h_12 fun x_18 =>
 callS prog n_vref03_parseTerm [(.agg [(g c_8 0), (g c_8 1)]), a0, x_18] h_12 fun r_19 h_20 =>
 tupA r_19 0 fun x_21 =>
 tupA r_19 1 fun x_22 =>
 tupA r_19 2 fun x_23 =>
 aggA 3 x_21 fun c_24 =>
 notA x_23 fun x_25 =>
 brA x_25 (retA (.tup [(.agg [.e0, .e0]), (I 4)]) h_20 Q) (callS prog n_vref03_begins [a0, x_22, (S { data := #[10] })] h_20 fun r_26 h_27 =>
 notA r_26 fun x_28 =>
 brA x_28 (retA (.tup [(.agg [.e0, .e0]), (I 4)]) h_27 Q) (oneA (g c_16 0) <|
 appA 5 80 (g s_11 0) (.rs 5 [[(g c_16 0), (g c_16 1), (g c_24 0), (g c_24 1), (g c_24 2)]]) h_27 fun x_29 h_30 =>
 binA .add (g s_11 1) (I 1) fun x_31 =>
 K_13 [x_29, x_31, (g s_11 2), (g s_11 3)] h_30))) (oneA (g s_11 0) <|
 callS prog n_vref03_Is [(.agg [(g c_8 0), (g s_11 0)])] h_12 fun r_32 h_33 =>
 notA r_32 fun x_34 =>
 brA x_34 (retA (.tup [(.agg [.e0, .e0]), (I 7)]) h_33 Q) (retA (.tup [(.agg [(g c_8 0), (g s_11 0)]), (I 0)]) h_33 Q))) [.e0, (I 0), .e0, .e0] h_4))
def c_vref03_Get : Cfg := ⟨tab, [], [(8, ⟨[7, 29], [2], [3, 7, 8, 9, 10, 11, 12, 29, 30, 31, 32, 33, 34, 35, 36, 37, 38, 39, 40, 41, 42, 43, 44, 45, 46, 47, 48, 49, 50, 51, 52, 53, 54, 55, 56, 57, 58, 59, 60, 61, 62, 63]⟩)], [(10, [11, 0, 1, 2, 3, 4, 5, 6, 7, 8, 9, 10, 12, 13, 14])], [35, 39, 40], []⟩
theorem vref03_Get_eq (a0 : AV) (h : Heap) (Q : AV → Heap → Prop) : abody prog c_vref03_Get f32 [a0] h Q = vref03_Get a0 h Q := by kernel_rfl
theorem vref03_Get_ok : fnB c_vref03_Get f32 = true := by kernel_rfl
theorem vref03_Get_call {a0 : AV} {h : Heap} {Q : AV → Heap → Prop} (hk : vref03_Get a0 h Q) : ACalls prog n_vref03_Get [a0] h Q := contract (cf := c_vref03_Get) tab_ok prog_mixed func32 vref03_Get_ok (Eq.mpr (vref03_Get_eq a0 h Q) hk)
def vref03_names (a0 : AV) (h : Heap) (Q : AV → Heap → Prop) : Prop :=
 loopS (fun s_1 h_2 K_3 =>
 callS prog n_vref03_begins [a0, (g s_1 0), (S { data := #[115, 121, 109, 98, 111, 108, 32] })] h_2 fun r_4 h_5 =>
 brA r_4 (binA .add (g s_1 0) (I 7) fun x_6 =>
 callS prog n_vref03_word [a0, x_6] h_5 fun r_7 h_8 =>
 binA .add (g s_1 0) (I 7) fun x_9 =>
 sliceA 0 a0 (some x_9) (some r_7) fun x_10 =>
 callS prog n_vref02_Name [x_10] h_8 fun r_11 h_12 =>
 notA r_11 fun x_13 =>
 brA x_13 (retA (.tup [(.agg [(g s_1 3), (g s_1 4)]), .e0, (B false)]) h_12 Q) (callS prog n_vref03_begins [a0, r_7, (S { data := #[32] })] h_12 fun r_14 h_15 =>
 notA r_14 fun x_16 =>
 brA x_16 (retA (.tup [(.agg [(g s_1 3), (g s_1 4)]), .e0, (B false)]) h_15 Q) (binA .add r_7 (I 1) fun x_17 =>
 callS prog n_vref03_number [a0, x_17] h_15 fun r_18 h_19 =>
 tupA r_18 0 fun x_20 =>
 tupA r_18 1 fun x_21 =>
 tupA r_18 2 fun x_22 =>
 notA x_22 fun x_23 =>
 brA x_23 (retA (.tup [(.agg [(g s_1 3), (g s_1 4)]), .e0, (B false)]) h_19 Q) (callS prog n_vref03_begins [a0, x_21, (S { data := #[10] })] h_19 fun r_24 h_25 =>
 notA r_24 fun x_26 =>
 brA x_26 (retA (.tup [(.agg [(g s_1 3), (g s_1 4)]), .e0, (B false)]) h_25 Q) (oneA x_10 <|
 oneA x_20 <|
 appA 2 24 (g s_1 3) (.rs 2 [[x_10, x_20]]) h_25 fun x_27 h_28 =>
 oneA x_27 <|
 binA .add x_21 (I 1) fun x_29 =>
 K_3 [x_29, (g s_1 1), (g s_1 2), x_27, (g s_1 4)] h_28))))) (loopS (fun s_30 h_31 K_32 =>
 callS prog n_vref03_begins [a0, (g s_30 1), (S { data := #[102, 117, 110, 32] })] h_31 fun r_33 h_34 =>
 brA r_33 (binA .add (g s_30 1) (I 4) fun x_35 =>
 callS prog n_vref03_word [a0, x_35] h_34 fun r_36 h_37 =>
 binA .add (g s_30 1) (I 4) fun x_38 =>
 sliceA 0 a0 (some x_38) (some r_36) fun x_39 =>
 callS prog n_vref02_Name [x_39] h_37 fun r_40 h_41 =>
 notA r_40 fun x_42 =>
 brA x_42 (retA (.tup [(.agg [(g s_30 4), (g s_30 5)]), .e0, (B false)]) h_41 Q) (callS prog n_vref03_begins [a0, r_36, (S { data := #[32, 58, 32] })] h_41 fun r_43 h_44 =>
 notA r_43 fun x_45 =>
 brA x_45 (retA (.tup [(.agg [(g s_30 4), (g s_30 5)]), .e0, (B false)]) h_44 Q) (binA .add r_36 (I 3) fun x_46 =>
 callS prog n_vref01_Parse [a0, x_46] h_44 fun r_47 h_48 =>
 tupA r_47 0 fun x_49 =>
 tupA r_47 1 fun x_50 =>
 tupA r_47 2 fun x_51 =>
 aggA 1 x_49 fun c_52 =>
 notA x_51 fun x_53 =>
 brA x_53 (retA (.tup [(.agg [(g s_30 4), (g s_30 5)]), .e0, (B false)]) h_48 Q) (callS prog n_vref03_begins [a0, x_50, (S { data := #[32, 61, 32] })] h_48 fun r_54 h_55 =>
 notA r_54 fun x_56 =>
 brA x_56 (retA (.tup [(.agg [(g s_30 4), (g s_30 5)]), .e0, (B false)]) h_55 Q) (oneA x_39 <|
 appA 5 80 (g s_30 5) (.rs 5 [[x_39, (g c_52 0), (I 0), (I 0), .e0]]) h_55 fun x_57 h_58 =>
 oneA x_57 <|
 binA .add x_50 (I 3) fun x_59 =>
 oneA x_59 <|
 appA 1 8 (g s_30 0) (.rs 1 [[x_59]]) h_58 fun x_60 h_61 =>
 loopS (fun s_62 h_63 K_64 =>
 lenS a0 fun x_65 =>
 binA .lss (g s_62 0) x_65 fun x_66 =>
 brA x_66 (strA a0 (g s_62 0) fun x_67 =>
 binA .neq x_67 (.val (.int .u8 10)) fun x_68 =>
 brA x_68 (binA .add (g s_62 0) (I 1) fun x_69 =>
 K_64 [x_69] h_63) (lenS a0 fun x_70 =>
 binA .eql (g s_62 0) x_70 fun x_71 =>
 brA x_71 (retA (.tup [(.agg [(g s_30 4), x_57]), .e0, (B false)]) h_63 Q) (binA .add (g s_62 0) (I 1) fun x_72 =>
 K_32 [x_60, x_72, (g s_30 2), (g s_30 3), (g s_30 4), x_57] h_63))) (lenS a0 fun x_73 =>
 binA .eql (g s_62 0) x_73 fun x_74 =>
 brA x_74 (retA (.tup [(.agg [(g s_30 4), x_57]), .e0, (B false)]) h_63 Q) (binA .add (g s_62 0) (I 1) fun x_75 =>
 K_32 [x_60, x_75, (g s_30 2), (g s_30 3), (g s_30 4), x_57] h_63))) [x_50] h_61))))) (lenS a0 fun x_76 =>
 binA .eql (g s_30 1) x_76 fun x_77 =>
 retA (.tup [(.agg [(g s_30 4), (g s_30 5)]), (g s_30 0), x_77]) h_34 Q)) [.e0, (g s_1 0), (g s_1 1), (g s_1 2), (g s_1 3), (g s_1 4)] h_5)) [(I 0), .e0, .e0, .e0, .e0] h
def c_vref03_names : Cfg := ⟨tab, [], [(4, ⟨[7], [2, 5], [3, 4, 7, 8, 9, 10, 11, 12, 18, 19, 20, 21, 22, 23, 24, 25, 26, 27, 28, 29, 30, 31, 32, 33, 34, 35, 36, 37, 38, 39, 40, 41, 42, 43, 44, 45, 46, 47, 48, 49, 50, 51, 52, 53, 54, 55, 56, 57, 58, 59, 60, 61, 62, 63, 64, 65, 66]⟩), (14, ⟨[6, 7], [2, 5], [3, 4, 6, 7, 13, 14, 15, 16, 17, 67, 68, 69, 70, 71, 72, 73, 74, 75, 76, 77, 78, 79, 80, 81, 82, 83, 84, 85, 86, 87, 88, 89, 90, 91, 92, 93, 94, 95, 96, 97, 98, 99, 100, 101, 102, 103, 104, 105, 106, 107, 108, 109, 110, 111, 112, 113, 114, 115, 116, 117, 118, 119, 120, 121, 122, 123, 124, 125, 126, 127, 128, 129, 130, 131, 132, 133, 134, 135, 136, 137, 138]⟩), (25, ⟨[7], [], [7, 120, 121, 122, 123, 124, 125, 126, 127, 128, 129, 130, 131]⟩)], [], [], []⟩
theorem vref03_names_eq (a0 : AV) (h : Heap) (Q : AV → Heap → Prop) : abody prog c_vref03_names f73 [a0] h Q = vref03_names a0 h Q := by kernel_rfl
theorem vref03_names_ok : fnB c_vref03_names f73 = true := by kernel_rfl
theorem vref03_names_call {a0 : AV} {h : Heap} {Q : AV → Heap → Prop} (hk : vref03_names a0 h Q) : ACalls prog n_vref03_names [a0] h Q := contract (cf := c_vref03_names) tab_ok prog_mixed func73 vref03_names_ok (Eq.mpr (vref03_names_eq a0 h Q) hk)
def vref03_parseTerm (a0 a1 a2 : AV) (h : Heap) (Q : AV → Heap → Prop) : Prop :=
 aggA 2 a0 fun c_1 =>
 callS prog n_vref03_parseHead [(.agg [(g c_1 0), (g c_1 1)]), a1, a2] h fun r_2 h_3 =>
 tupA r_2 0 fun x_4 =>
 tupA r_2 1 fun x_5 =>
 tupA r_2 2 fun x_6 =>
 aggA 3 x_4 fun c_7 =>
 loopS (fun s_8 h_9 K_10 =>
 brA (g s_8 1) (callS prog n_vref03_begins [a1, (g s_8 0), (S { data := #[32] })] h_9 fun r_11 h_12 =>
 brA r_11 (callS prog n_vref03_begins [a1, (g s_8 0), (S { data := #[32, 40] })] h_12 fun r_13 h_14 =>
 brA r_13 (binA .add (g s_8 0) (I 2) fun x_15 =>
 callS prog n_vref03_parseTerm [(.agg [(g c_1 0), (g c_1 1)]), a1, x_15] h_14 fun r_16 h_17 =>
 tupA r_16 0 fun x_18 =>
 tupA r_16 1 fun x_19 =>
 tupA r_16 2 fun x_20 =>
 aggA 3 x_18 fun c_21 =>
 brA x_20 (lenA (g c_21 2) fun x_22 =>
 binA .gtr x_22 (I 0) fun x_23 =>
 brA x_23 (callS prog n_vref03_begins [a1, x_19, (S { data := #[41] })] h_17 fun r_24 h_25 =>
 binA .add x_19 (I 1) fun x_26 =>
 appA 3 40 (g s_8 4) (.rs 3 [[(g c_21 0), (g c_21 1), (g c_21 2)]]) h_25 fun x_27 h_28 =>
 oneA x_27 <|
 K_10 [x_26, r_24, (g s_8 2), (g s_8 3), x_27] h_28) (binA .add x_19 (I 1) fun x_29 =>
 appA 3 40 (g s_8 4) (.rs 3 [[(g c_21 0), (g c_21 1), (g c_21 2)]]) h_17 fun x_30 h_31 =>
 oneA x_30 <|
 K_10 [x_29, (B false), (g s_8 2), (g s_8 3), x_30] h_31)) (binA .add x_19 (I 1) fun x_32 =>
 appA 3 40 (g s_8 4) (.rs 3 [[(g c_21 0), (g c_21 1), (g c_21 2)]]) h_17 fun x_33 h_34 =>
 oneA x_33 <|
 K_10 [x_32, (B false), (g s_8 2), (g s_8 3), x_33] h_34)) (binA .add (g s_8 0) (I 1) fun x_35 =>
 callS prog n_vref03_parseHead [(.agg [(g c_1 0), (g c_1 1)]), a1, x_35] h_14 fun r_36 h_37 =>
 tupA r_36 0 fun x_38 =>
 tupA r_36 1 fun x_39 =>
 tupA r_36 2 fun x_40 =>
 aggA 3 x_38 fun c_41 =>
 appA 3 40 (g s_8 4) (.rs 3 [[(g c_41 0), (g c_41 1), (g c_41 2)]]) h_37 fun x_42 h_43 =>
 oneA x_42 <|
 K_10 [x_39, x_40, (g s_8 2), (g s_8 3), x_42] h_43)) (retA (.tup [(.agg [(g s_8 2), (g s_8 3), (g s_8 4)]), (g s_8 0), (g s_8 1)]) h_12 Q)) (retA (.tup [(.agg [(g s_8 2), (g s_8 3), (g s_8 4)]), (g s_8 0), (g s_8 1)]) h_9 Q)) [x_5, x_6, (g c_7 0), (g c_7 1), (g c_7 2)] h_3
def c_vref03_parseTerm : Cfg := ⟨tab, [], [(2, ⟨[2, 10], [9], [2, 10, 11, 20, 21, 22, 23, 24, 25, 26, 27, 28, 29, 30, 31, 32, 33, 34, 35, 36, 37, 38, 39, 40, 41, 42, 43, 44, 45, 46, 47, 48, 49, 50, 51, 52, 53, 54, 55, 56, 57, 58, 59, 60, 61, 62, 63, 64, 65, 66]⟩)], [], [], []⟩
theorem vref03_parseTerm_eq (a0 a1 a2 : AV) (h : Heap) (Q : AV → Heap → Prop) : abody prog c_vref03_parseTerm f74 [a0, a1, a2] h Q = vref03_parseTerm a0 a1 a2 h Q := by kernel_rfl
theorem vref03_parseTerm_ok : fnB c_vref03_parseTerm f74 = true := by kernel_rfl
theorem vref03_parseTerm_call {a0 a1 a2 : AV} {h : Heap} {Q : AV → Heap → Prop} (hk : vref03_parseTerm a0 a1 a2 h Q) : ACalls prog n_vref03_parseTerm [a0, a1, a2] h Q := contract (cf := c_vref03_parseTerm) tab_ok prog_mixed func74 vref03_parseTerm_ok (Eq.mpr (vref03_parseTerm_eq a0 a1 a2 h Q) hk)
def vref03_begins (a0 a1 a2 : AV) (h : Heap) (Q : AV → Heap → Prop) : Prop :=
 lenS a0 fun x_1 =>
 binA .sub x_1 a1 fun x_2 =>
 lenS a2 fun x_3 =>
 binA .geq x_2 x_3 fun x_4 =>
 brA x_4 (lenS a2 fun x_5 =>
 binA .add a1 x_5 fun x_6 =>
 sliceA 0 a0 (some a1) (some x_6) fun x_7 =>
 binA .eql x_7 a2 fun x_8 =>
 retA x_8 h Q) (retA (B false) h Q)
def c_vref03_begins : Cfg := ⟨tab, [], [], [], [], []⟩
theorem vref03_begins_eq (a0 a1 a2 : AV) (h : Heap) (Q : AV → Heap → Prop) : abody prog c_vref03_begins f75 [a0, a1, a2] h Q = vref03_begins a0 a1 a2 h Q := by kernel_rfl
theorem vref03_begins_ok : fnB c_vref03_begins f75 = true := by kernel_rfl
theorem vref03_begins_call {a0 a1 a2 : AV} {h : Heap} {Q : AV → Heap → Prop} (hk : vref03_begins a0 a1 a2 h Q) : ACalls prog n_vref03_begins [a0, a1, a2] h Q := contract (cf := c_vref03_begins) tab_ok prog_mixed func75 vref03_begins_ok (Eq.mpr (vref03_begins_eq a0 a1 a2 h Q) hk)
def vref03_word (a0 a1 : AV) (h : Heap) (Q : AV → Heap → Prop) : Prop :=
 loopS (fun s_1 h_2 K_3 =>
 lenS a0 fun x_4 =>
 binA .lss (g s_1 0) x_4 fun x_5 =>
 brA x_5 (strA a0 (g s_1 0) fun x_6 =>
 binA .geq x_6 (.val (.int .u8 97)) fun x_7 =>
 brA x_7 (strA a0 (g s_1 0) fun x_8 =>
 binA .leq x_8 (.val (.int .u8 122)) fun x_9 =>
 brA x_9 (binA .add (g s_1 0) (I 1) fun x_10 =>
 K_3 [x_10] h_2) (strA a0 (g s_1 0) fun x_11 =>
 binA .geq x_11 (.val (.int .u8 48)) fun x_12 =>
 brA x_12 (strA a0 (g s_1 0) fun x_13 =>
 binA .leq x_13 (.val (.int .u8 57)) fun x_14 =>
 brA x_14 (binA .add (g s_1 0) (I 1) fun x_15 =>
 K_3 [x_15] h_2) (strA a0 (g s_1 0) fun x_16 =>
 binA .eql x_16 (.val (.int .u8 95)) fun x_17 =>
 brA x_17 (binA .add (g s_1 0) (I 1) fun x_18 =>
 K_3 [x_18] h_2) (retA (g s_1 0) h_2 Q))) (strA a0 (g s_1 0) fun x_19 =>
 binA .eql x_19 (.val (.int .u8 95)) fun x_20 =>
 brA x_20 (binA .add (g s_1 0) (I 1) fun x_21 =>
 K_3 [x_21] h_2) (retA (g s_1 0) h_2 Q)))) (strA a0 (g s_1 0) fun x_22 =>
 binA .geq x_22 (.val (.int .u8 48)) fun x_23 =>
 brA x_23 (strA a0 (g s_1 0) fun x_24 =>
 binA .leq x_24 (.val (.int .u8 57)) fun x_25 =>
 brA x_25 (binA .add (g s_1 0) (I 1) fun x_26 =>
 K_3 [x_26] h_2) (strA a0 (g s_1 0) fun x_27 =>
 binA .eql x_27 (.val (.int .u8 95)) fun x_28 =>
 brA x_28 (binA .add (g s_1 0) (I 1) fun x_29 =>
 K_3 [x_29] h_2) (retA (g s_1 0) h_2 Q))) (strA a0 (g s_1 0) fun x_30 =>
 binA .eql x_30 (.val (.int .u8 95)) fun x_31 =>
 brA x_31 (binA .add (g s_1 0) (I 1) fun x_32 =>
 K_3 [x_32] h_2) (retA (g s_1 0) h_2 Q)))) (retA (g s_1 0) h_2 Q)) [a1] h
def c_vref03_word : Cfg := ⟨tab, [], [(1, ⟨[1], [], [1, 5, 6, 7, 8, 9, 10, 11, 12, 13, 14, 15, 16, 17, 18, 19, 20, 21, 22, 23, 24, 25, 26, 27, 28, 29, 30, 31, 32, 33, 34, 35, 36, 37, 38, 39, 40]⟩)], [], [], []⟩
theorem vref03_word_eq (a0 a1 : AV) (h : Heap) (Q : AV → Heap → Prop) : abody prog c_vref03_word f123 [a0, a1] h Q = vref03_word a0 a1 h Q := by kernel_rfl
theorem vref03_word_ok : fnB c_vref03_word f123 = true := by kernel_rfl
theorem vref03_word_call {a0 a1 : AV} {h : Heap} {Q : AV → Heap → Prop} (hk : vref03_word a0 a1 h Q) : ACalls prog n_vref03_word [a0, a1] h Q := contract (cf := c_vref03_word) tab_ok prog_mixed func123 vref03_word_ok (Eq.mpr (vref03_word_eq a0 a1 h Q) hk)
def vref03_number (a0 a1 : AV) (h : Heap) (Q : AV → Heap → Prop) : Prop :=
 loopS (fun s_1 h_2 K_3 =>
 lenS a0 fun x_4 =>
 binA .lss (g s_1 0) x_4 fun x_5 =>
 brA x_5 (strA a0 (g s_1 0) fun x_6 =>
 binA .geq x_6 (.val (.int .u8 48)) fun x_7 =>
 brA x_7 (strA a0 (g s_1 0) fun x_8 =>
 binA .leq x_8 (.val (.int .u8 57)) fun x_9 =>
 brA x_9 (binA .sub (g s_1 0) a1 fun x_10 =>
 binA .lss x_10 (I 11) fun x_11 =>
 brA x_11 (binA .mul (I 10) (g s_1 1) fun x_12 =>
 strA a0 (g s_1 0) fun x_13 =>
 binA .sub x_13 (.val (.int .u8 48)) fun x_14 =>
 convA .i64 x_14 fun x_15 =>
 binA .add x_12 x_15 fun x_16 =>
 binA .add (g s_1 0) (I 1) fun x_17 =>
 K_3 [x_17, x_16] h_2) (binA .gtr (g s_1 0) a1 fun x_18 =>
 brA x_18 (binA .leq (g s_1 1) (I 1000000000) fun x_19 =>
 brA x_19 (binA .add a1 (I 1) fun x_20 =>
 binA .eql (g s_1 0) x_20 fun x_21 =>
 brA x_21 (retA (.tup [(g s_1 1), (g s_1 0), (B true)]) h_2 Q) (strA a0 a1 fun x_22 =>
 binA .neq x_22 (.val (.int .u8 48)) fun x_23 =>
 retA (.tup [(g s_1 1), (g s_1 0), x_23]) h_2 Q)) (retA (.tup [(g s_1 1), (g s_1 0), (B false)]) h_2 Q)) (retA (.tup [(g s_1 1), (g s_1 0), (B false)]) h_2 Q))) (binA .gtr (g s_1 0) a1 fun x_24 =>
 brA x_24 (binA .leq (g s_1 1) (I 1000000000) fun x_25 =>
 brA x_25 (binA .add a1 (I 1) fun x_26 =>
 binA .eql (g s_1 0) x_26 fun x_27 =>
 brA x_27 (retA (.tup [(g s_1 1), (g s_1 0), (B true)]) h_2 Q) (strA a0 a1 fun x_28 =>
 binA .neq x_28 (.val (.int .u8 48)) fun x_29 =>
 retA (.tup [(g s_1 1), (g s_1 0), x_29]) h_2 Q)) (retA (.tup [(g s_1 1), (g s_1 0), (B false)]) h_2 Q)) (retA (.tup [(g s_1 1), (g s_1 0), (B false)]) h_2 Q))) (binA .gtr (g s_1 0) a1 fun x_30 =>
 brA x_30 (binA .leq (g s_1 1) (I 1000000000) fun x_31 =>
 brA x_31 (binA .add a1 (I 1) fun x_32 =>
 binA .eql (g s_1 0) x_32 fun x_33 =>
 brA x_33 (retA (.tup [(g s_1 1), (g s_1 0), (B true)]) h_2 Q) (strA a0 a1 fun x_34 =>
 binA .neq x_34 (.val (.int .u8 48)) fun x_35 =>
 retA (.tup [(g s_1 1), (g s_1 0), x_35]) h_2 Q)) (retA (.tup [(g s_1 1), (g s_1 0), (B false)]) h_2 Q)) (retA (.tup [(g s_1 1), (g s_1 0), (B false)]) h_2 Q))) (binA .gtr (g s_1 0) a1 fun x_36 =>
 brA x_36 (binA .leq (g s_1 1) (I 1000000000) fun x_37 =>
 brA x_37 (binA .add a1 (I 1) fun x_38 =>
 binA .eql (g s_1 0) x_38 fun x_39 =>
 brA x_39 (retA (.tup [(g s_1 1), (g s_1 0), (B true)]) h_2 Q) (strA a0 a1 fun x_40 =>
 binA .neq x_40 (.val (.int .u8 48)) fun x_41 =>
 retA (.tup [(g s_1 1), (g s_1 0), x_41]) h_2 Q)) (retA (.tup [(g s_1 1), (g s_1 0), (B false)]) h_2 Q)) (retA (.tup [(g s_1 1), (g s_1 0), (B false)]) h_2 Q))) [a1, (I 0)] h
def c_vref03_number : Cfg := ⟨tab, [], [(2, ⟨[1, 7], [], [1, 7, 10, 11, 12, 13, 14, 15, 16, 17, 18, 19, 20, 21, 22, 23, 24, 25, 26, 27, 28, 29, 30, 31, 32, 33, 34, 35, 36, 37, 38, 39, 40, 41]⟩)], [(5, [0, 1, 2, 3, 4, 5, 6, 7, 8, 9, 10, 11, 12, 13, 14, 15, 16, 17, 18, 19, 20, 21, 22, 23])], [], [47, 51, 56]⟩
theorem vref03_number_eq (a0 a1 : AV) (h : Heap) (Q : AV → Heap → Prop) : abody prog c_vref03_number f124 [a0, a1] h Q = vref03_number a0 a1 h Q := by kernel_rfl
theorem vref03_number_ok : fnB c_vref03_number f124 = true := by kernel_rfl
theorem vref03_number_call {a0 a1 : AV} {h : Heap} {Q : AV → Heap → Prop} (hk : vref03_number a0 a1 h Q) : ACalls prog n_vref03_number [a0, a1] h Q := contract (cf := c_vref03_number) tab_ok prog_mixed func124 vref03_number_ok (Eq.mpr (vref03_number_eq a0 a1 h Q) hk)
def vref03_parseHead (a0 a1 a2 : AV) (h : Heap) (Q : AV → Heap → Prop) : Prop :=
 aggA 2 a0 fun c_1 =>
 callS prog n_vref03_begins [a1, a2, (S { data := #[36] })] h fun r_2 h_3 =>
 brA r_2 (binA .add a2 (I 1) fun x_4 =>
 callS prog n_vref03_number [a1, x_4] h_3 fun r_5 h_6 =>
 tupA r_5 0 fun x_7 =>
 tupA r_5 1 fun x_8 =>
 tupA r_5 2 fun x_9 =>
 oneA (I 0) <|
 oneA x_7 <|
 retA (.tup [(.agg [(I 0), x_7, .e0]), x_8, x_9]) h_6 Q) (callS prog n_vref03_begins [a1, a2, (S { data := #[35] })] h_3 fun r_10 h_11 =>
 brA r_10 (binA .add a2 (I 1) fun x_12 =>
 callS prog n_vref03_word [a1, x_12] h_11 fun r_13 h_14 =>
 sliceA 0 a1 (some x_12) (some r_13) fun x_15 =>
 callS prog n_vref03_index [(.agg [(g c_1 0), (g c_1 1)]), r_10, x_15] h_14 fun r_16 h_17 =>
 oneA (I 2) <|
 oneA r_16 <|
 binA .geq r_16 (I 0) fun x_18 =>
 retA (.tup [(.agg [(I 2), r_16, .e0]), r_13, x_18]) h_17 Q) (callS prog n_vref03_word [a1, a2] h_11 fun r_19 h_20 =>
 sliceA 0 a1 (some a2) (some r_19) fun x_21 =>
 callS prog n_vref03_index [(.agg [(g c_1 0), (g c_1 1)]), r_10, x_21] h_20 fun r_22 h_23 =>
 oneA (I 1) <|
 oneA r_22 <|
 binA .geq r_22 (I 0) fun x_24 =>
 retA (.tup [(.agg [(I 1), r_22, .e0]), r_19, x_24]) h_23 Q))
def c_vref03_parseHead : Cfg := ⟨tab, [], [], [(10, [0, 1, 2, 3, 4, 5, 6, 7])], [40], []⟩
theorem vref03_parseHead_eq (a0 a1 a2 : AV) (h : Heap) (Q : AV → Heap → Prop) : abody prog c_vref03_parseHead f126 [a0, a1, a2] h Q = vref03_parseHead a0 a1 a2 h Q := by kernel_rfl
theorem vref03_parseHead_ok : fnB c_vref03_parseHead f126 = true := by kernel_rfl
theorem vref03_parseHead_call {a0 a1 a2 : AV} {h : Heap} {Q : AV → Heap → Prop} (hk : vref03_parseHead a0 a1 a2 h Q) : ACalls prog n_vref03_parseHead [a0, a1, a2] h Q := contract (cf := c_vref03_parseHead) tab_ok prog_mixed func126 vref03_parseHead_ok (Eq.mpr (vref03_parseHead_eq a0 a1 a2 h Q) hk)
def vref03_index (a0 a1 a2 : AV) (h : Heap) (Q : AV → Heap → Prop) : Prop :=
 aggA 2 a0 fun c_1 =>
 loopS (fun s_2 h_3 K_4 =>
 brA a1 (lenA (g c_1 0) fun x_5 =>
 binA .lss (g s_2 0) x_5 fun x_6 =>
 brA x_6 (idxA 2 (g c_1 0) (g s_2 0) h_3 fun p_7 =>
 fldA 0 p_7 fun p_8 =>
 loadV p_8 h_3 fun x_9 =>
 binA .eql x_9 a2 fun x_10 =>
 brA x_10 (retA (g s_2 0) h_3 Q) (binA .add (g s_2 0) (I 1) fun x_11 =>
 K_4 [x_11] h_3)) (loopS (fun s_12 h_13 K_14 =>
 notA a1 fun x_15 =>
 brA x_15 (lenA (g c_1 1) fun x_16 =>
 binA .lss (g s_12 0) x_16 fun x_17 =>
 brA x_17 (idxA 5 (g c_1 1) (g s_12 0) h_13 fun p_18 =>
 fldA 0 p_18 fun p_19 =>
 loadV p_19 h_13 fun x_20 =>
 binA .eql x_20 a2 fun x_21 =>
 brA x_21 (retA (g s_12 0) h_13 Q) (binA .add (g s_12 0) (I 1) fun x_22 =>
 K_14 [x_22] h_13)) (retA (I (-1)) h_13 Q)) (retA (I (-1)) h_13 Q)) [(I 0)] h_3)) (loopS (fun s_23 h_24 K_25 =>
 notA a1 fun x_26 =>
 brA x_26 (lenA (g c_1 1) fun x_27 =>
 binA .lss (g s_23 0) x_27 fun x_28 =>
 brA x_28 (idxA 5 (g c_1 1) (g s_23 0) h_24 fun p_29 =>
 fldA 0 p_29 fun p_30 =>
 loadV p_30 h_24 fun x_31 =>
 binA .eql x_31 a2 fun x_32 =>
 brA x_32 (retA (g s_23 0) h_24 Q) (binA .add (g s_23 0) (I 1) fun x_33 =>
 K_25 [x_33] h_24)) (retA (I (-1)) h_24 Q)) (retA (I (-1)) h_24 Q)) [(I 0)] h_3)) [(I 0)] h
def c_vref03_index : Cfg := ⟨tab, [], [(2, ⟨[7], [], [6, 7, 9, 10, 11, 12, 13, 14, 15, 16, 17, 18, 19, 20, 21, 22, 23, 24, 25, 26, 27]⟩), (7, ⟨[8], [], [6, 8, 28, 29, 30, 31, 32, 33, 34, 35, 36, 37, 38, 39, 40, 41, 42, 43, 44, 45, 46, 47]⟩)], [], [], []⟩
theorem vref03_index_eq (a0 a1 a2 : AV) (h : Heap) (Q : AV → Heap → Prop) : abody prog c_vref03_index f172 [a0, a1, a2] h Q = vref03_index a0 a1 a2 h Q := by kernel_rfl
theorem vref03_index_ok : fnB c_vref03_index f172 = true := by kernel_rfl
theorem vref03_index_call {a0 a1 a2 : AV} {h : Heap} {Q : AV → Heap → Prop} (hk : vref03_index a0 a1 a2 h Q) : ACalls prog n_vref03_index [a0, a1, a2] h Q := contract (cf := c_vref03_index) tab_ok prog_mixed func172 vref03_index_ok (Eq.mpr (vref03_index_eq a0 a1 a2 h Q) hk)
def vref01_Parse (a0 a1 : AV) (h : Heap) (Q : AV → Heap → Prop) : Prop :=
 loopS (fun s_1 h_2 K_3 =>
 callS prog n_vref01_begins [a0, (g s_1 0), (S { data := #[111] })] h_2 fun r_4 h_5 =>
 brA r_4 (binA .add (g s_1 0) (I 1) fun x_6 =>
 callS prog n_vref01_begins [a0, x_6, (S { data := #[32, 62, 32] })] h_5 fun r_7 h_8 =>
 notA r_7 fun x_9 =>
 brA x_9 (retA (.tup [(.agg [(g s_1 2)]), x_6, (B true)]) h_8 Q) (appA 1 24 (g s_1 2) (.rs 1 [[.e0]]) h_8 fun x_10 h_11 =>
 oneA x_10 <|
 binA .add x_6 (I 3) fun x_12 =>
 K_3 [x_12, (g s_1 1), x_10] h_11)) (callS prog n_vref01_begins [a0, (g s_1 0), (S { data := #[40] })] h_5 fun r_13 h_14 =>
 notA r_13 fun x_15 =>
 brA x_15 (retA (.tup [(.agg [(g s_1 2)]), (g s_1 0), (B false)]) h_14 Q) (binA .add (g s_1 0) (I 1) fun x_16 =>
 callS prog n_vref01_Parse [a0, x_16] h_14 fun r_17 h_18 =>
 tupA r_17 0 fun x_19 =>
 tupA r_17 1 fun x_20 =>
 tupA r_17 2 fun x_21 =>
 aggA 1 x_19 fun c_22 =>
 notA x_21 fun x_23 =>
 brA x_23 (retA (.tup [(.agg [(g s_1 2)]), (g s_1 0), (B false)]) h_18 Q) (lenA (g c_22 0) fun x_24 =>
 binA .eql x_24 (I 0) fun x_25 =>
 brA x_25 (retA (.tup [(.agg [(g s_1 2)]), (g s_1 0), (B false)]) h_18 Q) (callS prog n_vref01_begins [a0, x_20, (S { data := #[41, 32, 62, 32] })] h_18 fun r_26 h_27 =>
 notA r_26 fun x_28 =>
 brA x_28 (retA (.tup [(.agg [(g s_1 2)]), (g s_1 0), (B false)]) h_27 Q) (appA 1 24 (g s_1 2) (.rs 1 [[(g c_22 0)]]) h_27 fun x_29 h_30 =>
 oneA x_29 <|
 binA .add x_20 (I 4) fun x_31 =>
 K_3 [x_31, (g s_1 1), x_29] h_30)))))) [a1, .e0, .e0] h
def c_vref01_Parse : Cfg := ⟨tab, [], [(2, ⟨[1], [4, 7], [1, 5, 6, 8, 9, 10, 11, 12, 13, 14, 15, 16, 17, 18, 19, 20, 21, 22, 23, 24, 25, 26, 27, 28, 29, 30, 31, 32, 33, 34, 35, 36, 37, 38, 39, 40, 41, 42, 43, 44, 45, 46, 47, 48, 49, 50, 51, 52, 53, 54, 55, 56, 57, 58, 59, 60, 61, 62, 63, 64, 65, 66, 67]⟩)], [], [], []⟩
theorem vref01_Parse_eq (a0 a1 : AV) (h : Heap) (Q : AV → Heap → Prop) : abody prog c_vref01_Parse f125 [a0, a1] h Q = vref01_Parse a0 a1 h Q := by kernel_rfl
theorem vref01_Parse_ok : fnB c_vref01_Parse f125 = true := by kernel_rfl
theorem vref01_Parse_call {a0 a1 : AV} {h : Heap} {Q : AV → Heap → Prop} (hk : vref01_Parse a0 a1 h Q) : ACalls prog n_vref01_Parse [a0, a1] h Q := contract (cf := c_vref01_Parse) tab_ok prog_mixed func125 vref01_Parse_ok (Eq.mpr (vref01_Parse_eq a0 a1 h Q) hk)
def vref01_begins (a0 a1 a2 : AV) (h : Heap) (Q : AV → Heap → Prop) : Prop :=
 lenS a0 fun x_1 =>
 binA .sub x_1 a1 fun x_2 =>
 lenS a2 fun x_3 =>
 binA .geq x_2 x_3 fun x_4 =>
 brA x_4 (lenS a2 fun x_5 =>
 binA .add a1 x_5 fun x_6 =>
 sliceA 0 a0 (some a1) (some x_6) fun x_7 =>
 binA .eql x_7 a2 fun x_8 =>
 retA x_8 h Q) (retA (B false) h Q)
def c_vref01_begins : Cfg := ⟨tab, [], [], [], [], []⟩
theorem vref01_begins_eq (a0 a1 a2 : AV) (h : Heap) (Q : AV → Heap → Prop) : abody prog c_vref01_begins f171 [a0, a1, a2] h Q = vref01_begins a0 a1 a2 h Q := by kernel_rfl
theorem vref01_begins_ok : fnB c_vref01_begins f171 = true := by kernel_rfl
theorem vref01_begins_call {a0 a1 a2 : AV} {h : Heap} {Q : AV → Heap → Prop} (hk : vref01_begins a0 a1 a2 h Q) : ACalls prog n_vref01_begins [a0, a1, a2] h Q := contract (cf := c_vref01_begins) tab_ok prog_mixed func171 vref01_begins_ok (Eq.mpr (vref01_begins_eq a0 a1 a2 h Q) hk)
def flow_Reached (a0 : AV) (h : Heap) (Q : AV → Heap → Prop) : Prop :=
 aggA 2 a0 fun c_1 =>
 callS prog n_scheme_Check [(.agg [(g c_1 0), (g c_1 1)])] h fun r_2 h_3 =>
 binA .neq r_2 (I 0) fun x_4 =>
 brA x_4 (retA (.tup [.e0, r_2]) h_3 Q) (callS prog n_flow_reached [(.agg [(g c_1 0), (g c_1 1)])] h_3 fun r_5 h_6 =>
 retA (.tup [r_5, (I 0)]) h_6 Q)
def c_flow_Reached : Cfg := ⟨tab, [], [], [], [], []⟩
theorem flow_Reached_eq (a0 : AV) (h : Heap) (Q : AV → Heap → Prop) : abody prog c_flow_Reached f26 [a0] h Q = flow_Reached a0 h Q := by kernel_rfl
theorem flow_Reached_ok : fnB c_flow_Reached f26 = true := by kernel_rfl
theorem flow_Reached_call {a0 : AV} {h : Heap} {Q : AV → Heap → Prop} (hk : flow_Reached a0 h Q) : ACalls prog n_flow_Reached [a0] h Q := contract (cf := c_flow_Reached) tab_ok prog_mixed func26 flow_Reached_ok (Eq.mpr (flow_Reached_eq a0 h Q) hk)
def flow_reached (a0 : AV) (h : Heap) (Q : AV → Heap → Prop) : Prop :=
 aggA 2 a0 fun c_1 =>
 newA 2 [(g c_1 0), (g c_1 1)] h fun p_2 h_3 =>
 fldA 1 p_2 fun p_4 =>
 loadV p_4 h_3 fun x_5 =>
 lenA x_5 fun x_6 =>
 mkA 1 1 [(B false)] x_6 x_6 h_3 fun x_7 h_8 =>
 newA 1 [.e0] h_8 fun p_9 h_10 =>
 oneA x_7 <|
 storeG p_9 [x_7] h_10 fun h_11 =>
 newA 1 [(.val .nilFunc)] h_11 fun p_12 h_13 =>
 oneA (.fn 119 [p_9, p_12, p_2]) <|
 storeG p_12 [(.fn 119 [p_9, p_12, p_2])] h_13 fun h_14 =>
 loadV p_9 h_14 fun x_15 =>
 idxA 1 x_15 (I 0) h_14 fun p_16 =>
 storeG p_16 [(B true)] h_14 fun h_17 =>
 loadV p_12 h_17 fun x_18 =>
 fldA 1 p_2 fun p_19 =>
 loadV p_19 h_17 fun x_20 =>
 idxA 5 x_20 (I 0) h_17 fun p_21 =>
 fldA 2 p_21 fun p_22 =>
 loadG 3 p_22 h_17 fun c_23 =>
 callV prog x_18 [(.agg [(g c_23 0), (g c_23 1), (g c_23 2)])] h_17 fun r_24 h_25 =>
 loadV p_9 h_25 fun x_26 =>
 retA x_26 h_25 Q
def c_flow_reached : Cfg := ⟨tab, [1, 3, 4], [], [(5, [0, 1, 2, 3, 4, 5, 6])], [12, 14, 15, 17], []⟩
theorem flow_reached_eq (a0 : AV) (h : Heap) (Q : AV → Heap → Prop) : abody prog c_flow_reached f67 [a0] h Q = flow_reached a0 h Q := by kernel_rfl
theorem flow_reached_ok : fnB c_flow_reached f67 = true := by kernel_rfl
theorem flow_reached_call {a0 : AV} {h : Heap} {Q : AV → Heap → Prop} (hk : flow_reached a0 h Q) : ACalls prog n_flow_reached [a0] h Q := contract (cf := c_flow_reached) tab_ok prog_mixed func67 flow_reached_ok (Eq.mpr (flow_reached_eq a0 h Q) hk)
def flow_reached_1 (a0 a1 a2 a3 : AV) (h : Heap) (Q : AV → Heap → Prop) : Prop :=
 aggA 3 a0 fun c_1 =>
 binA .eql (g c_1 0) (I 1) fun x_2 =>
 brA x_2 (loadV a1 h fun x_3 =>
 idxA 1 x_3 (g c_1 1) h fun p_4 =>
 loadV p_4 h fun x_5 =>
 notA x_5 fun x_6 =>
 brA x_6 (loadV a1 h fun x_7 =>
 idxA 1 x_7 (g c_1 1) h fun p_8 =>
 storeG p_8 [(B true)] h fun h_9 =>
 loadV a2 h_9 fun x_10 =>
 fldA 1 a3 fun p_11 =>
 loadV p_11 h_9 fun x_12 =>
 idxA 5 x_12 (g c_1 1) h_9 fun p_13 =>
 fldA 2 p_13 fun p_14 =>
 loadG 3 p_14 h_9 fun c_15 =>
 callV prog x_10 [(.agg [(g c_15 0), (g c_15 1), (g c_15 2)])] h_9 fun r_16 h_17 =>
 lenA (g c_1 2) fun x_18 =>
 loopS (fun s_19 h_20 K_21 =>
 binA .lss (g s_19 0) x_18 fun x_22 =>
 brA x_22 (idxA 3 (g c_1 2) (g s_19 0) h_20 fun p_23 =>
 loadG 3 p_23 h_20 fun c_24 =>
 loadV a2 h_20 fun x_25 =>
 callV prog x_25 [(.agg [(g c_24 0), (g c_24 1), (g c_24 2)])] h_20 fun r_26 h_27 =>
 binA .add (g s_19 0) (I 1) fun x_28 =>
 K_21 [x_28] h_27) (retA (.tup []) h_20 Q)) [(I 0)] h_17) (lenA (g c_1 2) fun x_29 =>
 loopS (fun s_30 h_31 K_32 =>
 binA .lss (g s_30 0) x_29 fun x_33 =>
 brA x_33 (idxA 3 (g c_1 2) (g s_30 0) h_31 fun p_34 =>
 loadG 3 p_34 h_31 fun c_35 =>
 loadV a2 h_31 fun x_36 =>
 callV prog x_36 [(.agg [(g c_35 0), (g c_35 1), (g c_35 2)])] h_31 fun r_37 h_38 =>
 binA .add (g s_30 0) (I 1) fun x_39 =>
 K_32 [x_39] h_38) (retA (.tup []) h_31 Q)) [(I 0)] h)) (lenA (g c_1 2) fun x_40 =>
 loopS (fun s_41 h_42 K_43 =>
 binA .lss (g s_41 0) x_40 fun x_44 =>
 brA x_44 (idxA 3 (g c_1 2) (g s_41 0) h_42 fun p_45 =>
 loadG 3 p_45 h_42 fun c_46 =>
 loadV a2 h_42 fun x_47 =>
 callV prog x_47 [(.agg [(g c_46 0), (g c_46 1), (g c_46 2)])] h_42 fun r_48 h_49 =>
 binA .add (g s_41 0) (I 1) fun x_50 =>
 K_43 [x_50] h_49) (retA (.tup []) h_42 Q)) [(I 0)] h)
def c_flow_reached_1 : Cfg := ⟨tab, [], [(5, ⟨[34], [], [6, 34, 35, 36, 37, 38, 39, 40, 41]⟩)], [(3, [0, 1, 2, 3, 4, 5, 6, 7, 8])], [22, 24, 26, 27, 29], []⟩
theorem flow_reached_1_eq (a0 a1 a2 a3 : AV) (h : Heap) (Q : AV → Heap → Prop) : abody prog c_flow_reached_1 f119 [a0, a1, a2, a3] h Q = flow_reached_1 a0 a1 a2 a3 h Q := by kernel_rfl
theorem flow_reached_1_ok : fnB c_flow_reached_1 f119 = true := by kernel_rfl
theorem flow_reached_1_call {a0 a1 a2 a3 : AV} {h : Heap} {Q : AV → Heap → Prop} (hk : flow_reached_1 a0 a1 a2 a3 h Q) : ACalls prog n_flow_reached_1 [a0, a1, a2, a3] h Q := contract (cf := c_flow_reached_1) tab_ok prog_mixed func119 flow_reached_1_ok (Eq.mpr (flow_reached_1_eq a0 a1 a2 a3 h Q) hk)
def vref19_Reach (a0 : AV) (h : Heap) (Q : AV → Heap → Prop) : Prop :=
 aggA 2 a0 fun c_1 =>
 lenA (g c_1 1) fun x_2 =>
 mkA 1 1 [(B false)] x_2 x_2 h fun x_3 h_4 =>
 idxA 1 x_3 (I 0) h_4 fun p_5 =>
 storeG p_5 [(B true)] h_4 fun h_6 =>
 loopS (fun s_7 h_8 K_9 =>
 brA (g s_7 0) (lenA (g c_1 1) fun x_10 =>
 loopS (fun s_11 h_12 K_13 =>
 binA .lss (g s_11 1) x_10 fun x_14 =>
 brA x_14 (idxA 5 (g c_1 1) (g s_11 1) h_12 fun p_15 =>
 loadG 5 p_15 h_12 fun c_16 =>
 callS prog n_vref19_Nodes [(.agg [(g c_16 2), (g c_16 3), (g c_16 4)]), .e0] h_12 fun r_17 h_18 =>
 lenA r_17 fun x_19 =>
 loopS (fun s_20 h_21 K_22 =>
 binA .lss (g s_20 1) x_19 fun x_23 =>
 brA x_23 (idxA 3 r_17 (g s_20 1) h_21 fun p_24 =>
 loadG 3 p_24 h_21 fun c_25 =>
 idxA 1 x_3 (g s_11 1) h_21 fun p_26 =>
 loadV p_26 h_21 fun x_27 =>
 brA x_27 (binA .eql (g c_25 0) (I 1) fun x_28 =>
 brA x_28 (idxA 1 x_3 (g c_25 1) h_21 fun p_29 =>
 loadV p_29 h_21 fun x_30 =>
 notA x_30 fun x_31 =>
 brA x_31 (idxA 1 x_3 (g c_25 1) h_21 fun p_32 =>
 storeG p_32 [(B true)] h_21 fun h_33 =>
 binA .add (g s_20 1) (I 1) fun x_34 =>
 K_22 [(B true), x_34] h_33) (binA .add (g s_20 1) (I 1) fun x_35 =>
 K_22 [(g s_20 0), x_35] h_21)) (binA .add (g s_20 1) (I 1) fun x_36 =>
 K_22 [(g s_20 0), x_36] h_21)) (binA .add (g s_20 1) (I 1) fun x_37 =>
 K_22 [(g s_20 0), x_37] h_21)) (binA .add (g s_11 1) (I 1) fun x_38 =>
 K_13 [(g s_20 0), x_38] h_21)) [(g s_11 0), (I 0)] h_18) (K_9 [(g s_11 0)] h_12)) [(B false), (I 0)] h_8) (retA x_3 h_8 Q)) [(B true)] h_6
def c_vref19_Reach : Cfg := ⟨tab, [], [(4, ⟨[4], [], [4, 5, 6, 8, 15, 16, 17, 18, 19, 20, 21, 22, 23, 24, 25, 26, 27, 28, 29, 30, 31, 32, 33, 34, 35, 36, 37, 38, 39, 40, 41, 42, 43, 44, 45, 46, 47, 48, 49, 50, 51, 52, 53, 54]⟩), (7, ⟨[4, 19], [], [4, 5, 6, 8, 19, 20, 21, 22, 23, 24, 25, 26, 27, 28, 29, 30, 31, 32, 33, 34, 35, 36, 37, 38, 39, 40, 41, 42, 43, 44, 45, 46, 47, 48, 49, 50, 51, 52, 53, 54]⟩), (10, ⟨[4, 28], [], [4, 8, 28, 29, 30, 31, 32, 33, 34, 35, 36, 37, 38, 39, 40, 41, 42, 43, 44, 45, 46, 47, 48, 49, 50, 51, 52, 53]⟩)], [], [], []⟩
theorem vref19_Reach_eq (a0 : AV) (h : Heap) (Q : AV → Heap → Prop) : abody prog c_vref19_Reach f77 [a0] h Q = vref19_Reach a0 h Q := by kernel_rfl
theorem vref19_Reach_ok : fnB c_vref19_Reach f77 = true := by kernel_rfl
theorem vref19_Reach_call {a0 : AV} {h : Heap} {Q : AV → Heap → Prop} (hk : vref19_Reach a0 h Q) : ACalls prog n_vref19_Reach [a0] h Q := contract (cf := c_vref19_Reach) tab_ok prog_mixed func77 vref19_Reach_ok (Eq.mpr (vref19_Reach_eq a0 h Q) hk)
def vref19_Nodes (a0 a1 : AV) (h : Heap) (Q : AV → Heap → Prop) : Prop :=
 aggA 3 a0 fun c_1 =>
 appA 3 40 a1 (.rs 3 [[(g c_1 0), (g c_1 1), (g c_1 2)]]) h fun x_2 h_3 =>
 lenA (g c_1 2) fun x_4 =>
 loopS (fun s_5 h_6 K_7 =>
 binA .lss (g s_5 1) x_4 fun x_8 =>
 brA x_8 (idxA 3 (g c_1 2) (g s_5 1) h_6 fun p_9 =>
 loadG 3 p_9 h_6 fun c_10 =>
 callS prog n_vref19_Nodes [(.agg [(g c_10 0), (g c_10 1), (g c_10 2)]), (g s_5 0)] h_6 fun r_11 h_12 =>
 binA .add (g s_5 1) (I 1) fun x_13 =>
 K_7 [r_11, x_13] h_12) (retA (g s_5 0) h_6 Q)) [x_2, (I 0)] h_3
def c_vref19_Nodes : Cfg := ⟨tab, [], [(3, ⟨[1, 14], [], [1, 6, 14, 15, 16, 17, 18, 19, 20, 21]⟩)], [], [], []⟩
theorem vref19_Nodes_eq (a0 a1 : AV) (h : Heap) (Q : AV → Heap → Prop) : abody prog c_vref19_Nodes f115 [a0, a1] h Q = vref19_Nodes a0 a1 h Q := by kernel_rfl
theorem vref19_Nodes_ok : fnB c_vref19_Nodes f115 = true := by kernel_rfl
theorem vref19_Nodes_call {a0 a1 : AV} {h : Heap} {Q : AV → Heap → Prop} (hk : vref19_Nodes a0 a1 h Q) : ACalls prog n_vref19_Nodes [a0, a1] h Q := contract (cf := c_vref19_Nodes) tab_ok prog_mixed func115 vref19_Nodes_ok (Eq.mpr (vref19_Nodes_eq a0 a1 h Q) hk)
end Am
