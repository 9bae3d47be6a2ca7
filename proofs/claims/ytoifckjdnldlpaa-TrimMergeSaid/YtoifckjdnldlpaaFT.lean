/- Short texts of functions, made by program; each with its contract's rule. -/
import Derived.Test.YtoifckjdnldlpaaG0
set_option linter.unusedVariables false
set_option linter.unusedSimpArgs false
namespace Am
open Go Go.Proofs.Try
def trim_Reach (a0 : AV) (h : Heap) (Q : AV → Heap → Prop) : Prop :=
 aggA 2 a0 fun c_1 =>
 callS prog n_trim_apply [(.agg [(g c_1 0), (g c_1 1)]), (.fn 114 [])] h fun r_2 h_3 =>
 tupA r_2 0 fun x_4 =>
 tupA r_2 1 fun x_5 =>
 aggA 2 x_4 fun c_6 =>
 retA (.tup [(.agg [(g c_6 0), (g c_6 1)]), x_5]) h_3 Q
def c_trim_Reach : Cfg := ⟨tab, [], [], [], [], []⟩
theorem trim_Reach_eq (a0 : AV) (h : Heap) (Q : AV → Heap → Prop) : abody prog c_trim_Reach f48 [a0] h Q = trim_Reach a0 h Q := by kernel_rfl
theorem trim_Reach_ok : fnB c_trim_Reach f48 = true := by kernel_rfl
theorem trim_Reach_call {a0 : AV} {h : Heap} {Q : AV → Heap → Prop} (hk : trim_Reach a0 h Q) : ACalls prog n_trim_Reach [a0] h Q := contract (cf := c_trim_Reach) tab_ok prog_mixed func48 trim_Reach_ok (Eq.mpr (trim_Reach_eq a0 h Q) hk)
def trim_Merge (a0 : AV) (h : Heap) (Q : AV → Heap → Prop) : Prop :=
 aggA 2 a0 fun c_1 =>
 callS prog n_trim_apply [(.agg [(g c_1 0), (g c_1 1)]), (.fn 117 [])] h fun r_2 h_3 =>
 tupA r_2 0 fun x_4 =>
 tupA r_2 1 fun x_5 =>
 aggA 2 x_4 fun c_6 =>
 retA (.tup [(.agg [(g c_6 0), (g c_6 1)]), x_5]) h_3 Q
def c_trim_Merge : Cfg := ⟨tab, [], [], [], [], []⟩
theorem trim_Merge_eq (a0 : AV) (h : Heap) (Q : AV → Heap → Prop) : abody prog c_trim_Merge f51 [a0] h Q = trim_Merge a0 h Q := by kernel_rfl
theorem trim_Merge_ok : fnB c_trim_Merge f51 = true := by kernel_rfl
theorem trim_Merge_call {a0 : AV} {h : Heap} {Q : AV → Heap → Prop} (hk : trim_Merge a0 h Q) : ACalls prog n_trim_Merge [a0] h Q := contract (cf := c_trim_Merge) tab_ok prog_mixed func51 trim_Merge_ok (Eq.mpr (trim_Merge_eq a0 h Q) hk)
def trim_Drop (a0 : AV) (h : Heap) (Q : AV → Heap → Prop) : Prop :=
 aggA 2 a0 fun c_1 =>
 callS prog n_trim_apply [(.agg [(g c_1 0), (g c_1 1)]), (.fn 120 [])] h fun r_2 h_3 =>
 tupA r_2 0 fun x_4 =>
 tupA r_2 1 fun x_5 =>
 aggA 2 x_4 fun c_6 =>
 retA (.tup [(.agg [(g c_6 0), (g c_6 1)]), x_5]) h_3 Q
def c_trim_Drop : Cfg := ⟨tab, [], [], [], [], []⟩
theorem trim_Drop_eq (a0 : AV) (h : Heap) (Q : AV → Heap → Prop) : abody prog c_trim_Drop f53 [a0] h Q = trim_Drop a0 h Q := by kernel_rfl
theorem trim_Drop_ok : fnB c_trim_Drop f53 = true := by kernel_rfl
theorem trim_Drop_call {a0 : AV} {h : Heap} {Q : AV → Heap → Prop} (hk : trim_Drop a0 h Q) : ACalls prog n_trim_Drop [a0] h Q := contract (cf := c_trim_Drop) tab_ok prog_mixed func53 trim_Drop_ok (Eq.mpr (trim_Drop_eq a0 h Q) hk)
def trim_All (a0 : AV) (h : Heap) (Q : AV → Heap → Prop) : Prop :=
 aggA 2 a0 fun c_1 =>
 callS prog n_trim_apply [(.agg [(g c_1 0), (g c_1 1)]), (.fn 157 [])] h fun r_2 h_3 =>
 tupA r_2 0 fun x_4 =>
 tupA r_2 1 fun x_5 =>
 aggA 2 x_4 fun c_6 =>
 retA (.tup [(.agg [(g c_6 0), (g c_6 1)]), x_5]) h_3 Q
def c_trim_All : Cfg := ⟨tab, [], [], [], [], []⟩
theorem trim_All_eq (a0 : AV) (h : Heap) (Q : AV → Heap → Prop) : abody prog c_trim_All f110 [a0] h Q = trim_All a0 h Q := by kernel_rfl
theorem trim_All_ok : fnB c_trim_All f110 = true := by kernel_rfl
theorem trim_All_call {a0 : AV} {h : Heap} {Q : AV → Heap → Prop} (hk : trim_All a0 h Q) : ACalls prog n_trim_All [a0] h Q := contract (cf := c_trim_All) tab_ok prog_mixed func110 trim_All_ok (Eq.mpr (trim_All_eq a0 h Q) hk)
def trim_apply (a0 a1 : AV) (h : Heap) (Q : AV → Heap → Prop) : Prop :=
 aggA 2 a0 fun c_1 =>
 callS prog n_scheme_Check [(.agg [(g c_1 0), (g c_1 1)])] h fun r_2 h_3 =>
 binA .neq r_2 (I 0) fun x_4 =>
 brA x_4 (retA (.tup [(.agg [.e0, .e0]), r_2]) h_3 Q) (callS prog n_trim_copied [(.agg [(g c_1 0), (g c_1 1)])] h_3 fun r_5 h_6 =>
 newA 2 [.e0, .e0] h_6 fun p_7 h_8 =>
 aggA 2 r_5 fun c_9 =>
 storeG p_7 [(g c_9 0), (g c_9 1)] h_8 fun h_10 =>
 loopS (fun s_11 h_12 K_13 =>
 callV prog a1 [p_7] h_12 fun r_14 h_15 =>
 brA r_14 (K_13 [] h_15) (loadG 2 p_7 h_15 fun c_16 =>
 retA (.tup [(.agg [(g c_16 0), (g c_16 1)]), (I 0)]) h_15 Q)) [] h_10)
def c_trim_apply : Cfg := ⟨tab, [7], [(5, ⟨[], [], [16, 17]⟩)], [], [], []⟩
theorem trim_apply_eq (a0 a1 : AV) (h : Heap) (Q : AV → Heap → Prop) : abody prog c_trim_apply f113 [a0, a1] h Q = trim_apply a0 a1 h Q := by kernel_rfl
theorem trim_apply_ok : fnB c_trim_apply f113 = true := by kernel_rfl
theorem trim_apply_call {a0 a1 : AV} {h : Heap} {Q : AV → Heap → Prop} (hk : trim_apply a0 a1 h Q) : ACalls prog n_trim_apply [a0, a1] h Q := contract (cf := c_trim_apply) tab_ok prog_mixed func113 trim_apply_ok (Eq.mpr (trim_apply_eq a0 a1 h Q) hk)
def trim_reach (a0 : AV) (h : Heap) (Q : AV → Heap → Prop) : Prop :=
 nilA a0 <|
 loadG 2 a0 h fun c_1 =>
 callS prog n_flow_Reached [(.agg [(g c_1 0), (g c_1 1)])] h fun r_2 h_3 =>
 tupA r_2 0 fun x_4 =>
 tupA r_2 1 fun x_5 =>
 newA 1 [.e0] h_3 fun p_6 h_7 =>
 oneA x_4 <|
 storeG p_6 [x_4] h_7 fun h_8 =>
 nilA a0 <|
 fldA 1 a0 fun p_9 =>
 loadV p_9 h_8 fun x_10 =>
 lenA x_10 fun x_11 =>
 callS prog n_trim_without [a0, (.fn 161 [p_6])] h_8 fun r_12 h_13 =>
 nilA a0 <|
 fldA 1 a0 fun p_14 =>
 loadV p_14 h_13 fun x_15 =>
 lenA x_15 fun x_16 =>
 binA .lss x_16 x_11 fun x_17 =>
 retA x_17 h_13 Q
def c_trim_reach : Cfg := ⟨tab, [3], [], [], [], []⟩
theorem trim_reach_eq (a0 : AV) (h : Heap) (Q : AV → Heap → Prop) : abody prog c_trim_reach f114 [a0] h Q = trim_reach a0 h Q := by kernel_rfl
theorem trim_reach_ok : fnB c_trim_reach f114 = true := by kernel_rfl
theorem trim_reach_call {a0 : AV} {h : Heap} {Q : AV → Heap → Prop} (hk : trim_reach a0 h Q) : ACalls prog n_trim_reach [a0] h Q := contract (cf := c_trim_reach) tab_ok prog_mixed func114 trim_reach_ok (Eq.mpr (trim_reach_eq a0 h Q) hk)
def trim_merge (a0 : AV) (h : Heap) (Q : AV → Heap → Prop) : Prop :=
 nilA a0 <|
 fldA 1 a0 fun p_1 =>
 loadV p_1 h fun x_2 =>
 lenA x_2 fun x_3 =>
 loopS (fun s_4 h_5 K_6 =>
 binA .lss (g s_4 0) x_3 fun x_7 =>
 brA x_7 (newA 1 [(I 0)] h_5 fun p_8 h_9 =>
 oneA (g s_4 0) <|
 storeG p_8 [(g s_4 0)] h_9 fun h_10 =>
 loadV p_8 h_10 fun x_11 =>
 loopS (fun s_12 h_13 K_14 =>
 binA .lss (g s_12 0) x_11 fun x_15 =>
 brA x_15 (newA 1 [(I 0)] h_13 fun p_16 h_17 =>
 oneA (g s_12 0) <|
 storeG p_16 [(g s_12 0)] h_17 fun h_18 =>
 nilA a0 <|
 fldA 1 a0 fun p_19 =>
 loadV p_19 h_18 fun x_20 =>
 loadV p_16 h_18 fun x_21 =>
 idxA 5 x_20 x_21 h_18 fun p_22 =>
 fldA 1 p_22 fun p_23 =>
 loadG 1 p_23 h_18 fun c_24 =>
 nilA a0 <|
 fldA 1 a0 fun p_25 =>
 loadV p_25 h_18 fun x_26 =>
 loadV p_8 h_18 fun x_27 =>
 idxA 5 x_26 x_27 h_18 fun p_28 =>
 fldA 1 p_28 fun p_29 =>
 loadG 1 p_29 h_18 fun c_30 =>
 callS prog n_sorts_Same [(.agg [(g c_24 0)]), (.agg [(g c_30 0)])] h_18 fun r_31 h_32 =>
 brA r_31 (nilA a0 <|
 fldA 1 a0 fun p_33 =>
 loadV p_33 h_32 fun x_34 =>
 loadV p_16 h_32 fun x_35 =>
 idxA 5 x_34 x_35 h_32 fun p_36 =>
 fldA 2 p_36 fun p_37 =>
 loadG 3 p_37 h_32 fun c_38 =>
 nilA a0 <|
 fldA 1 a0 fun p_39 =>
 loadV p_39 h_32 fun x_40 =>
 loadV p_8 h_32 fun x_41 =>
 idxA 5 x_40 x_41 h_32 fun p_42 =>
 fldA 2 p_42 fun p_43 =>
 loadG 3 p_43 h_32 fun c_44 =>
 callS prog n_term_Same [(.agg [(g c_38 0), (g c_38 1), (g c_38 2)]), (.agg [(g c_44 0), (g c_44 1), (g c_44 2)])] h_32 fun r_45 h_46 =>
 brA r_45 (callS prog n_trim_rewrite [a0, (.fn 163 [p_8, p_16])] h_46 fun r_47 h_48 =>
 callS prog n_trim_without [a0, (.fn 164 [p_8])] h_48 fun r_49 h_50 =>
 retA (B true) h_50 Q) (binA .add (g s_12 0) (I 1) fun x_51 =>
 K_14 [x_51] h_46)) (binA .add (g s_12 0) (I 1) fun x_52 =>
 K_14 [x_52] h_32)) (binA .add (g s_4 0) (I 1) fun x_53 =>
 K_6 [x_53] h_13)) [(I 0)] h_10) (retA (B false) h_5 Q)) [(I 0)] h
def c_trim_merge : Cfg := ⟨tab, [3, 4], [(2, ⟨[10], [], [2, 3, 4, 10, 11, 12, 13, 14, 15, 16, 17, 18, 19, 20, 21, 22, 23, 24, 25, 26, 27, 28, 29, 30, 31, 32, 33, 34, 35, 36, 37, 38, 39, 40, 41, 42, 43, 44, 45, 46, 47, 48, 49, 50, 51, 52, 53, 54, 55, 56, 57, 58, 59, 60]⟩), (5, ⟨[14], [], [2, 4, 14, 15, 16, 17, 18, 19, 20, 21, 22, 23, 24, 25, 26, 27, 28, 29, 30, 31, 32, 33, 34, 35, 36, 37, 38, 39, 40, 41, 42, 43, 44, 45, 46, 47, 48, 49, 50, 51, 52, 53, 54, 55, 56, 57, 58, 59]⟩)], [(7, [0, 1, 2, 3, 4, 5, 6, 7, 8, 9, 10, 11, 12, 13, 14, 15, 16, 17, 18, 19, 20, 21, 22, 23, 24, 25, 26, 27, 28, 29, 30, 31, 32, 33, 34, 35])], [20, 21, 22, 24, 28, 29, 30, 32, 38, 39, 40, 42, 46, 47, 48, 50], [34]⟩
theorem trim_merge_eq (a0 : AV) (h : Heap) (Q : AV → Heap → Prop) : abody prog c_trim_merge f117 [a0] h Q = trim_merge a0 h Q := by kernel_rfl
theorem trim_merge_ok : fnB c_trim_merge f117 = true := by kernel_rfl
theorem trim_merge_call {a0 : AV} {h : Heap} {Q : AV → Heap → Prop} (hk : trim_merge a0 h Q) : ACalls prog n_trim_merge [a0] h Q := contract (cf := c_trim_merge) tab_ok prog_mixed func117 trim_merge_ok (Eq.mpr (trim_merge_eq a0 h Q) hk)
def trim_drop (a0 : AV) (h : Heap) (Q : AV → Heap → Prop) : Prop :=
 loopS (fun s_1 h_2 K_3 =>
 nilA a0 <|
 fldA 1 a0 fun p_4 =>
 loadV p_4 h_2 fun x_5 =>
 lenA x_5 fun x_6 =>
 binA .lss (g s_1 0) x_6 fun x_7 =>
 brA x_7 (nilA a0 <|
 fldA 1 a0 fun p_8 =>
 loadV p_8 h_2 fun x_9 =>
 idxA 5 x_9 (g s_1 0) h_2 fun p_10 =>
 fldA 1 p_10 fun p_11 =>
 fldA 0 p_11 fun p_12 =>
 loadV p_12 h_2 fun x_13 =>
 lenA x_13 fun x_14 =>
 loopS (fun s_15 h_16 K_17 =>
 binA .lss (g s_15 0) x_14 fun x_18 =>
 brA x_18 (callS prog n_trim_idle [a0, (g s_1 0), (g s_15 0)] h_16 fun r_19 h_20 =>
 brA r_19 (callS prog n_trim_take [a0, (g s_1 0), (g s_15 0)] h_20 fun r_21 h_22 =>
 retA (B true) h_22 Q) (binA .add (g s_15 0) (I 1) fun x_23 =>
 K_17 [x_23] h_20)) (binA .add (g s_1 0) (I 1) fun x_24 =>
 K_3 [x_24] h_16)) [(I 0)] h_2) (retA (B false) h_2 Q)) [(I 1)] h
def c_trim_drop : Cfg := ⟨tab, [], [(2, ⟨[3], [], [2, 3, 4, 5, 6, 7, 8, 9, 10, 11, 12, 13, 14, 15, 16, 17, 18, 19, 20, 21, 22, 23, 24, 25, 26, 27, 28, 29, 30, 31, 32, 33, 34, 35]⟩), (5, ⟨[24], [], [2, 4, 24, 25, 26, 27, 28, 29, 30, 31, 32, 33, 34, 35]⟩)], [], [], []⟩
theorem trim_drop_eq (a0 : AV) (h : Heap) (Q : AV → Heap → Prop) : abody prog c_trim_drop f120 [a0] h Q = trim_drop a0 h Q := by kernel_rfl
theorem trim_drop_ok : fnB c_trim_drop f120 = true := by kernel_rfl
theorem trim_drop_call {a0 : AV} {h : Heap} {Q : AV → Heap → Prop} (hk : trim_drop a0 h Q) : ACalls prog n_trim_drop [a0] h Q := contract (cf := c_trim_drop) tab_ok prog_mixed func120 trim_drop_ok (Eq.mpr (trim_drop_eq a0 h Q) hk)
def trim_inline (a0 : AV) (h : Heap) (Q : AV → Heap → Prop) : Prop :=
 oneA a0 <|
 newA 1 [a0] h fun p_1 h_2 =>
 newA 1 [(I 0)] h_2 fun p_3 h_4 =>
 oneA (I 1) <|
 storeG p_3 [(I 1)] h_4 fun h_5 =>
 loopS (fun s_6 h_7 K_8 =>
 loadV (g s_6 0) h_7 fun x_9 =>
 loadV p_1 h_7 fun x_10 =>
 nilA x_10 <|
 fldA 1 x_10 fun p_11 =>
 loadV p_11 h_7 fun x_12 =>
 lenA x_12 fun x_13 =>
 binA .lss x_9 x_13 fun x_14 =>
 brA x_14 (loadV p_1 h_7 fun x_15 =>
 loadV (g s_6 0) h_7 fun x_16 =>
 callS prog n_trim_single [x_15, x_16] h_7 fun r_17 h_18 =>
 tupA r_17 0 fun x_19 =>
 tupA r_17 1 fun x_20 =>
 brA x_20 (loadV p_1 h_18 fun x_21 =>
 nilA x_21 <|
 fldA 1 x_21 fun p_22 =>
 loadV p_22 h_18 fun x_23 =>
 idxA 5 x_23 x_19 h_18 fun p_24 =>
 fldA 2 p_24 fun p_25 =>
 loadG 3 p_25 h_18 fun c_26 =>
 callS prog n_trim_changed [(.agg [(g c_26 0), (g c_26 1), (g c_26 2)]), (.fn 173 [p_1, (g s_6 0)])] h_18 fun r_27 h_28 =>
 aggA 3 r_27 fun c_29 =>
 callS prog n_term_Size [(.agg [(g c_29 0), (g c_29 1), (g c_29 2)])] h_28 fun r_30 h_31 =>
 tupA r_30 0 fun x_32 =>
 tupA r_30 1 fun x_33 =>
 binA .gtr x_32 (I 400) fun x_34 =>
 brA x_34 (loadV (g s_6 0) h_31 fun x_35 =>
 newA 1 [(I 0)] h_31 fun p_36 h_37 =>
 oneA x_35 <|
 storeG p_36 [x_35] h_37 fun h_38 =>
 loadV p_36 h_38 fun x_39 =>
 binA .add x_39 (I 1) fun x_40 =>
 oneA x_40 <|
 storeG p_36 [x_40] h_38 fun h_41 =>
 K_8 [p_36] h_41) (binA .gtr x_33 (I 30) fun x_42 =>
 brA x_42 (loadV (g s_6 0) h_31 fun x_43 =>
 newA 1 [(I 0)] h_31 fun p_44 h_45 =>
 oneA x_43 <|
 storeG p_44 [x_43] h_45 fun h_46 =>
 loadV p_44 h_46 fun x_47 =>
 binA .add x_47 (I 1) fun x_48 =>
 oneA x_48 <|
 storeG p_44 [x_48] h_46 fun h_49 =>
 K_8 [p_44] h_49) (loadV p_1 h_31 fun x_50 =>
 nilA x_50 <|
 fldA 1 x_50 fun p_51 =>
 loadV p_51 h_31 fun x_52 =>
 idxA 5 x_52 x_19 h_31 fun p_53 =>
 fldA 2 p_53 fun p_54 =>
 storeG p_54 [(g c_29 0), (g c_29 1), (g c_29 2)] h_31 fun h_55 =>
 loadV p_1 h_55 fun x_56 =>
 callS prog n_trim_without [x_56, (.fn 175 [(g s_6 0)])] h_55 fun r_57 h_58 =>
 retA (B true) h_58 Q))) (loadV (g s_6 0) h_18 fun x_59 =>
 newA 1 [(I 0)] h_18 fun p_60 h_61 =>
 oneA x_59 <|
 storeG p_60 [x_59] h_61 fun h_62 =>
 loadV p_60 h_62 fun x_63 =>
 binA .add x_63 (I 1) fun x_64 =>
 oneA x_64 <|
 storeG p_60 [x_64] h_62 fun h_65 =>
 K_8 [p_60] h_65)) (retA (B false) h_7 Q)) [p_3] h_5
def c_trim_inline : Cfg := ⟨tab, [1, 3], [(2, ⟨[3], [], [2, 3, 4, 5, 6, 7, 8, 9, 10, 11, 12, 13, 14, 15, 16, 17, 18, 19, 20, 21, 22, 23, 24, 25, 26, 27, 28, 29, 30, 31, 32, 33, 34, 35, 36, 37, 38, 39, 40, 41, 42, 43, 44, 45, 46, 47, 48, 49, 50, 51, 52, 53, 54, 55, 56, 57]⟩)], [(2, [0, 1, 2, 3, 4, 5, 6]), (9, [0, 1, 2, 3, 4, 5, 6, 7, 8])], [9, 10, 13, 46, 49, 51, 52], []⟩
theorem trim_inline_eq (a0 : AV) (h : Heap) (Q : AV → Heap → Prop) : abody prog c_trim_inline f123 [a0] h Q = trim_inline a0 h Q := by kernel_rfl
theorem trim_inline_ok : fnB c_trim_inline f123 = true := by kernel_rfl
theorem trim_inline_call {a0 : AV} {h : Heap} {Q : AV → Heap → Prop} (hk : trim_inline a0 h Q) : ACalls prog n_trim_inline [a0] h Q := contract (cf := c_trim_inline) tab_ok prog_mixed func123 trim_inline_ok (Eq.mpr (trim_inline_eq a0 h Q) hk)
def trim_All_1 (a0 : AV) (h : Heap) (Q : AV → Heap → Prop) : Prop :=
 oneA (.fn 114 []) <|
 oneA (.fn 123 []) <|
 oneA (.fn 120 []) <|
 oneA (.fn 117 []) <|
 lenA (.rs 1 [[(.fn 114 [])], [(.fn 123 [])], [(.fn 120 [])], [(.fn 117 [])]]) fun x_1 =>
 loopS (fun s_2 h_3 K_4 =>
 binA .lss (g s_2 1) x_1 fun x_5 =>
 brA x_5 (idxA 1 (.rs 1 [[(.fn 114 [])], [(.fn 123 [])], [(.fn 120 [])], [(.fn 117 [])]]) (g s_2 1) h_3 fun p_6 =>
 loadV p_6 h_3 fun x_7 =>
 loopS (fun s_8 h_9 K_10 =>
 callV prog x_7 [a0] h_9 fun r_11 h_12 =>
 brA r_11 (K_10 [(B true)] h_12) (binA .add (g s_2 1) (I 1) fun x_13 =>
 K_4 [(g s_8 0), x_13] h_12)) [(g s_2 0)] h_3) (retA (g s_2 0) h_3 Q)) [(B false), (I 0)] h
def c_trim_All_1 : Cfg := ⟨tab, [], [(3, ⟨[3, 8], [], [3, 5, 8, 9, 10, 11, 12, 13, 14, 15]⟩), (5, ⟨[3], [], [3, 12, 13, 14]⟩)], [], [], []⟩
theorem trim_All_1_eq (a0 : AV) (h : Heap) (Q : AV → Heap → Prop) : abody prog c_trim_All_1 f157 [a0] h Q = trim_All_1 a0 h Q := by kernel_rfl
theorem trim_All_1_ok : fnB c_trim_All_1 f157 = true := by kernel_rfl
theorem trim_All_1_call {a0 : AV} {h : Heap} {Q : AV → Heap → Prop} (hk : trim_All_1 a0 h Q) : ACalls prog n_trim_All_1 [a0] h Q := contract (cf := c_trim_All_1) tab_ok prog_mixed func157 trim_All_1_ok (Eq.mpr (trim_All_1_eq a0 h Q) hk)
def trim_copied (a0 : AV) (h : Heap) (Q : AV → Heap → Prop) : Prop :=
 aggA 2 a0 fun c_1 =>
 appA 2 24 .e0 (g c_1 0) h fun x_2 h_3 =>
 oneA x_2 <|
 lenA (g c_1 1) fun x_4 =>
 loopS (fun s_5 h_6 K_7 =>
 binA .lss (g s_5 0) x_4 fun x_8 =>
 brA x_8 (idxA 5 (g c_1 1) (g s_5 0) h_6 fun p_9 =>
 loadG 5 p_9 h_6 fun c_10 =>
 callS prog n_trim_sortOf [(.agg [(g c_10 1)])] h_6 fun r_11 h_12 =>
 callS prog n_trim_changed [(.agg [(g c_10 2), (g c_10 3), (g c_10 4)]), (.fn 197 [])] h_12 fun r_13 h_14 =>
 oneA (g c_10 0) <|
 aggA 1 r_11 fun c_15 =>
 aggA 3 r_13 fun c_16 =>
 appA 5 80 (g s_5 2) (.rs 5 [[(g c_10 0), (g c_15 0), (g c_16 0), (g c_16 1), (g c_16 2)]]) h_14 fun x_17 h_18 =>
 oneA x_17 <|
 binA .add (g s_5 0) (I 1) fun x_19 =>
 K_7 [x_19, (g s_5 1), x_17] h_18) (retA (.agg [(g s_5 1), (g s_5 2)]) h_6 Q)) [(I 0), x_2, .e0] h_3
def c_trim_copied : Cfg := ⟨tab, [], [(3, ⟨[14], [3], [5, 14, 15, 16, 17, 18, 19, 20, 21, 22, 23, 24, 25, 26, 27, 28, 29, 30, 31, 32]⟩)], [(5, [0, 1, 2, 3, 4, 5, 7, 8, 6, 9, 10, 11, 12, 13, 14])], [23], []⟩
theorem trim_copied_eq (a0 : AV) (h : Heap) (Q : AV → Heap → Prop) : abody prog c_trim_copied f159 [a0] h Q = trim_copied a0 h Q := by kernel_rfl
theorem trim_copied_ok : fnB c_trim_copied f159 = true := by kernel_rfl
theorem trim_copied_call {a0 : AV} {h : Heap} {Q : AV → Heap → Prop} (hk : trim_copied a0 h Q) : ACalls prog n_trim_copied [a0] h Q := contract (cf := c_trim_copied) tab_ok prog_mixed func159 trim_copied_ok (Eq.mpr (trim_copied_eq a0 h Q) hk)
def trim_without (a0 a1 : AV) (h : Heap) (Q : AV → Heap → Prop) : Prop :=
 nilA a0 <|
 fldA 1 a0 fun p_1 =>
 loadV p_1 h fun x_2 =>
 lenA x_2 fun x_3 =>
 mkA 1 8 [(I 0)] x_3 x_3 h fun x_4 h_5 =>
 newA 1 [.e0] h_5 fun p_6 h_7 =>
 oneA x_4 <|
 storeG p_6 [x_4] h_7 fun h_8 =>
 nilA a0 <|
 fldA 1 a0 fun p_9 =>
 loadV p_9 h_8 fun x_10 =>
 lenA x_10 fun x_11 =>
 loopS (fun s_12 h_13 K_14 =>
 binA .lss (g s_12 1) x_11 fun x_15 =>
 brA x_15 (loadV p_6 h_13 fun x_16 =>
 lenA (g s_12 0) fun x_17 =>
 idxA 1 x_16 (g s_12 1) h_13 fun p_18 =>
 oneA x_17 <|
 storeG p_18 [x_17] h_13 fun h_19 =>
 callV prog a1 [(g s_12 1)] h_19 fun r_20 h_21 =>
 notA r_20 fun x_22 =>
 brA x_22 (nilA a0 <|
 fldA 1 a0 fun p_23 =>
 loadV p_23 h_21 fun x_24 =>
 idxA 5 x_24 (g s_12 1) h_21 fun p_25 =>
 loadG 5 p_25 h_21 fun c_26 =>
 appA 5 80 (g s_12 0) (.rs 5 [[(g c_26 0), (g c_26 1), (g c_26 2), (g c_26 3), (g c_26 4)]]) h_21 fun x_27 h_28 =>
 binA .add (g s_12 1) (I 1) fun x_29 =>
 K_14 [x_27, x_29] h_28) (binA .add (g s_12 1) (I 1) fun x_30 =>
 K_14 [(g s_12 0), x_30] h_21)) (nilA a0 <|
 fldA 1 a0 fun p_31 =>
 oneA (g s_12 0) <|
 storeG p_31 [(g s_12 0)] h_13 fun h_32 =>
 callS prog n_trim_rewrite [a0, (.fn 198 [p_6])] h_32 fun r_33 h_34 =>
 retA (.tup []) h_34 Q)) [.e0, (I 0)] h_8
def c_trim_without : Cfg := ⟨tab, [4], [(3, ⟨[5, 18], [], [5, 6, 18, 19, 20, 21, 22, 23, 24, 25, 26, 27, 28, 29, 30, 31, 32, 33, 34, 35, 36, 37, 38, 39, 40]⟩)], [], [], []⟩
theorem trim_without_eq (a0 a1 : AV) (h : Heap) (Q : AV → Heap → Prop) : abody prog c_trim_without f160 [a0, a1] h Q = trim_without a0 a1 h Q := by kernel_rfl
theorem trim_without_ok : fnB c_trim_without f160 = true := by kernel_rfl
theorem trim_without_call {a0 a1 : AV} {h : Heap} {Q : AV → Heap → Prop} (hk : trim_without a0 a1 h Q) : ACalls prog n_trim_without [a0, a1] h Q := contract (cf := c_trim_without) tab_ok prog_mixed func160 trim_without_ok (Eq.mpr (trim_without_eq a0 a1 h Q) hk)
def trim_reach_1 (a0 a1 : AV) (h : Heap) (Q : AV → Heap → Prop) : Prop :=
 loadV a1 h fun x_1 =>
 idxA 1 x_1 a0 h fun p_2 =>
 loadV p_2 h fun x_3 =>
 notA x_3 fun x_4 =>
 retA x_4 h Q
def c_trim_reach_1 : Cfg := ⟨tab, [], [], [], [], []⟩
theorem trim_reach_1_eq (a0 a1 : AV) (h : Heap) (Q : AV → Heap → Prop) : abody prog c_trim_reach_1 f161 [a0, a1] h Q = trim_reach_1 a0 a1 h Q := by kernel_rfl
theorem trim_reach_1_ok : fnB c_trim_reach_1 f161 = true := by kernel_rfl
theorem trim_reach_1_call {a0 a1 : AV} {h : Heap} {Q : AV → Heap → Prop} (hk : trim_reach_1 a0 a1 h Q) : ACalls prog n_trim_reach_1 [a0, a1] h Q := contract (cf := c_trim_reach_1) tab_ok prog_mixed func161 trim_reach_1_ok (Eq.mpr (trim_reach_1_eq a0 a1 h Q) hk)
def trim_rewrite (a0 a1 : AV) (h : Heap) (Q : AV → Heap → Prop) : Prop :=
 nilA a0 <|
 fldA 1 a0 fun p_1 =>
 loadV p_1 h fun x_2 =>
 lenA x_2 fun x_3 =>
 loopS (fun s_4 h_5 K_6 =>
 binA .lss (g s_4 0) x_3 fun x_7 =>
 brA x_7 (nilA a0 <|
 fldA 1 a0 fun p_8 =>
 loadV p_8 h_5 fun x_9 =>
 nilA a0 <|
 fldA 1 a0 fun p_10 =>
 loadV p_10 h_5 fun x_11 =>
 idxA 5 x_11 (g s_4 0) h_5 fun p_12 =>
 fldA 2 p_12 fun p_13 =>
 loadG 3 p_13 h_5 fun c_14 =>
 callS prog n_trim_changed [(.agg [(g c_14 0), (g c_14 1), (g c_14 2)]), a1] h_5 fun r_15 h_16 =>
(loadV p_8 h_16 fun x_17 =>
 TV.av x_17 = TV.av x_9) ∧
 idxA 5 x_9 (g s_4 0) h_16 fun p_18 =>
 fldA 2 p_18 fun p_19 =>
 aggA 3 r_15 fun c_20 =>
 storeG p_19 [(g c_20 0), (g c_20 1), (g c_20 2)] h_16 fun h_21 =>
 binA .add (g s_4 0) (I 1) fun x_22 =>
 K_6 [x_22] h_21) (retA (.tup []) h_5 Q)) [(I 0)] h
def c_trim_rewrite : Cfg := ⟨tab, [], [(1, ⟨[10], [], [4, 10, 11, 12, 13, 14, 15, 16, 17, 18, 19, 20, 21, 22, 23, 24, 25, 26, 27, 28, 29, 30]⟩)], [(3, [0, 1, 2, 3, 4, 5, 6, 7, 8, 9, 10, 11, 12, 13, 14, 22, 15, 16, 17])], [16, 21, 23, 25, 28], []⟩
theorem trim_rewrite_eq (a0 a1 : AV) (h : Heap) (Q : AV → Heap → Prop) : abody prog c_trim_rewrite f162 [a0, a1] h Q = trim_rewrite a0 a1 h Q := by kernel_rfl
theorem trim_rewrite_ok : fnB c_trim_rewrite f162 = true := by kernel_rfl
theorem trim_rewrite_call {a0 a1 : AV} {h : Heap} {Q : AV → Heap → Prop} (hk : trim_rewrite a0 a1 h Q) : ACalls prog n_trim_rewrite [a0, a1] h Q := contract (cf := c_trim_rewrite) tab_ok prog_mixed func162 trim_rewrite_ok (Eq.mpr (trim_rewrite_eq a0 a1 h Q) hk)
def trim_merge_1 (a0 a1 a2 : AV) (h : Heap) (Q : AV → Heap → Prop) : Prop :=
 aggA 3 a0 fun c_1 =>
 binA .eql (g c_1 0) (I 1) fun x_2 =>
 brA x_2 (loadV a1 h fun x_3 =>
 binA .eql (g c_1 1) x_3 fun x_4 =>
 brA x_4 (loadV a2 h fun x_5 =>
 oneA x_5 <|
 retA (.agg [(g c_1 0), x_5, (g c_1 2)]) h Q) (retA (.agg [(g c_1 0), (g c_1 1), (g c_1 2)]) h Q)) (retA (.agg [(g c_1 0), (g c_1 1), (g c_1 2)]) h Q)
def c_trim_merge_1 : Cfg := ⟨tab, [], [], [], [], []⟩
theorem trim_merge_1_eq (a0 a1 a2 : AV) (h : Heap) (Q : AV → Heap → Prop) : abody prog c_trim_merge_1 f163 [a0, a1, a2] h Q = trim_merge_1 a0 a1 a2 h Q := by kernel_rfl
theorem trim_merge_1_ok : fnB c_trim_merge_1 f163 = true := by kernel_rfl
theorem trim_merge_1_call {a0 a1 a2 : AV} {h : Heap} {Q : AV → Heap → Prop} (hk : trim_merge_1 a0 a1 a2 h Q) : ACalls prog n_trim_merge_1 [a0, a1, a2] h Q := contract (cf := c_trim_merge_1) tab_ok prog_mixed func163 trim_merge_1_ok (Eq.mpr (trim_merge_1_eq a0 a1 a2 h Q) hk)
def trim_merge_2 (a0 a1 : AV) (h : Heap) (Q : AV → Heap → Prop) : Prop :=
 loadV a1 h fun x_1 =>
 binA .eql a0 x_1 fun x_2 =>
 retA x_2 h Q
def c_trim_merge_2 : Cfg := ⟨tab, [], [], [], [], []⟩
theorem trim_merge_2_eq (a0 a1 : AV) (h : Heap) (Q : AV → Heap → Prop) : abody prog c_trim_merge_2 f164 [a0, a1] h Q = trim_merge_2 a0 a1 h Q := by kernel_rfl
theorem trim_merge_2_ok : fnB c_trim_merge_2 f164 = true := by kernel_rfl
theorem trim_merge_2_call {a0 a1 : AV} {h : Heap} {Q : AV → Heap → Prop} (hk : trim_merge_2 a0 a1 h Q) : ACalls prog n_trim_merge_2 [a0, a1] h Q := contract (cf := c_trim_merge_2) tab_ok prog_mixed func164 trim_merge_2_ok (Eq.mpr (trim_merge_2_eq a0 a1 h Q) hk)
def trim_idle (a0 a1 a2 : AV) (h : Heap) (Q : AV → Heap → Prop) : Prop :=
 oneA a1 <|
 newA 1 [a1] h fun p_1 h_2 =>
 oneA a2 <|
 newA 1 [a2] h_2 fun p_3 h_4 =>
 newA 1 [(B false)] h_4 fun p_5 h_6 =>
 storeG p_5 [(B true)] h_6 fun h_7 =>
 callS prog n_trim_visit [a0, (.fn 201 [p_1, p_3, p_5])] h_7 fun r_8 h_9 =>
 loadV p_5 h_9 fun x_10 =>
 retA x_10 h_9 Q
def c_trim_idle : Cfg := ⟨tab, [4, 5, 7], [], [], [], []⟩
theorem trim_idle_eq (a0 a1 a2 : AV) (h : Heap) (Q : AV → Heap → Prop) : abody prog c_trim_idle f167 [a0, a1, a2] h Q = trim_idle a0 a1 a2 h Q := by kernel_rfl
theorem trim_idle_ok : fnB c_trim_idle f167 = true := by kernel_rfl
theorem trim_idle_call {a0 a1 a2 : AV} {h : Heap} {Q : AV → Heap → Prop} (hk : trim_idle a0 a1 a2 h Q) : ACalls prog n_trim_idle [a0, a1, a2] h Q := contract (cf := c_trim_idle) tab_ok prog_mixed func167 trim_idle_ok (Eq.mpr (trim_idle_eq a0 a1 a2 h Q) hk)
def trim_take (a0 a1 a2 : AV) (h : Heap) (Q : AV → Heap → Prop) : Prop :=
 oneA a1 <|
 newA 1 [a1] h fun p_1 h_2 =>
 oneA a2 <|
 newA 1 [a2] h_2 fun p_3 h_4 =>
 nilA a0 <|
 fldA 1 a0 fun p_5 =>
 loadV p_5 h_4 fun x_6 =>
 loadV p_1 h_4 fun x_7 =>
 idxA 5 x_6 x_7 h_4 fun p_8 =>
 fldA 1 p_8 fun p_9 =>
 fldA 0 p_9 fun p_10 =>
 loadV p_10 h_4 fun x_11 =>
 nilA a0 <|
 fldA 1 a0 fun p_12 =>
 loadV p_12 h_4 fun x_13 =>
 loadV p_1 h_4 fun x_14 =>
 loadV p_3 h_4 fun x_15 =>
 sliceA 1 x_11 none (some x_15) fun x_16 =>
 loadV p_3 h_4 fun x_17 =>
 binA .add x_17 (I 1) fun x_18 =>
 sliceA 1 x_11 (some x_18) none fun x_19 =>
 appA 1 24 .e0 x_16 h_4 fun x_20 h_21 =>
(loadV p_12 h_21 fun x_22 =>
 TV.av x_22 = TV.av x_13) ∧
(loadV p_1 h_21 fun x_23 =>
 TV.av x_23 = TV.av x_14) ∧
(loadV p_3 h_21 fun x_24 =>
 TV.av x_24 = TV.av x_17) ∧
 appA 1 24 x_20 x_19 h_21 fun x_25 h_26 =>
(loadV p_12 h_26 fun x_27 =>
 TV.av x_27 = TV.av x_13) ∧
(loadV p_1 h_26 fun x_28 =>
 TV.av x_28 = TV.av x_14) ∧
 idxA 5 x_13 x_14 h_26 fun p_29 =>
 fldA 1 p_29 fun p_30 =>
 fldA 0 p_30 fun p_31 =>
 oneA x_25 <|
 storeG p_31 [x_25] h_26 fun h_32 =>
 nilA a0 <|
 fldA 1 a0 fun p_33 =>
 loadV p_33 h_32 fun x_34 =>
 loadV p_1 h_32 fun x_35 =>
 nilA a0 <|
 fldA 1 a0 fun p_36 =>
 loadV p_36 h_32 fun x_37 =>
 loadV p_1 h_32 fun x_38 =>
 idxA 5 x_37 x_38 h_32 fun p_39 =>
 fldA 2 p_39 fun p_40 =>
 loadG 3 p_40 h_32 fun c_41 =>
 callS prog n_trim_changed [(.agg [(g c_41 0), (g c_41 1), (g c_41 2)]), (.fn 202 [p_3])] h_32 fun r_42 h_43 =>
(loadV p_33 h_43 fun x_44 =>
 TV.av x_44 = TV.av x_34) ∧
(loadV p_1 h_43 fun x_45 =>
 TV.av x_45 = TV.av x_35) ∧
 idxA 5 x_34 x_35 h_43 fun p_46 =>
 fldA 2 p_46 fun p_47 =>
 aggA 3 r_42 fun c_48 =>
 storeG p_47 [(g c_48 0), (g c_48 1), (g c_48 2)] h_43 fun h_49 =>
 callS prog n_trim_rewrite [a0, (.fn 203 [p_1, p_3])] h_49 fun r_50 h_51 =>
 retA (.tup []) h_51 Q
def c_trim_take : Cfg := ⟨tab, [4, 5], [], [(1, [0, 1, 2, 3, 4, 5, 6, 7, 8, 9]), (2, [0, 1, 2, 3, 4, 5, 6, 7, 8, 10, 11, 12, 13, 9, 23, 24, 31, 14, 23, 24, 15, 16, 17, 18]), (3, [0, 1, 2, 3, 4, 5, 6, 7, 8, 9, 10, 11, 12, 13, 14, 22, 23, 15, 16, 17])], [10, 11, 12, 15, 19, 20, 23, 27, 31, 37, 38, 42, 43, 44, 46, 49], []⟩
theorem trim_take_eq (a0 a1 a2 : AV) (h : Heap) (Q : AV → Heap → Prop) : abody prog c_trim_take f168 [a0, a1, a2] h Q = trim_take a0 a1 a2 h Q := by kernel_rfl
theorem trim_take_ok : fnB c_trim_take f168 = true := by kernel_rfl
theorem trim_take_call {a0 a1 a2 : AV} {h : Heap} {Q : AV → Heap → Prop} (hk : trim_take a0 a1 a2 h Q) : ACalls prog n_trim_take [a0, a1, a2] h Q := contract (cf := c_trim_take) tab_ok prog_mixed func168 trim_take_ok (Eq.mpr (trim_take_eq a0 a1 a2 h Q) hk)
def trim_single (a0 a1 : AV) (h : Heap) (Q : AV → Heap → Prop) : Prop :=
 oneA a0 <|
 newA 1 [a0] h fun p_1 h_2 =>
 oneA a1 <|
 newA 1 [a1] h_2 fun p_3 h_4 =>
 newA 1 [(I 0)] h_4 fun p_5 h_6 =>
 newA 1 [(I 0)] h_6 fun p_7 h_8 =>
 newA 1 [(B false)] h_8 fun p_9 h_10 =>
 oneA (I 0) <|
 storeG p_5 [(I 0)] h_10 fun h_11 =>
 oneA (I 0) <|
 storeG p_7 [(I 0)] h_11 fun h_12 =>
 storeG p_9 [(B true)] h_12 fun h_13 =>
 loadV p_1 h_13 fun x_14 =>
 callS prog n_trim_visit [x_14, (.fn 204 [p_3, p_5, p_7, p_1, p_9])] h_13 fun r_15 h_16 =>
 loadV p_7 h_16 fun x_17 =>
 loadV p_9 h_16 fun x_18 =>
 brA x_18 (loadV p_5 h_16 fun x_19 =>
 binA .eql x_19 (I 1) fun x_20 =>
 retA (.tup [x_17, x_20]) h_16 Q) (retA (.tup [x_17, (B false)]) h_16 Q)
def c_trim_single : Cfg := ⟨tab, [2, 3, 6, 7, 8], [], [(3, [0, 1, 2, 3, 4, 5, 6, 7])], [12, 13, 15], [14]⟩
theorem trim_single_eq (a0 a1 : AV) (h : Heap) (Q : AV → Heap → Prop) : abody prog c_trim_single f171 [a0, a1] h Q = trim_single a0 a1 h Q := by kernel_rfl
theorem trim_single_ok : fnB c_trim_single f171 = true := by kernel_rfl
theorem trim_single_call {a0 a1 : AV} {h : Heap} {Q : AV → Heap → Prop} (hk : trim_single a0 a1 h Q) : ACalls prog n_trim_single [a0, a1] h Q := contract (cf := c_trim_single) tab_ok prog_mixed func171 trim_single_ok (Eq.mpr (trim_single_eq a0 a1 h Q) hk)
def trim_changed (a0 a1 : AV) (h : Heap) (Q : AV → Heap → Prop) : Prop :=
 aggA 3 a0 fun c_1 =>
 lenA (g c_1 2) fun x_2 =>
 loopS (fun s_3 h_4 K_5 =>
 binA .lss (g s_3 1) x_2 fun x_6 =>
 brA x_6 (idxA 3 (g c_1 2) (g s_3 1) h_4 fun p_7 =>
 loadG 3 p_7 h_4 fun c_8 =>
 callS prog n_trim_changed [(.agg [(g c_8 0), (g c_8 1), (g c_8 2)]), a1] h_4 fun r_9 h_10 =>
 aggA 3 r_9 fun c_11 =>
 appA 3 40 (g s_3 0) (.rs 3 [[(g c_11 0), (g c_11 1), (g c_11 2)]]) h_10 fun x_12 h_13 =>
 binA .add (g s_3 1) (I 1) fun x_14 =>
 K_5 [x_12, x_14] h_13) (oneA (g s_3 0) <|
 callV prog a1 [(.agg [(g c_1 0), (g c_1 1), (g s_3 0)])] h_4 fun r_15 h_16 =>
 aggA 3 r_15 fun c_17 =>
 retA (.agg [(g c_17 0), (g c_17 1), (g c_17 2)]) h_16 Q)) [.e0, (I 0)] h
def c_trim_changed : Cfg := ⟨tab, [], [(3, ⟨[5, 11], [], [5, 7, 11, 12, 13, 14, 15, 16, 17, 18, 19, 20, 21]⟩)], [], [], []⟩
theorem trim_changed_eq (a0 a1 : AV) (h : Heap) (Q : AV → Heap → Prop) : abody prog c_trim_changed f172 [a0, a1] h Q = trim_changed a0 a1 h Q := by kernel_rfl
theorem trim_changed_ok : fnB c_trim_changed f172 = true := by kernel_rfl
theorem trim_changed_call {a0 a1 : AV} {h : Heap} {Q : AV → Heap → Prop} (hk : trim_changed a0 a1 h Q) : ACalls prog n_trim_changed [a0, a1] h Q := contract (cf := c_trim_changed) tab_ok prog_mixed func172 trim_changed_ok (Eq.mpr (trim_changed_eq a0 a1 h Q) hk)
def trim_inline_1 (a0 a1 a2 : AV) (h : Heap) (Q : AV → Heap → Prop) : Prop :=
 aggA 3 a0 fun c_1 =>
 loadV a1 h fun x_2 =>
 loadV a2 h fun x_3 =>
 callS prog n_trim_called [x_2, x_3, (.agg [(g c_1 0), (g c_1 1), (g c_1 2)])] h fun r_4 h_5 =>
 aggA 3 r_4 fun c_6 =>
 retA (.agg [(g c_6 0), (g c_6 1), (g c_6 2)]) h_5 Q
def c_trim_inline_1 : Cfg := ⟨tab, [], [], [], [], []⟩
theorem trim_inline_1_eq (a0 a1 a2 : AV) (h : Heap) (Q : AV → Heap → Prop) : abody prog c_trim_inline_1 f173 [a0, a1, a2] h Q = trim_inline_1 a0 a1 a2 h Q := by kernel_rfl
theorem trim_inline_1_ok : fnB c_trim_inline_1 f173 = true := by kernel_rfl
theorem trim_inline_1_call {a0 a1 a2 : AV} {h : Heap} {Q : AV → Heap → Prop} (hk : trim_inline_1 a0 a1 a2 h Q) : ACalls prog n_trim_inline_1 [a0, a1, a2] h Q := contract (cf := c_trim_inline_1) tab_ok prog_mixed func173 trim_inline_1_ok (Eq.mpr (trim_inline_1_eq a0 a1 a2 h Q) hk)
def trim_called (a0 a1 a2 : AV) (h : Heap) (Q : AV → Heap → Prop) : Prop :=
 aggA 3 a2 fun c_1 =>
 binA .neq (g c_1 0) (I 1) fun x_2 =>
 brA x_2 (retA (.agg [(g c_1 0), (g c_1 1), (g c_1 2)]) h Q) (binA .neq (g c_1 1) a1 fun x_3 =>
 brA x_3 (retA (.agg [(g c_1 0), (g c_1 1), (g c_1 2)]) h Q) (nilA a0 <|
 fldA 1 a0 fun p_4 =>
 loadV p_4 h fun x_5 =>
 idxA 5 x_5 a1 h fun p_6 =>
 fldA 2 p_6 fun p_7 =>
 loadG 3 p_7 h fun c_8 =>
 callS prog n_term_Subst [(.agg [(g c_8 0), (g c_8 1), (g c_8 2)]), (g c_1 2)] h fun r_9 h_10 =>
 tupA r_9 0 fun x_11 =>
 tupA r_9 1 fun x_12 =>
 aggA 3 x_11 fun c_13 =>
 binA .neq x_12 (I 0) fun x_14 =>
 brA x_14 (retA (.agg [(g c_1 0), (g c_1 1), (g c_1 2)]) h_10 Q) (retA (.agg [(g c_13 0), (g c_13 1), (g c_13 2)]) h_10 Q)))
def c_trim_called : Cfg := ⟨tab, [], [], [(3, [14, 0, 1, 2, 3, 4, 5, 6, 7, 8, 9, 10, 11, 12, 13, 15, 16])], [23, 25, 27, 29], []⟩
theorem trim_called_eq (a0 a1 a2 : AV) (h : Heap) (Q : AV → Heap → Prop) : abody prog c_trim_called f174 [a0, a1, a2] h Q = trim_called a0 a1 a2 h Q := by kernel_rfl
theorem trim_called_ok : fnB c_trim_called f174 = true := by kernel_rfl
theorem trim_called_call {a0 a1 a2 : AV} {h : Heap} {Q : AV → Heap → Prop} (hk : trim_called a0 a1 a2 h Q) : ACalls prog n_trim_called [a0, a1, a2] h Q := contract (cf := c_trim_called) tab_ok prog_mixed func174 trim_called_ok (Eq.mpr (trim_called_eq a0 a1 a2 h Q) hk)
def trim_inline_2 (a0 a1 : AV) (h : Heap) (Q : AV → Heap → Prop) : Prop :=
 loadV a1 h fun x_1 =>
 binA .eql a0 x_1 fun x_2 =>
 retA x_2 h Q
def c_trim_inline_2 : Cfg := ⟨tab, [], [], [], [], []⟩
theorem trim_inline_2_eq (a0 a1 : AV) (h : Heap) (Q : AV → Heap → Prop) : abody prog c_trim_inline_2 f175 [a0, a1] h Q = trim_inline_2 a0 a1 h Q := by kernel_rfl
theorem trim_inline_2_ok : fnB c_trim_inline_2 f175 = true := by kernel_rfl
theorem trim_inline_2_call {a0 a1 : AV} {h : Heap} {Q : AV → Heap → Prop} (hk : trim_inline_2 a0 a1 h Q) : ACalls prog n_trim_inline_2 [a0, a1] h Q := contract (cf := c_trim_inline_2) tab_ok prog_mixed func175 trim_inline_2_ok (Eq.mpr (trim_inline_2_eq a0 a1 h Q) hk)
def trim_sortOf (a0 : AV) (h : Heap) (Q : AV → Heap → Prop) : Prop :=
 aggA 1 a0 fun c_1 =>
 lenA (g c_1 0) fun x_2 =>
 loopS (fun s_3 h_4 K_5 =>
 binA .lss (g s_3 0) x_2 fun x_6 =>
 brA x_6 (idxA 1 (g c_1 0) (g s_3 0) h_4 fun p_7 =>
 loadG 1 p_7 h_4 fun c_8 =>
 callS prog n_trim_sortOf [(.agg [(g c_8 0)])] h_4 fun r_9 h_10 =>
 aggA 1 r_9 fun c_11 =>
 appA 1 24 (g s_3 1) (.rs 1 [[(g c_11 0)]]) h_10 fun x_12 h_13 =>
 oneA x_12 <|
 binA .add (g s_3 0) (I 1) fun x_14 =>
 K_5 [x_14, x_12] h_13) (retA (.agg [(g s_3 1)]) h_4 Q)) [(I 0), .e0] h
def c_trim_sortOf : Cfg := ⟨tab, [], [(3, ⟨[9], [3], [5, 9, 10, 11, 12, 13, 14, 15, 16, 17, 18, 19, 20]⟩)], [(5, [0, 1, 2, 3, 4, 5, 6, 7])], [15], []⟩
theorem trim_sortOf_eq (a0 : AV) (h : Heap) (Q : AV → Heap → Prop) : abody prog c_trim_sortOf f196 [a0] h Q = trim_sortOf a0 h Q := by kernel_rfl
theorem trim_sortOf_ok : fnB c_trim_sortOf f196 = true := by kernel_rfl
theorem trim_sortOf_call {a0 : AV} {h : Heap} {Q : AV → Heap → Prop} (hk : trim_sortOf a0 h Q) : ACalls prog n_trim_sortOf [a0] h Q := contract (cf := c_trim_sortOf) tab_ok prog_mixed func196 trim_sortOf_ok (Eq.mpr (trim_sortOf_eq a0 h Q) hk)
def trim_copied_1 (a0 : AV) (h : Heap) (Q : AV → Heap → Prop) : Prop :=
 aggA 3 a0 fun c_1 =>
 retA (.agg [(g c_1 0), (g c_1 1), (g c_1 2)]) h Q
def c_trim_copied_1 : Cfg := ⟨tab, [], [], [], [], []⟩
theorem trim_copied_1_eq (a0 : AV) (h : Heap) (Q : AV → Heap → Prop) : abody prog c_trim_copied_1 f197 [a0] h Q = trim_copied_1 a0 h Q := by kernel_rfl
theorem trim_copied_1_ok : fnB c_trim_copied_1 f197 = true := by kernel_rfl
theorem trim_copied_1_call {a0 : AV} {h : Heap} {Q : AV → Heap → Prop} (hk : trim_copied_1 a0 h Q) : ACalls prog n_trim_copied_1 [a0] h Q := contract (cf := c_trim_copied_1) tab_ok prog_mixed func197 trim_copied_1_ok (Eq.mpr (trim_copied_1_eq a0 h Q) hk)
def trim_without_1 (a0 a1 : AV) (h : Heap) (Q : AV → Heap → Prop) : Prop :=
 aggA 3 a0 fun c_1 =>
 binA .eql (g c_1 0) (I 1) fun x_2 =>
 brA x_2 (loadV a1 h fun x_3 =>
 idxA 1 x_3 (g c_1 1) h fun p_4 =>
 loadV p_4 h fun x_5 =>
 oneA x_5 <|
 retA (.agg [(g c_1 0), x_5, (g c_1 2)]) h Q) (retA (.agg [(g c_1 0), (g c_1 1), (g c_1 2)]) h Q)
def c_trim_without_1 : Cfg := ⟨tab, [], [], [], [], []⟩
theorem trim_without_1_eq (a0 a1 : AV) (h : Heap) (Q : AV → Heap → Prop) : abody prog c_trim_without_1 f198 [a0, a1] h Q = trim_without_1 a0 a1 h Q := by kernel_rfl
theorem trim_without_1_ok : fnB c_trim_without_1 f198 = true := by kernel_rfl
theorem trim_without_1_call {a0 a1 : AV} {h : Heap} {Q : AV → Heap → Prop} (hk : trim_without_1 a0 a1 h Q) : ACalls prog n_trim_without_1 [a0, a1] h Q := contract (cf := c_trim_without_1) tab_ok prog_mixed func198 trim_without_1_ok (Eq.mpr (trim_without_1_eq a0 a1 h Q) hk)
def trim_visit (a0 a1 : AV) (h : Heap) (Q : AV → Heap → Prop) : Prop :=
 oneA a1 <|
 newA 1 [a1] h fun p_1 h_2 =>
 nilA a0 <|
 fldA 1 a0 fun p_3 =>
 loadV p_3 h_2 fun x_4 =>
 lenA x_4 fun x_5 =>
 loopS (fun s_6 h_7 K_8 =>
 binA .lss (g s_6 0) x_5 fun x_9 =>
 brA x_9 (newA 1 [(I 0)] h_7 fun p_10 h_11 =>
 oneA (g s_6 0) <|
 storeG p_10 [(g s_6 0)] h_11 fun h_12 =>
 nilA a0 <|
 fldA 1 a0 fun p_13 =>
 loadV p_13 h_12 fun x_14 =>
 loadV p_10 h_12 fun x_15 =>
 idxA 5 x_14 x_15 h_12 fun p_16 =>
 fldA 2 p_16 fun p_17 =>
 loadG 3 p_17 h_12 fun c_18 =>
 callS prog n_trim_changed [(.agg [(g c_18 0), (g c_18 1), (g c_18 2)]), (.fn 224 [p_1, p_10])] h_12 fun r_19 h_20 =>
 binA .add (g s_6 0) (I 1) fun x_21 =>
 K_8 [x_21] h_20) (retA (.tup []) h_7 Q)) [(I 0)] h_2
def c_trim_visit : Cfg := ⟨tab, [3, 4], [(2, ⟨[10], [], [4, 10, 11, 12, 13, 14, 15, 16, 17, 18, 19, 20, 21, 22, 23]⟩)], [(4, [0, 1, 2, 3, 4, 5, 6, 7, 8, 9])], [16, 17, 18, 20], []⟩
theorem trim_visit_eq (a0 a1 : AV) (h : Heap) (Q : AV → Heap → Prop) : abody prog c_trim_visit f200 [a0, a1] h Q = trim_visit a0 a1 h Q := by kernel_rfl
theorem trim_visit_ok : fnB c_trim_visit f200 = true := by kernel_rfl
theorem trim_visit_call {a0 a1 : AV} {h : Heap} {Q : AV → Heap → Prop} (hk : trim_visit a0 a1 h Q) : ACalls prog n_trim_visit [a0, a1] h Q := contract (cf := c_trim_visit) tab_ok prog_mixed func200 trim_visit_ok (Eq.mpr (trim_visit_eq a0 a1 h Q) hk)
def trim_idle_1 (a0 a1 a2 a3 a4 : AV) (h : Heap) (Q : AV → Heap → Prop) : Prop :=
 aggA 3 a1 fun c_1 =>
 binA .eql (g c_1 0) (I 0) fun x_2 =>
 brA x_2 (loadV a2 h fun x_3 =>
 binA .eql a0 x_3 fun x_4 =>
 brA x_4 (loadV a3 h fun x_5 =>
 binA .eql (g c_1 1) x_5 fun x_6 =>
 brA x_6 (brA x_6 (storeG a4 [(B false)] h fun h_7 =>
 retA (.tup []) h_7 Q) (retA (.tup []) h Q)) (binA .eql (g c_1 0) (I 1) fun x_8 =>
 brA x_8 (loadV a2 h fun x_9 =>
 binA .eql (g c_1 1) x_9 fun x_10 =>
 brA x_10 (lenA (g c_1 2) fun x_11 =>
 loadV a3 h fun x_12 =>
 binA .leq x_11 x_12 fun x_13 =>
 brA x_13 (storeG a4 [(B false)] h fun h_14 =>
 retA (.tup []) h_14 Q) (retA (.tup []) h Q)) (retA (.tup []) h Q)) (retA (.tup []) h Q))) (binA .eql (g c_1 0) (I 1) fun x_15 =>
 brA x_15 (loadV a2 h fun x_16 =>
 binA .eql (g c_1 1) x_16 fun x_17 =>
 brA x_17 (lenA (g c_1 2) fun x_18 =>
 loadV a3 h fun x_19 =>
 binA .leq x_18 x_19 fun x_20 =>
 brA x_20 (storeG a4 [(B false)] h fun h_21 =>
 retA (.tup []) h_21 Q) (retA (.tup []) h Q)) (retA (.tup []) h Q)) (retA (.tup []) h Q))) (binA .eql (g c_1 0) (I 1) fun x_22 =>
 brA x_22 (loadV a2 h fun x_23 =>
 binA .eql (g c_1 1) x_23 fun x_24 =>
 brA x_24 (lenA (g c_1 2) fun x_25 =>
 loadV a3 h fun x_26 =>
 binA .leq x_25 x_26 fun x_27 =>
 brA x_27 (storeG a4 [(B false)] h fun h_28 =>
 retA (.tup []) h_28 Q) (retA (.tup []) h Q)) (retA (.tup []) h Q)) (retA (.tup []) h Q))
def c_trim_idle_1 : Cfg := ⟨tab, [], [], [], [], []⟩
theorem trim_idle_1_eq (a0 a1 a2 a3 a4 : AV) (h : Heap) (Q : AV → Heap → Prop) : abody prog c_trim_idle_1 f201 [a0, a1, a2, a3, a4] h Q = trim_idle_1 a0 a1 a2 a3 a4 h Q := by kernel_rfl
theorem trim_idle_1_ok : fnB c_trim_idle_1 f201 = true := by kernel_rfl
theorem trim_idle_1_call {a0 a1 a2 a3 a4 : AV} {h : Heap} {Q : AV → Heap → Prop} (hk : trim_idle_1 a0 a1 a2 a3 a4 h Q) : ACalls prog n_trim_idle_1 [a0, a1, a2, a3, a4] h Q := contract (cf := c_trim_idle_1) tab_ok prog_mixed func201 trim_idle_1_ok (Eq.mpr (trim_idle_1_eq a0 a1 a2 a3 a4 h Q) hk)
def trim_take_1 (a0 a1 : AV) (h : Heap) (Q : AV → Heap → Prop) : Prop :=
 aggA 3 a0 fun c_1 =>
 binA .eql (g c_1 0) (I 0) fun x_2 =>
 brA x_2 (loadV a1 h fun x_3 =>
 binA .gtr (g c_1 1) x_3 fun x_4 =>
 brA x_4 (binA .sub (g c_1 1) (I 1) fun x_5 =>
 oneA x_5 <|
 retA (.agg [(g c_1 0), x_5, (g c_1 2)]) h Q) (retA (.agg [(g c_1 0), (g c_1 1), (g c_1 2)]) h Q)) (retA (.agg [(g c_1 0), (g c_1 1), (g c_1 2)]) h Q)
def c_trim_take_1 : Cfg := ⟨tab, [], [], [], [], []⟩
theorem trim_take_1_eq (a0 a1 : AV) (h : Heap) (Q : AV → Heap → Prop) : abody prog c_trim_take_1 f202 [a0, a1] h Q = trim_take_1 a0 a1 h Q := by kernel_rfl
theorem trim_take_1_ok : fnB c_trim_take_1 f202 = true := by kernel_rfl
theorem trim_take_1_call {a0 a1 : AV} {h : Heap} {Q : AV → Heap → Prop} (hk : trim_take_1 a0 a1 h Q) : ACalls prog n_trim_take_1 [a0, a1] h Q := contract (cf := c_trim_take_1) tab_ok prog_mixed func202 trim_take_1_ok (Eq.mpr (trim_take_1_eq a0 a1 h Q) hk)
def trim_take_2 (a0 a1 a2 : AV) (h : Heap) (Q : AV → Heap → Prop) : Prop :=
 aggA 3 a0 fun c_1 =>
 binA .eql (g c_1 0) (I 1) fun x_2 =>
 brA x_2 (loadV a1 h fun x_3 =>
 binA .eql (g c_1 1) x_3 fun x_4 =>
 brA x_4 (loadV a2 h fun x_5 =>
 sliceA 3 (g c_1 2) none (some x_5) fun x_6 =>
 loadV a2 h fun x_7 =>
 binA .add x_7 (I 1) fun x_8 =>
 sliceA 3 (g c_1 2) (some x_8) none fun x_9 =>
 appA 3 40 .e0 x_6 h fun x_10 h_11 =>
(TV.av (g c_1 2) = TV.av (g c_1 2)) ∧
(loadV a2 h_11 fun x_12 =>
 TV.av x_12 = TV.av x_7) ∧
 appA 3 40 x_10 x_9 h_11 fun x_13 h_14 =>
 oneA x_13 <|
 retA (.agg [(g c_1 0), (g c_1 1), x_13]) h_14 Q) (retA (.agg [(g c_1 0), (g c_1 1), (g c_1 2)]) h Q)) (retA (.agg [(g c_1 0), (g c_1 1), (g c_1 2)]) h Q)
def c_trim_take_2 : Cfg := ⟨tab, [], [], [(2, [0, 1, 2, 3, 4, 6, 7, 8, 9, 10, 5, 22, 23, 11, 12, 13])], [16, 17, 21, 22], []⟩
theorem trim_take_2_eq (a0 a1 a2 : AV) (h : Heap) (Q : AV → Heap → Prop) : abody prog c_trim_take_2 f203 [a0, a1, a2] h Q = trim_take_2 a0 a1 a2 h Q := by kernel_rfl
theorem trim_take_2_ok : fnB c_trim_take_2 f203 = true := by kernel_rfl
theorem trim_take_2_call {a0 a1 a2 : AV} {h : Heap} {Q : AV → Heap → Prop} (hk : trim_take_2 a0 a1 a2 h Q) : ACalls prog n_trim_take_2 [a0, a1, a2] h Q := contract (cf := c_trim_take_2) tab_ok prog_mixed func203 trim_take_2_ok (Eq.mpr (trim_take_2_eq a0 a1 a2 h Q) hk)
def trim_single_1 (a0 a1 a2 a3 a4 a5 a6 : AV) (h : Heap) (Q : AV → Heap → Prop) : Prop :=
 aggA 3 a1 fun c_1 =>
 binA .eql (g c_1 0) (I 1) fun x_2 =>
 brA x_2 (loadV a2 h fun x_3 =>
 binA .eql (g c_1 1) x_3 fun x_4 =>
 brA x_4 (loadV a3 h fun x_5 =>
 binA .add x_5 (I 1) fun x_6 =>
 oneA x_6 <|
 storeG a3 [x_6] h fun h_7 =>
 oneA a0 <|
 storeG a4 [a0] h_7 fun h_8 =>
 lenA (g c_1 2) fun x_9 =>
 loadV a5 h_8 fun x_10 =>
 nilA x_10 <|
 fldA 1 x_10 fun p_11 =>
 loadV p_11 h_8 fun x_12 =>
 loadV a2 h_8 fun x_13 =>
 idxA 5 x_12 x_13 h_8 fun p_14 =>
 fldA 1 p_14 fun p_15 =>
 fldA 0 p_15 fun p_16 =>
 loadV p_16 h_8 fun x_17 =>
 lenA x_17 fun x_18 =>
 binA .eql x_9 x_18 fun x_19 =>
 brA x_19 (loadV a2 h_8 fun x_20 =>
 binA .neq a0 x_20 fun x_21 =>
 oneA x_21 <|
 storeG a6 [x_21] h_8 fun h_22 =>
 retA (.tup []) h_22 Q) (storeG a6 [(B false)] h_8 fun h_23 =>
 retA (.tup []) h_23 Q)) (retA (.tup []) h Q)) (retA (.tup []) h Q)
def c_trim_single_1 : Cfg := ⟨tab, [], [], [(4, [0, 1, 2, 3, 4, 5, 6, 7, 8, 9, 10, 11, 12, 13, 14, 15, 16, 17, 18, 19])], [22, 24, 27, 28, 29, 32, 37], [35]⟩
theorem trim_single_1_eq (a0 a1 a2 a3 a4 a5 a6 : AV) (h : Heap) (Q : AV → Heap → Prop) : abody prog c_trim_single_1 f204 [a0, a1, a2, a3, a4, a5, a6] h Q = trim_single_1 a0 a1 a2 a3 a4 a5 a6 h Q := by kernel_rfl
theorem trim_single_1_ok : fnB c_trim_single_1 f204 = true := by kernel_rfl
theorem trim_single_1_call {a0 a1 a2 a3 a4 a5 a6 : AV} {h : Heap} {Q : AV → Heap → Prop} (hk : trim_single_1 a0 a1 a2 a3 a4 a5 a6 h Q) : ACalls prog n_trim_single_1 [a0, a1, a2, a3, a4, a5, a6] h Q := contract (cf := c_trim_single_1) tab_ok prog_mixed func204 trim_single_1_ok (Eq.mpr (trim_single_1_eq a0 a1 a2 a3 a4 a5 a6 h Q) hk)
def trim_visit_1 (a0 a1 a2 : AV) (h : Heap) (Q : AV → Heap → Prop) : Prop :=
 aggA 3 a0 fun c_1 =>
 loadV a1 h fun x_2 =>
 loadV a2 h fun x_3 =>
 callV prog x_2 [x_3, (.agg [(g c_1 0), (g c_1 1), (g c_1 2)])] h fun r_4 h_5 =>
 retA (.agg [(g c_1 0), (g c_1 1), (g c_1 2)]) h_5 Q
def c_trim_visit_1 : Cfg := ⟨tab, [], [], [], [], []⟩
theorem trim_visit_1_eq (a0 a1 a2 : AV) (h : Heap) (Q : AV → Heap → Prop) : abody prog c_trim_visit_1 f224 [a0, a1, a2] h Q = trim_visit_1 a0 a1 a2 h Q := by kernel_rfl
theorem trim_visit_1_ok : fnB c_trim_visit_1 f224 = true := by kernel_rfl
theorem trim_visit_1_call {a0 a1 a2 : AV} {h : Heap} {Q : AV → Heap → Prop} (hk : trim_visit_1 a0 a1 a2 h Q) : ACalls prog n_trim_visit_1 [a0, a1, a2] h Q := contract (cf := c_trim_visit_1) tab_ok prog_mixed func224 trim_visit_1_ok (Eq.mpr (trim_visit_1_eq a0 a1 a2 h Q) hk)
end Am
