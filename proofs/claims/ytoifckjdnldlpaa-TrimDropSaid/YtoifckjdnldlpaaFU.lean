/- Short texts of functions, made by program; each with its contract's rule. -/
import Derived.Test.YtoifckjdnldlpaaG0
set_option linter.unusedVariables false
set_option linter.unusedSimpArgs false
namespace Am
open Go Go.Proofs.Try
def vref23_Reach (a0 : AV) (h : Heap) (Q : AV → Heap → Prop) : Prop :=
 aggA 2 a0 fun c_1 =>
 callS prog n_vref03_Is [(.agg [(g c_1 0), (g c_1 1)])] h fun r_2 h_3 =>
 notA r_2 fun x_4 =>
 brA x_4 (retA (.tup [(.agg [.e0, .e0]), (I 7)]) h_3 Q) (lenA (g c_1 1) fun x_5 =>
(callS prog n_vref19_Reach [(.agg [(g c_1 0), (g c_1 1)])] h_3 fun r_6 h_7 =>
 mkA 1 8 [(I 0)] x_5 x_5 h_7 fun x_8 h_9 =>
 callS prog n_vref23_keep [(.agg [(g c_1 0), (g c_1 1)]), r_6, x_8] h_9 fun r_10 h_11 =>
 aggA 2 r_10 fun c_12 =>
 retA (.tup [(.agg [(g c_12 0), (g c_12 1)]), (I 0)]) h_11 Q) ∧
(mkA 1 8 [(I 0)] x_5 x_5 h_3 fun x_13 h_14 =>
 callS prog n_vref19_Reach [(.agg [(g c_1 0), (g c_1 1)])] h_14 fun r_15 h_16 =>
 callS prog n_vref23_keep [(.agg [(g c_1 0), (g c_1 1)]), r_15, x_13] h_16 fun r_17 h_18 =>
 aggA 2 r_17 fun c_19 =>
 retA (.tup [(.agg [(g c_19 0), (g c_19 1)]), (I 0)]) h_18 Q))
def c_vref23_Reach : Cfg := ⟨tab, [], [], [(3, [0, 1, 3, 4, 5, 10, 2, 6, 7, 8, 9, 10, 6, 2, 7, 8, 9])], [], []⟩
theorem vref23_Reach_eq (a0 : AV) (h : Heap) (Q : AV → Heap → Prop) : abody prog c_vref23_Reach f47 [a0] h Q = vref23_Reach a0 h Q := by kernel_rfl
theorem vref23_Reach_ok : fnB c_vref23_Reach f47 = true := by kernel_rfl
theorem vref23_Reach_call {a0 : AV} {h : Heap} {Q : AV → Heap → Prop} (hk : vref23_Reach a0 h Q) : ACalls prog n_vref23_Reach [a0] h Q := contract (cf := c_vref23_Reach) tab_ok prog_mixed func47 vref23_Reach_ok (Eq.mpr (vref23_Reach_eq a0 h Q) hk)
def vref23_Merge (a0 : AV) (h : Heap) (Q : AV → Heap → Prop) : Prop :=
 aggA 2 a0 fun c_1 =>
 callS prog n_vref03_Is [(.agg [(g c_1 0), (g c_1 1)])] h fun r_2 h_3 =>
 notA r_2 fun x_4 =>
 brA x_4 (retA (.tup [(.agg [.e0, .e0]), (I 7)]) h_3 Q) (callS prog n_vref03_Copy [(.agg [(g c_1 0), (g c_1 1)])] h_3 fun r_5 h_6 =>
 aggA 2 r_5 fun c_7 =>
 callS prog n_vref23_pair [(.agg [(g c_7 0), (g c_7 1)])] h_6 fun r_8 h_9 =>
 tupA r_8 0 fun x_10 =>
 tupA r_8 1 fun x_11 =>
 tupA r_8 2 fun x_12 =>
 loopS (fun s_13 h_14 K_15 =>
 brA (g s_13 2) (lenA (g s_13 4) fun x_16 =>
 lenA (g s_13 4) fun x_17 =>
(callS prog n_vref23_all [x_16] h_14 fun r_18 h_19 =>
 mkA 1 8 [(I 0)] x_17 x_17 h_19 fun x_20 h_21 =>
 idxA 1 r_18 (g s_13 1) h_21 fun p_22 =>
 storeG p_22 [(B false)] h_21 fun h_23 =>
 idxA 1 x_20 (g s_13 1) h_23 fun p_24 =>
 oneA (g s_13 0) <|
 storeG p_24 [(g s_13 0)] h_23 fun h_25 =>
 callS prog n_vref23_keep [(.agg [(g s_13 3), (g s_13 4)]), r_18, x_20] h_25 fun r_26 h_27 =>
 aggA 2 r_26 fun c_28 =>
 callS prog n_vref23_pair [(.agg [(g c_28 0), (g c_28 1)])] h_27 fun r_29 h_30 =>
 tupA r_29 0 fun x_31 =>
 tupA r_29 1 fun x_32 =>
 tupA r_29 2 fun x_33 =>
 K_15 [x_31, x_32, x_33, (g c_28 0), (g c_28 1)] h_30) ∧
(mkA 1 8 [(I 0)] x_17 x_17 h_14 fun x_34 h_35 =>
 callS prog n_vref23_all [x_16] h_35 fun r_36 h_37 =>
 idxA 1 r_36 (g s_13 1) h_37 fun p_38 =>
 storeG p_38 [(B false)] h_37 fun h_39 =>
 idxA 1 x_34 (g s_13 1) h_39 fun p_40 =>
 oneA (g s_13 0) <|
 storeG p_40 [(g s_13 0)] h_39 fun h_41 =>
 callS prog n_vref23_keep [(.agg [(g s_13 3), (g s_13 4)]), r_36, x_34] h_41 fun r_42 h_43 =>
 aggA 2 r_42 fun c_44 =>
 callS prog n_vref23_pair [(.agg [(g c_44 0), (g c_44 1)])] h_43 fun r_45 h_46 =>
 tupA r_45 0 fun x_47 =>
 tupA r_45 1 fun x_48 =>
 tupA r_45 2 fun x_49 =>
 K_15 [x_47, x_48, x_49, (g c_44 0), (g c_44 1)] h_46)) (retA (.tup [(.agg [(g s_13 3), (g s_13 4)]), (I 0)]) h_14 Q)) [x_10, x_11, x_12, (g c_7 0), (g c_7 1)] h_9)
def c_vref23_Merge : Cfg := ⟨tab, [], [(5, ⟨[4, 5, 6], [1], [4, 5, 6, 7, 8, 21, 22, 23, 24, 25, 26, 27, 28, 29, 30, 31, 32, 33, 34, 35, 36, 37, 38, 39, 40, 41, 42, 43, 44, 45, 46]⟩)], [(7, [0, 1, 2, 4, 5, 6, 10, 3, 8, 7, 9, 10, 7, 3, 8, 9])], [], []⟩
theorem vref23_Merge_eq (a0 : AV) (h : Heap) (Q : AV → Heap → Prop) : abody prog c_vref23_Merge f50 [a0] h Q = vref23_Merge a0 h Q := by kernel_rfl
theorem vref23_Merge_ok : fnB c_vref23_Merge f50 = true := by kernel_rfl
theorem vref23_Merge_call {a0 : AV} {h : Heap} {Q : AV → Heap → Prop} (hk : vref23_Merge a0 h Q) : ACalls prog n_vref23_Merge [a0] h Q := contract (cf := c_vref23_Merge) tab_ok prog_mixed func50 vref23_Merge_ok (Eq.mpr (vref23_Merge_eq a0 h Q) hk)
def vref23_Drop (a0 : AV) (h : Heap) (Q : AV → Heap → Prop) : Prop :=
 aggA 2 a0 fun c_1 =>
 callS prog n_vref03_Is [(.agg [(g c_1 0), (g c_1 1)])] h fun r_2 h_3 =>
 notA r_2 fun x_4 =>
 brA x_4 (retA (.tup [(.agg [.e0, .e0]), (I 7)]) h_3 Q) (callS prog n_vref03_Copy [(.agg [(g c_1 0), (g c_1 1)])] h_3 fun r_5 h_6 =>
 aggA 2 r_5 fun c_7 =>
 callS prog n_vref23_free [(.agg [(g c_7 0), (g c_7 1)])] h_6 fun r_8 h_9 =>
 tupA r_8 0 fun x_10 =>
 tupA r_8 1 fun x_11 =>
 tupA r_8 2 fun x_12 =>
 loopS (fun s_13 h_14 K_15 =>
 brA (g s_13 2) (callS prog n_vref23_dropped [(.agg [(g s_13 3), (g s_13 4)]), (g s_13 0), (g s_13 1)] h_14 fun r_16 h_17 =>
 aggA 2 r_16 fun c_18 =>
 callS prog n_vref23_free [(.agg [(g c_18 0), (g c_18 1)])] h_17 fun r_19 h_20 =>
 tupA r_19 0 fun x_21 =>
 tupA r_19 1 fun x_22 =>
 tupA r_19 2 fun x_23 =>
 K_15 [x_21, x_22, x_23, (g c_18 0), (g c_18 1)] h_20) (retA (.tup [(.agg [(g s_13 3), (g s_13 4)]), (I 0)]) h_14 Q)) [x_10, x_11, x_12, (g c_7 0), (g c_7 1)] h_9)
def c_vref23_Drop : Cfg := ⟨tab, [], [(5, ⟨[4, 5, 6], [1], [4, 5, 6, 19, 20, 21, 22, 23, 24, 25, 26, 27, 28, 29]⟩)], [], [], []⟩
theorem vref23_Drop_eq (a0 : AV) (h : Heap) (Q : AV → Heap → Prop) : abody prog c_vref23_Drop f52 [a0] h Q = vref23_Drop a0 h Q := by kernel_rfl
theorem vref23_Drop_ok : fnB c_vref23_Drop f52 = true := by kernel_rfl
theorem vref23_Drop_call {a0 : AV} {h : Heap} {Q : AV → Heap → Prop} (hk : vref23_Drop a0 h Q) : ACalls prog n_vref23_Drop [a0] h Q := contract (cf := c_vref23_Drop) tab_ok prog_mixed func52 vref23_Drop_ok (Eq.mpr (vref23_Drop_eq a0 h Q) hk)
def vref23_keep (a0 a1 a2 : AV) (h : Heap) (Q : AV → Heap → Prop) : Prop :=
 aggA 2 a0 fun c_1 =>
 lenA (g c_1 1) fun x_2 =>
 mkA 1 8 [(I 0)] x_2 x_2 h fun x_3 h_4 =>
 lenA (g c_1 1) fun x_5 =>
 loopS (fun s_6 h_7 K_8 =>
 binA .lss (g s_6 1) x_5 fun x_9 =>
 brA x_9 (idxA 1 a1 (g s_6 1) h_7 fun p_10 =>
 loadV p_10 h_7 fun x_11 =>
 brA x_11 (idxA 1 x_3 (g s_6 1) h_7 fun p_12 =>
 oneA (g s_6 0) <|
 storeG p_12 [(g s_6 0)] h_7 fun h_13 =>
 binA .add (g s_6 0) (I 1) fun x_14 =>
 binA .add (g s_6 1) (I 1) fun x_15 =>
 K_8 [x_14, x_15] h_13) (binA .add (g s_6 1) (I 1) fun x_16 =>
 K_8 [(g s_6 0), x_16] h_7)) (lenA (g c_1 1) fun x_17 =>
 loopS (fun s_18 h_19 K_20 =>
 binA .lss (g s_18 0) x_17 fun x_21 =>
 brA x_21 (idxA 1 a1 (g s_18 0) h_19 fun p_22 =>
 loadV p_22 h_19 fun x_23 =>
 notA x_23 fun x_24 =>
 brA x_24 (idxA 1 a2 (g s_18 0) h_19 fun p_25 =>
 loadV p_25 h_19 fun x_26 =>
 idxA 1 x_3 x_26 h_19 fun p_27 =>
 loadV p_27 h_19 fun x_28 =>
 idxA 1 x_3 (g s_18 0) h_19 fun p_29 =>
 oneA x_28 <|
 storeG p_29 [x_28] h_19 fun h_30 =>
 binA .add (g s_18 0) (I 1) fun x_31 =>
 K_20 [x_31] h_30) (binA .add (g s_18 0) (I 1) fun x_32 =>
 K_20 [x_32] h_19)) (appA 2 24 .e0 (g c_1 0) h_19 fun x_33 h_34 =>
 oneA x_33 <|
 lenA (g c_1 1) fun x_35 =>
 loopS (fun s_36 h_37 K_38 =>
 binA .lss (g s_36 0) x_35 fun x_39 =>
 brA x_39 (idxA 5 (g c_1 1) (g s_36 0) h_37 fun p_40 =>
 loadG 5 p_40 h_37 fun c_41 =>
 idxA 1 a1 (g s_36 0) h_37 fun p_42 =>
 loadV p_42 h_37 fun x_43 =>
 brA x_43 (callS prog n_vref01_Copy [(.agg [(g c_41 1)])] h_37 fun r_44 h_45 =>
 callS prog n_vref23_renumber [(.agg [(g c_41 2), (g c_41 3), (g c_41 4)]), x_3] h_45 fun r_46 h_47 =>
 oneA (g c_41 0) <|
 aggA 1 r_44 fun c_48 =>
 aggA 3 r_46 fun c_49 =>
 appA 5 80 (g s_36 2) (.rs 5 [[(g c_41 0), (g c_48 0), (g c_49 0), (g c_49 1), (g c_49 2)]]) h_47 fun x_50 h_51 =>
 oneA x_50 <|
 binA .add (g s_36 0) (I 1) fun x_52 =>
 K_38 [x_52, (g s_36 1), x_50] h_51) (binA .add (g s_36 0) (I 1) fun x_53 =>
 K_38 [x_53, (g s_36 1), (g s_36 2)] h_37)) (retA (.agg [(g s_36 1), (g s_36 2)]) h_37 Q)) [(I 0), x_33, .e0] h_34)) [(I 0)] h_7)) [(I 0), (I 0)] h_4
def c_vref23_keep : Cfg := ⟨tab, [], [(4, ⟨[8, 21], [], [8, 9, 21, 22, 23, 24, 25, 26, 27, 28, 29, 30, 31, 32, 33, 34]⟩), (11, ⟨[38], [], [10, 38, 39, 40, 41, 42, 43, 44, 45, 46, 47, 48, 49, 50, 51, 52, 53, 54, 55, 56]⟩), (18, ⟨[65], [11], [12, 13, 65, 66, 67, 68, 69, 70, 71, 72, 73, 74, 75, 76, 77, 78, 79, 80, 81, 82, 83, 84, 85, 86, 87, 88, 89]⟩)], [(21, [0, 1, 2, 3, 4, 5, 7, 8, 9, 6, 10, 11, 12, 13, 14, 15])], [79], []⟩
theorem vref23_keep_eq (a0 a1 a2 : AV) (h : Heap) (Q : AV → Heap → Prop) : abody prog c_vref23_keep f111 [a0, a1, a2] h Q = vref23_keep a0 a1 a2 h Q := by kernel_rfl
theorem vref23_keep_ok : fnB c_vref23_keep f111 = true := by kernel_rfl
theorem vref23_keep_call {a0 a1 a2 : AV} {h : Heap} {Q : AV → Heap → Prop} (hk : vref23_keep a0 a1 a2 h Q) : ACalls prog n_vref23_keep [a0, a1, a2] h Q := contract (cf := c_vref23_keep) tab_ok prog_mixed func111 vref23_keep_ok (Eq.mpr (vref23_keep_eq a0 a1 a2 h Q) hk)
def vref23_pair (a0 : AV) (h : Heap) (Q : AV → Heap → Prop) : Prop :=
 aggA 2 a0 fun c_1 =>
 lenA (g c_1 1) fun x_2 =>
 loopS (fun s_3 h_4 K_5 =>
 binA .lss (g s_3 0) x_2 fun x_6 =>
 brA x_6 (loopS (fun s_7 h_8 K_9 =>
 binA .lss (g s_7 0) (g s_3 0) fun x_10 =>
 brA x_10 (idxA 5 (g c_1 1) (g s_7 0) h_8 fun p_11 =>
 fldA 1 p_11 fun p_12 =>
 loadG 1 p_12 h_8 fun c_13 =>
 idxA 5 (g c_1 1) (g s_3 0) h_8 fun p_14 =>
 fldA 1 p_14 fun p_15 =>
 loadG 1 p_15 h_8 fun c_16 =>
 callS prog n_vref01_Equal [(.agg [(g c_13 0)]), (.agg [(g c_16 0)])] h_8 fun r_17 h_18 =>
 brA r_17 (idxA 5 (g c_1 1) (g s_7 0) h_18 fun p_19 =>
 fldA 2 p_19 fun p_20 =>
 loadG 3 p_20 h_18 fun c_21 =>
 idxA 5 (g c_1 1) (g s_3 0) h_18 fun p_22 =>
 fldA 2 p_22 fun p_23 =>
 loadG 3 p_23 h_18 fun c_24 =>
 callS prog n_vref02_Equal [(.agg [(g c_21 0), (g c_21 1), (g c_21 2)]), (.agg [(g c_24 0), (g c_24 1), (g c_24 2)])] h_18 fun r_25 h_26 =>
 brA r_25 (retA (.tup [(g s_7 0), (g s_3 0), (B true)]) h_26 Q) (binA .add (g s_7 0) (I 1) fun x_27 =>
 K_9 [x_27] h_26)) (binA .add (g s_7 0) (I 1) fun x_28 =>
 K_9 [x_28] h_18)) (binA .add (g s_3 0) (I 1) fun x_29 =>
 K_5 [x_29] h_8)) [(I 0)] h_4) (retA (.tup [(I 0), (I 0), (B false)]) h_4 Q)) [(I 0)] h
def c_vref23_pair : Cfg := ⟨tab, [], [(2, ⟨[10], [], [2, 3, 4, 5, 6, 10, 11, 12, 13, 14, 15, 16, 17, 18, 19, 20, 21, 22, 23, 24, 25, 26, 27, 28, 29, 30, 31, 32, 33, 34, 35, 36, 37, 38, 39, 40, 41, 42, 43, 44, 45, 46, 47, 48]⟩), (5, ⟨[14], [], [2, 3, 4, 6, 14, 15, 16, 17, 18, 19, 20, 21, 22, 23, 24, 25, 26, 27, 28, 29, 30, 31, 32, 33, 34, 35, 36, 37, 38, 39, 40, 41, 42, 43, 44, 45, 46, 47]⟩)], [(7, [0, 1, 2, 3, 4, 5, 6, 7, 8, 9, 10, 11, 12, 13, 14, 15, 16, 17, 18, 19, 20, 21, 22, 23, 24, 25, 26, 27])], [18, 20, 22, 24, 26, 28, 32, 34, 36, 38, 40, 42], [30]⟩
theorem vref23_pair_eq (a0 : AV) (h : Heap) (Q : AV → Heap → Prop) : abody prog c_vref23_pair f115 [a0] h Q = vref23_pair a0 h Q := by kernel_rfl
theorem vref23_pair_ok : fnB c_vref23_pair f115 = true := by kernel_rfl
theorem vref23_pair_call {a0 : AV} {h : Heap} {Q : AV → Heap → Prop} (hk : vref23_pair a0 h Q) : ACalls prog n_vref23_pair [a0] h Q := contract (cf := c_vref23_pair) tab_ok prog_mixed func115 vref23_pair_ok (Eq.mpr (vref23_pair_eq a0 h Q) hk)
def vref23_all (a0 : AV) (h : Heap) (Q : AV → Heap → Prop) : Prop :=
 mkA 1 1 [(B false)] a0 a0 h fun x_1 h_2 =>
 lenA x_1 fun x_3 =>
 loopS (fun s_4 h_5 K_6 =>
 binA .lss (g s_4 0) x_3 fun x_7 =>
 brA x_7 (idxA 1 x_1 (g s_4 0) h_5 fun p_8 =>
 storeG p_8 [(B true)] h_5 fun h_9 =>
 binA .add (g s_4 0) (I 1) fun x_10 =>
 K_6 [x_10] h_9) (retA x_1 h_5 Q)) [(I 0)] h_2
def c_vref23_all : Cfg := ⟨tab, [], [(3, ⟨[9], [], [4, 9, 10, 11, 12, 13, 14, 15]⟩)], [], [], []⟩
theorem vref23_all_eq (a0 : AV) (h : Heap) (Q : AV → Heap → Prop) : abody prog c_vref23_all f116 [a0] h Q = vref23_all a0 h Q := by kernel_rfl
theorem vref23_all_ok : fnB c_vref23_all f116 = true := by kernel_rfl
theorem vref23_all_call {a0 : AV} {h : Heap} {Q : AV → Heap → Prop} (hk : vref23_all a0 h Q) : ACalls prog n_vref23_all [a0] h Q := contract (cf := c_vref23_all) tab_ok prog_mixed func116 vref23_all_ok (Eq.mpr (vref23_all_eq a0 h Q) hk)
def vref23_free (a0 : AV) (h : Heap) (Q : AV → Heap → Prop) : Prop :=
 aggA 2 a0 fun c_1 =>
 lenA (g c_1 1) fun x_2 =>
 loopS (fun s_3 h_4 K_5 =>
 binA .lss (g s_3 0) x_2 fun x_6 =>
 brA x_6 (idxA 5 (g c_1 1) (g s_3 0) h_4 fun p_7 =>
 loadG 5 p_7 h_4 fun c_8 =>
 lenA (g c_8 1) fun x_9 =>
 loopS (fun s_10 h_11 K_12 =>
 binA .lss (g s_10 0) x_9 fun x_13 =>
 brA x_13 (callS prog n_vref23_idle [(.agg [(g c_1 0), (g c_1 1)]), (g s_3 0), (g s_10 0)] h_11 fun r_14 h_15 =>
 brA r_14 (retA (.tup [(g s_3 0), (g s_10 0), (B true)]) h_15 Q) (binA .add (g s_10 0) (I 1) fun x_16 =>
 K_12 [x_16] h_15)) (binA .add (g s_3 0) (I 1) fun x_17 =>
 K_5 [x_17] h_11)) [(I 0)] h_4) (retA (.tup [(I 0), (I 0), (B false)]) h_4 Q)) [(I 0)] h
def c_vref23_free : Cfg := ⟨tab, [], [(2, ⟨[11], [], [2, 3, 4, 5, 6, 7, 11, 12, 13, 14, 15, 16, 17, 18, 19, 20, 21, 22, 23, 24, 25, 26, 27, 28, 29, 30]⟩), (5, ⟨[20], [], [2, 3, 4, 7, 20, 21, 22, 23, 24, 25, 26, 27, 28, 29]⟩)], [], [], []⟩
theorem vref23_free_eq (a0 : AV) (h : Heap) (Q : AV → Heap → Prop) : abody prog c_vref23_free f118 [a0] h Q = vref23_free a0 h Q := by kernel_rfl
theorem vref23_free_ok : fnB c_vref23_free f118 = true := by kernel_rfl
theorem vref23_free_call {a0 : AV} {h : Heap} {Q : AV → Heap → Prop} (hk : vref23_free a0 h Q) : ACalls prog n_vref23_free [a0] h Q := contract (cf := c_vref23_free) tab_ok prog_mixed func118 vref23_free_ok (Eq.mpr (vref23_free_eq a0 h Q) hk)
def vref23_dropped (a0 a1 a2 : AV) (h : Heap) (Q : AV → Heap → Prop) : Prop :=
 aggA 2 a0 fun c_1 =>
 callS prog n_vref03_Copy [(.agg [(g c_1 0), (g c_1 1)])] h fun r_2 h_3 =>
 aggA 2 r_2 fun c_4 =>
 lenA (g c_1 1) fun x_5 =>
 loopS (fun s_6 h_7 K_8 =>
 binA .lss (g s_6 0) x_5 fun x_9 =>
 brA x_9 (idxA 5 (g c_1 1) (g s_6 0) h_7 fun p_10 =>
 loadG 5 p_10 h_7 fun c_11 =>
 binA .eql (g s_6 0) a1 fun x_12 =>
 callS prog n_vref23_without [(.agg [(g c_11 2), (g c_11 3), (g c_11 4)]), a1, a2, x_12] h_7 fun r_13 h_14 =>
 idxA 5 (g c_4 1) (g s_6 0) h_14 fun p_15 =>
 fldA 2 p_15 fun p_16 =>
 aggA 3 r_13 fun c_17 =>
 storeG p_16 [(g c_17 0), (g c_17 1), (g c_17 2)] h_14 fun h_18 =>
 binA .add (g s_6 0) (I 1) fun x_19 =>
 K_8 [x_19] h_18) (idxA 5 (g c_4 1) a1 h_7 fun p_20 =>
 fldA 1 p_20 fun p_21 =>
 fldA 0 p_21 fun p_22 =>
 loadV p_22 h_7 fun x_23 =>
 sliceA 1 x_23 none (some a2) fun x_24 =>
 binA .add a2 (I 1) fun x_25 =>
 sliceA 1 x_23 (some x_25) none fun x_26 =>
 appA 1 24 .e0 x_24 h_7 fun x_27 h_28 =>
 appA 1 24 x_27 x_26 h_28 fun x_29 h_30 =>
 idxA 5 (g c_4 1) a1 h_30 fun p_31 =>
 fldA 1 p_31 fun p_32 =>
 fldA 0 p_32 fun p_33 =>
 oneA x_29 <|
 storeG p_33 [x_29] h_30 fun h_34 =>
 retA (.agg [(g c_4 0), (g c_4 1)]) h_34 Q)) [(I 0)] h_3
def c_vref23_dropped : Cfg := ⟨tab, [], [(3, ⟨[16], [], [8, 9, 16, 17, 18, 19, 20, 21, 22, 23, 24, 25, 26, 27, 28, 29, 30, 31, 32, 33, 34]⟩)], [(5, [0, 1, 2, 3, 4, 5, 6, 7, 8, 9, 10, 11, 12, 13]), (8, [0, 1, 2, 3, 4, 5, 6, 8, 9, 10, 11, 7, 12, 13, 14, 15, 16])], [25, 32, 55], []⟩
theorem vref23_dropped_eq (a0 a1 a2 : AV) (h : Heap) (Q : AV → Heap → Prop) : abody prog c_vref23_dropped f119 [a0, a1, a2] h Q = vref23_dropped a0 a1 a2 h Q := by kernel_rfl
theorem vref23_dropped_ok : fnB c_vref23_dropped f119 = true := by kernel_rfl
theorem vref23_dropped_call {a0 a1 a2 : AV} {h : Heap} {Q : AV → Heap → Prop} (hk : vref23_dropped a0 a1 a2 h Q) : ACalls prog n_vref23_dropped [a0, a1, a2] h Q := contract (cf := c_vref23_dropped) tab_ok prog_mixed func119 vref23_dropped_ok (Eq.mpr (vref23_dropped_eq a0 a1 a2 h Q) hk)
def vref23_renumber (a0 a1 : AV) (h : Heap) (Q : AV → Heap → Prop) : Prop :=
 aggA 3 a0 fun c_1 =>
 oneA (g c_1 0) <|
 oneA (g c_1 1) <|
 binA .eql (g c_1 0) (I 1) fun x_2 =>
 brA x_2 (idxA 1 a1 (g c_1 1) h fun p_3 =>
 loadV p_3 h fun x_4 =>
 oneA x_4 <|
 lenA (g c_1 2) fun x_5 =>
 loopS (fun s_6 h_7 K_8 =>
 binA .lss (g s_6 0) x_5 fun x_9 =>
 brA x_9 (idxA 3 (g c_1 2) (g s_6 0) h_7 fun p_10 =>
 loadG 3 p_10 h_7 fun c_11 =>
 callS prog n_vref23_renumber [(.agg [(g c_11 0), (g c_11 1), (g c_11 2)]), a1] h_7 fun r_12 h_13 =>
 aggA 3 r_12 fun c_14 =>
 appA 3 40 (g s_6 3) (.rs 3 [[(g c_14 0), (g c_14 1), (g c_14 2)]]) h_13 fun x_15 h_16 =>
 oneA x_15 <|
 binA .add (g s_6 0) (I 1) fun x_17 =>
 K_8 [x_17, (g s_6 1), (g s_6 2), x_15] h_16) (retA (.agg [(g s_6 1), (g s_6 2), (g s_6 3)]) h_7 Q)) [(I 0), (g c_1 0), x_4, .e0] h) (lenA (g c_1 2) fun x_18 =>
 loopS (fun s_19 h_20 K_21 =>
 binA .lss (g s_19 0) x_18 fun x_22 =>
 brA x_22 (idxA 3 (g c_1 2) (g s_19 0) h_20 fun p_23 =>
 loadG 3 p_23 h_20 fun c_24 =>
 callS prog n_vref23_renumber [(.agg [(g c_24 0), (g c_24 1), (g c_24 2)]), a1] h_20 fun r_25 h_26 =>
 aggA 3 r_25 fun c_27 =>
 appA 3 40 (g s_19 3) (.rs 3 [[(g c_27 0), (g c_27 1), (g c_27 2)]]) h_26 fun x_28 h_29 =>
 oneA x_28 <|
 binA .add (g s_19 0) (I 1) fun x_30 =>
 K_21 [x_30, (g s_19 1), (g s_19 2), x_28] h_29) (retA (.agg [(g s_19 1), (g s_19 2), (g s_19 3)]) h_20 Q)) [(I 0), (g c_1 0), (g c_1 1), .e0] h)
def c_vref23_renumber : Cfg := ⟨tab, [], [(5, ⟨[25], [5], [7, 25, 26, 27, 28, 29, 30, 31, 32, 33, 34, 35, 36, 37]⟩)], [(7, [0, 1, 2, 3, 4, 5, 6, 7, 8])], [31], []⟩
theorem vref23_renumber_eq (a0 a1 : AV) (h : Heap) (Q : AV → Heap → Prop) : abody prog c_vref23_renumber f158 [a0, a1] h Q = vref23_renumber a0 a1 h Q := by kernel_rfl
theorem vref23_renumber_ok : fnB c_vref23_renumber f158 = true := by kernel_rfl
theorem vref23_renumber_call {a0 a1 : AV} {h : Heap} {Q : AV → Heap → Prop} (hk : vref23_renumber a0 a1 h Q) : ACalls prog n_vref23_renumber [a0, a1] h Q := contract (cf := c_vref23_renumber) tab_ok prog_mixed func158 vref23_renumber_ok (Eq.mpr (vref23_renumber_eq a0 a1 h Q) hk)
def vref23_idle (a0 a1 a2 : AV) (h : Heap) (Q : AV → Heap → Prop) : Prop :=
 aggA 2 a0 fun c_1 =>
 binA .eql a1 (I 0) fun x_2 =>
 brA x_2 (retA (B false) h Q) (idxA 5 (g c_1 1) a1 h fun p_3 =>
 fldA 2 p_3 fun p_4 =>
 loadG 3 p_4 h fun c_5 =>
 callS prog n_vref02_Count [(.agg [(g c_5 0), (g c_5 1), (g c_5 2)]), a2] h fun r_6 h_7 =>
 binA .gtr r_6 (I 0) fun x_8 =>
 brA x_8 (retA (B false) h_7 Q) (lenA (g c_1 1) fun x_9 =>
 loopS (fun s_10 h_11 K_12 =>
 binA .lss (g s_10 0) x_9 fun x_13 =>
 brA x_13 (idxA 5 (g c_1 1) (g s_10 0) h_11 fun p_14 =>
 loadG 5 p_14 h_11 fun c_15 =>
 callS prog n_vref23_filled [(.agg [(g c_15 2), (g c_15 3), (g c_15 4)]), a1, a2] h_11 fun r_16 h_17 =>
 notA r_16 fun x_18 =>
 brA x_18 (retA (B false) h_17 Q) (binA .add (g s_10 0) (I 1) fun x_19 =>
 K_12 [x_19] h_17)) (retA (B true) h_11 Q)) [(I 0)] h_7))
def c_vref23_idle : Cfg := ⟨tab, [], [(4, ⟨[25], [], [6, 8, 25, 26, 27, 28, 29, 30, 31, 32, 33, 34, 35]⟩)], [], [], []⟩
theorem vref23_idle_eq (a0 a1 a2 : AV) (h : Heap) (Q : AV → Heap → Prop) : abody prog c_vref23_idle f165 [a0, a1, a2] h Q = vref23_idle a0 a1 a2 h Q := by kernel_rfl
theorem vref23_idle_ok : fnB c_vref23_idle f165 = true := by kernel_rfl
theorem vref23_idle_call {a0 a1 a2 : AV} {h : Heap} {Q : AV → Heap → Prop} (hk : vref23_idle a0 a1 a2 h Q) : ACalls prog n_vref23_idle [a0, a1, a2] h Q := contract (cf := c_vref23_idle) tab_ok prog_mixed func165 vref23_idle_ok (Eq.mpr (vref23_idle_eq a0 a1 a2 h Q) hk)
def vref23_without (a0 a1 a2 a3 : AV) (h : Heap) (Q : AV → Heap → Prop) : Prop :=
 aggA 3 a0 fun c_1 =>
 oneA (g c_1 0) <|
 oneA (g c_1 1) <|
 brA a3 (binA .eql (g c_1 0) (I 0) fun x_2 =>
 brA x_2 (binA .gtr (g c_1 1) a2 fun x_3 =>
 brA x_3 (binA .sub (g c_1 1) (I 1) fun x_4 =>
 oneA x_4 <|
 lenA (g c_1 2) fun x_5 =>
 loopS (fun s_6 h_7 K_8 =>
 binA .lss (g s_6 0) x_5 fun x_9 =>
 brA x_9 (idxA 3 (g c_1 2) (g s_6 0) h_7 fun p_10 =>
 loadG 3 p_10 h_7 fun c_11 =>
 binA .neq (g c_1 0) (I 1) fun x_12 =>
 brA x_12 (callS prog n_vref23_without [(.agg [(g c_11 0), (g c_11 1), (g c_11 2)]), a1, a2, a3] h_7 fun r_13 h_14 =>
 aggA 3 r_13 fun c_15 =>
 appA 3 40 (g s_6 3) (.rs 3 [[(g c_15 0), (g c_15 1), (g c_15 2)]]) h_14 fun x_16 h_17 =>
 oneA x_16 <|
 binA .add (g s_6 0) (I 1) fun x_18 =>
 K_8 [x_18, (g s_6 1), (g s_6 2), x_16] h_17) (binA .neq (g c_1 1) a1 fun x_19 =>
 brA x_19 (callS prog n_vref23_without [(.agg [(g c_11 0), (g c_11 1), (g c_11 2)]), a1, a2, a3] h_7 fun r_20 h_21 =>
 aggA 3 r_20 fun c_22 =>
 appA 3 40 (g s_6 3) (.rs 3 [[(g c_22 0), (g c_22 1), (g c_22 2)]]) h_21 fun x_23 h_24 =>
 oneA x_23 <|
 binA .add (g s_6 0) (I 1) fun x_25 =>
 K_8 [x_25, (g s_6 1), (g s_6 2), x_23] h_24) (binA .neq (g s_6 0) a2 fun x_26 =>
 brA x_26 (callS prog n_vref23_without [(.agg [(g c_11 0), (g c_11 1), (g c_11 2)]), a1, a2, a3] h_7 fun r_27 h_28 =>
 aggA 3 r_27 fun c_29 =>
 appA 3 40 (g s_6 3) (.rs 3 [[(g c_29 0), (g c_29 1), (g c_29 2)]]) h_28 fun x_30 h_31 =>
 oneA x_30 <|
 binA .add (g s_6 0) (I 1) fun x_32 =>
 K_8 [x_32, (g s_6 1), (g s_6 2), x_30] h_31) (binA .add (g s_6 0) (I 1) fun x_33 =>
 K_8 [x_33, (g s_6 1), (g s_6 2), (g s_6 3)] h_7)))) (retA (.agg [(g s_6 1), (g s_6 2), (g s_6 3)]) h_7 Q)) [(I 0), (g c_1 0), x_4, .e0] h) (lenA (g c_1 2) fun x_34 =>
 loopS (fun s_35 h_36 K_37 =>
 binA .lss (g s_35 0) x_34 fun x_38 =>
 brA x_38 (idxA 3 (g c_1 2) (g s_35 0) h_36 fun p_39 =>
 loadG 3 p_39 h_36 fun c_40 =>
 binA .neq (g c_1 0) (I 1) fun x_41 =>
 brA x_41 (callS prog n_vref23_without [(.agg [(g c_40 0), (g c_40 1), (g c_40 2)]), a1, a2, a3] h_36 fun r_42 h_43 =>
 aggA 3 r_42 fun c_44 =>
 appA 3 40 (g s_35 3) (.rs 3 [[(g c_44 0), (g c_44 1), (g c_44 2)]]) h_43 fun x_45 h_46 =>
 oneA x_45 <|
 binA .add (g s_35 0) (I 1) fun x_47 =>
 K_37 [x_47, (g s_35 1), (g s_35 2), x_45] h_46) (binA .neq (g c_1 1) a1 fun x_48 =>
 brA x_48 (callS prog n_vref23_without [(.agg [(g c_40 0), (g c_40 1), (g c_40 2)]), a1, a2, a3] h_36 fun r_49 h_50 =>
 aggA 3 r_49 fun c_51 =>
 appA 3 40 (g s_35 3) (.rs 3 [[(g c_51 0), (g c_51 1), (g c_51 2)]]) h_50 fun x_52 h_53 =>
 oneA x_52 <|
 binA .add (g s_35 0) (I 1) fun x_54 =>
 K_37 [x_54, (g s_35 1), (g s_35 2), x_52] h_53) (binA .neq (g s_35 0) a2 fun x_55 =>
 brA x_55 (callS prog n_vref23_without [(.agg [(g c_40 0), (g c_40 1), (g c_40 2)]), a1, a2, a3] h_36 fun r_56 h_57 =>
 aggA 3 r_56 fun c_58 =>
 appA 3 40 (g s_35 3) (.rs 3 [[(g c_58 0), (g c_58 1), (g c_58 2)]]) h_57 fun x_59 h_60 =>
 oneA x_59 <|
 binA .add (g s_35 0) (I 1) fun x_61 =>
 K_37 [x_61, (g s_35 1), (g s_35 2), x_59] h_60) (binA .add (g s_35 0) (I 1) fun x_62 =>
 K_37 [x_62, (g s_35 1), (g s_35 2), (g s_35 3)] h_36)))) (retA (.agg [(g s_35 1), (g s_35 2), (g s_35 3)]) h_36 Q)) [(I 0), (g c_1 0), (g c_1 1), .e0] h)) (lenA (g c_1 2) fun x_63 =>
 loopS (fun s_64 h_65 K_66 =>
 binA .lss (g s_64 0) x_63 fun x_67 =>
 brA x_67 (idxA 3 (g c_1 2) (g s_64 0) h_65 fun p_68 =>
 loadG 3 p_68 h_65 fun c_69 =>
 binA .neq (g c_1 0) (I 1) fun x_70 =>
 brA x_70 (callS prog n_vref23_without [(.agg [(g c_69 0), (g c_69 1), (g c_69 2)]), a1, a2, a3] h_65 fun r_71 h_72 =>
 aggA 3 r_71 fun c_73 =>
 appA 3 40 (g s_64 3) (.rs 3 [[(g c_73 0), (g c_73 1), (g c_73 2)]]) h_72 fun x_74 h_75 =>
 oneA x_74 <|
 binA .add (g s_64 0) (I 1) fun x_76 =>
 K_66 [x_76, (g s_64 1), (g s_64 2), x_74] h_75) (binA .neq (g c_1 1) a1 fun x_77 =>
 brA x_77 (callS prog n_vref23_without [(.agg [(g c_69 0), (g c_69 1), (g c_69 2)]), a1, a2, a3] h_65 fun r_78 h_79 =>
 aggA 3 r_78 fun c_80 =>
 appA 3 40 (g s_64 3) (.rs 3 [[(g c_80 0), (g c_80 1), (g c_80 2)]]) h_79 fun x_81 h_82 =>
 oneA x_81 <|
 binA .add (g s_64 0) (I 1) fun x_83 =>
 K_66 [x_83, (g s_64 1), (g s_64 2), x_81] h_82) (binA .neq (g s_64 0) a2 fun x_84 =>
 brA x_84 (callS prog n_vref23_without [(.agg [(g c_69 0), (g c_69 1), (g c_69 2)]), a1, a2, a3] h_65 fun r_85 h_86 =>
 aggA 3 r_85 fun c_87 =>
 appA 3 40 (g s_64 3) (.rs 3 [[(g c_87 0), (g c_87 1), (g c_87 2)]]) h_86 fun x_88 h_89 =>
 oneA x_88 <|
 binA .add (g s_64 0) (I 1) fun x_90 =>
 K_66 [x_90, (g s_64 1), (g s_64 2), x_88] h_89) (binA .add (g s_64 0) (I 1) fun x_91 =>
 K_66 [x_91, (g s_64 1), (g s_64 2), (g s_64 3)] h_65)))) (retA (.agg [(g s_64 1), (g s_64 2), (g s_64 3)]) h_65 Q)) [(I 0), (g c_1 0), (g c_1 1), .e0] h)) (lenA (g c_1 2) fun x_92 =>
 loopS (fun s_93 h_94 K_95 =>
 binA .lss (g s_93 0) x_92 fun x_96 =>
 brA x_96 (idxA 3 (g c_1 2) (g s_93 0) h_94 fun p_97 =>
 loadG 3 p_97 h_94 fun c_98 =>
 binA .neq (g c_1 0) (I 1) fun x_99 =>
 brA x_99 (callS prog n_vref23_without [(.agg [(g c_98 0), (g c_98 1), (g c_98 2)]), a1, a2, a3] h_94 fun r_100 h_101 =>
 aggA 3 r_100 fun c_102 =>
 appA 3 40 (g s_93 3) (.rs 3 [[(g c_102 0), (g c_102 1), (g c_102 2)]]) h_101 fun x_103 h_104 =>
 oneA x_103 <|
 binA .add (g s_93 0) (I 1) fun x_105 =>
 K_95 [x_105, (g s_93 1), (g s_93 2), x_103] h_104) (binA .neq (g c_1 1) a1 fun x_106 =>
 brA x_106 (callS prog n_vref23_without [(.agg [(g c_98 0), (g c_98 1), (g c_98 2)]), a1, a2, a3] h_94 fun r_107 h_108 =>
 aggA 3 r_107 fun c_109 =>
 appA 3 40 (g s_93 3) (.rs 3 [[(g c_109 0), (g c_109 1), (g c_109 2)]]) h_108 fun x_110 h_111 =>
 oneA x_110 <|
 binA .add (g s_93 0) (I 1) fun x_112 =>
 K_95 [x_112, (g s_93 1), (g s_93 2), x_110] h_111) (binA .neq (g s_93 0) a2 fun x_113 =>
 brA x_113 (callS prog n_vref23_without [(.agg [(g c_98 0), (g c_98 1), (g c_98 2)]), a1, a2, a3] h_94 fun r_114 h_115 =>
 aggA 3 r_114 fun c_116 =>
 appA 3 40 (g s_93 3) (.rs 3 [[(g c_116 0), (g c_116 1), (g c_116 2)]]) h_115 fun x_117 h_118 =>
 oneA x_117 <|
 binA .add (g s_93 0) (I 1) fun x_119 =>
 K_95 [x_119, (g s_93 1), (g s_93 2), x_117] h_118) (binA .add (g s_93 0) (I 1) fun x_120 =>
 K_95 [x_120, (g s_93 1), (g s_93 2), (g s_93 3)] h_94)))) (retA (.agg [(g s_93 1), (g s_93 2), (g s_93 3)]) h_94 Q)) [(I 0), (g c_1 0), (g c_1 1), .e0] h)
def c_vref23_without : Cfg := ⟨tab, [], [(5, ⟨[36], [9], [10, 11, 36, 37, 38, 39, 40, 41, 42, 43, 44, 45, 46, 47, 48, 49, 50, 51, 52, 53, 54, 55, 56, 57, 58, 59, 60, 61, 62, 63, 64, 65]⟩)], [(8, [0, 1, 2, 3, 4, 5, 6, 7, 8, 9, 10])], [57], []⟩
theorem vref23_without_eq (a0 a1 a2 a3 : AV) (h : Heap) (Q : AV → Heap → Prop) : abody prog c_vref23_without f166 [a0, a1, a2, a3] h Q = vref23_without a0 a1 a2 a3 h Q := by kernel_rfl
theorem vref23_without_ok : fnB c_vref23_without f166 = true := by kernel_rfl
theorem vref23_without_call {a0 a1 a2 a3 : AV} {h : Heap} {Q : AV → Heap → Prop} (hk : vref23_without a0 a1 a2 a3 h Q) : ACalls prog n_vref23_without [a0, a1, a2, a3] h Q := contract (cf := c_vref23_without) tab_ok prog_mixed func166 vref23_without_ok (Eq.mpr (vref23_without_eq a0 a1 a2 a3 h Q) hk)
def vref23_filled (a0 a1 a2 : AV) (h : Heap) (Q : AV → Heap → Prop) : Prop :=
 aggA 3 a0 fun c_1 =>
 binA .eql (g c_1 0) (I 1) fun x_2 =>
 brA x_2 (binA .eql (g c_1 1) a1 fun x_3 =>
 brA x_3 (lenA (g c_1 2) fun x_4 =>
 binA .leq x_4 a2 fun x_5 =>
 brA x_5 (retA (B false) h Q) (lenA (g c_1 2) fun x_6 =>
 loopS (fun s_7 h_8 K_9 =>
 binA .lss (g s_7 0) x_6 fun x_10 =>
 brA x_10 (idxA 3 (g c_1 2) (g s_7 0) h_8 fun p_11 =>
 loadG 3 p_11 h_8 fun c_12 =>
 callS prog n_vref23_filled [(.agg [(g c_12 0), (g c_12 1), (g c_12 2)]), a1, a2] h_8 fun r_13 h_14 =>
 notA r_13 fun x_15 =>
 brA x_15 (retA (B false) h_14 Q) (binA .add (g s_7 0) (I 1) fun x_16 =>
 K_9 [x_16] h_14)) (retA (B true) h_8 Q)) [(I 0)] h)) (lenA (g c_1 2) fun x_17 =>
 loopS (fun s_18 h_19 K_20 =>
 binA .lss (g s_18 0) x_17 fun x_21 =>
 brA x_21 (idxA 3 (g c_1 2) (g s_18 0) h_19 fun p_22 =>
 loadG 3 p_22 h_19 fun c_23 =>
 callS prog n_vref23_filled [(.agg [(g c_23 0), (g c_23 1), (g c_23 2)]), a1, a2] h_19 fun r_24 h_25 =>
 notA r_24 fun x_26 =>
 brA x_26 (retA (B false) h_25 Q) (binA .add (g s_18 0) (I 1) fun x_27 =>
 K_20 [x_27] h_25)) (retA (B true) h_19 Q)) [(I 0)] h)) (lenA (g c_1 2) fun x_28 =>
 loopS (fun s_29 h_30 K_31 =>
 binA .lss (g s_29 0) x_28 fun x_32 =>
 brA x_32 (idxA 3 (g c_1 2) (g s_29 0) h_30 fun p_33 =>
 loadG 3 p_33 h_30 fun c_34 =>
 callS prog n_vref23_filled [(.agg [(g c_34 0), (g c_34 1), (g c_34 2)]), a1, a2] h_30 fun r_35 h_36 =>
 notA r_35 fun x_37 =>
 brA x_37 (retA (B false) h_36 Q) (binA .add (g s_29 0) (I 1) fun x_38 =>
 K_31 [x_38] h_36)) (retA (B true) h_30 Q)) [(I 0)] h)
def c_vref23_filled : Cfg := ⟨tab, [], [(4, ⟨[28], [], [6, 8, 28, 29, 30, 31, 32, 33, 34, 35, 36, 37]⟩)], [], [], []⟩
theorem vref23_filled_eq (a0 a1 a2 : AV) (h : Heap) (Q : AV → Heap → Prop) : abody prog c_vref23_filled f199 [a0, a1, a2] h Q = vref23_filled a0 a1 a2 h Q := by kernel_rfl
theorem vref23_filled_ok : fnB c_vref23_filled f199 = true := by kernel_rfl
theorem vref23_filled_call {a0 a1 a2 : AV} {h : Heap} {Q : AV → Heap → Prop} (hk : vref23_filled a0 a1 a2 h Q) : ACalls prog n_vref23_filled [a0, a1, a2] h Q := contract (cf := c_vref23_filled) tab_ok prog_mixed func199 vref23_filled_ok (Eq.mpr (vref23_filled_eq a0 a1 a2 h Q) hk)
def vlaw23_heavy (a0 : AV) (h : Heap) (Q : AV → Heap → Prop) : Prop :=
 aggA 2 a0 fun c_1 =>
 callS prog n_vref03_Is [(.agg [(g c_1 0), (g c_1 1)])] h fun r_2 h_3 =>
 notA r_2 fun x_4 =>
 brA x_4 (retA (B false) h_3 Q) (lenA (g c_1 1) fun x_5 =>
 loopS (fun s_6 h_7 K_8 =>
 binA .lss (g s_6 1) x_5 fun x_9 =>
 brA x_9 (idxA 5 (g c_1 1) (g s_6 1) h_7 fun p_10 =>
 loadG 5 p_10 h_7 fun c_11 =>
 callS prog n_vref02_Nodes [(.agg [(g c_11 2), (g c_11 3), (g c_11 4)]), (I 400)] h_7 fun r_12 h_13 =>
 binA .add (g s_6 0) r_12 fun x_14 =>
 binA .add (g s_6 1) (I 1) fun x_15 =>
 K_8 [x_14, x_15] h_13) (binA .gtr (g s_6 0) (I 400) fun x_16 =>
 retA x_16 h_7 Q)) [(I 0), (I 0)] h_3)
def c_vlaw23_heavy : Cfg := ⟨tab, [], [(5, ⟨[3, 12], [], [3, 5, 12, 13, 14, 15, 16, 17, 18, 19, 20, 21]⟩)], [], [], []⟩
theorem vlaw23_heavy_eq (a0 : AV) (h : Heap) (Q : AV → Heap → Prop) : abody prog c_vlaw23_heavy f45 [a0] h Q = vlaw23_heavy a0 h Q := by kernel_rfl
theorem vlaw23_heavy_ok : fnB c_vlaw23_heavy f45 = true := by kernel_rfl
theorem vlaw23_heavy_call {a0 : AV} {h : Heap} {Q : AV → Heap → Prop} (hk : vlaw23_heavy a0 h Q) : ACalls prog n_vlaw23_heavy [a0] h Q := contract (cf := c_vlaw23_heavy) tab_ok prog_mixed func45 vlaw23_heavy_ok (Eq.mpr (vlaw23_heavy_eq a0 h Q) hk)
def vlaw23_alive (h : Heap) (Q : AV → Heap → Prop) : Prop :=
 callS prog n_vref03_Get [(S { data := #[115, 121, 109, 98, 111, 108, 32, 97, 32, 50, 10, 115, 121, 109, 98, 111, 108, 32, 98, 32, 49, 10, 115, 121, 109, 98, 111, 108, 32, 99, 32, 48, 10, 102, 117, 110, 32, 115, 32, 58, 32, 111, 32, 61, 32, 102, 32, 35, 99, 10, 102, 117, 110, 32, 102, 32, 58, 32, 111, 32, 62, 32, 111, 32, 61, 32, 35, 97, 32, 36, 48, 32, 40, 102, 32, 40, 35, 98, 32, 36, 48, 41, 41, 10] })] h fun r_1 h_2 =>
 tupA r_1 0 fun x_3 =>
 tupA r_1 1 fun x_4 =>
 aggA 2 x_3 fun c_5 =>
 callS prog n_trim_All [(.agg [(g c_5 0), (g c_5 1)])] h_2 fun r_6 h_7 =>
 tupA r_6 0 fun x_8 =>
 tupA r_6 1 fun x_9 =>
 aggA 2 x_8 fun c_10 =>
 callS prog n_vref03_Get [(S { data := #[115, 121, 109, 98, 111, 108, 32, 98, 32, 49, 10, 115, 121, 109, 98, 111, 108, 32, 99, 32, 48, 10, 102, 117, 110, 32, 115, 32, 58, 32, 111, 32, 61, 32, 103, 32, 35, 99, 32, 35, 99, 10, 102, 117, 110, 32, 103, 32, 58, 32, 111, 32, 62, 32, 111, 32, 62, 32, 111, 32, 61, 32, 35, 98, 32, 36, 48, 10] })] h_7 fun r_11 h_12 =>
 tupA r_11 0 fun x_13 =>
 tupA r_11 1 fun x_14 =>
 aggA 2 x_13 fun c_15 =>
 callS prog n_trim_All [(.agg [(g c_15 0), (g c_15 1)])] h_12 fun r_16 h_17 =>
 tupA r_16 0 fun x_18 =>
 tupA r_16 1 fun x_19 =>
 aggA 2 x_18 fun c_20 =>
 binA .eql x_9 (I 0) fun x_21 =>
 brA x_21 (callS prog n_vref03_Same [(.agg [(g c_5 0), (g c_5 1)]), (.agg [(g c_10 0), (g c_10 1)])] h_17 fun r_22 h_23 =>
 brA r_22 (binA .eql x_19 (I 0) fun x_24 =>
 brA x_24 (lenA (g c_20 1) fun x_25 =>
 binA .eql x_25 (I 1) fun x_26 =>
 brA x_26 (idxA 5 (g c_20 1) (I 0) h_23 fun p_27 =>
 fldA 2 p_27 fun p_28 =>
 fldA 2 p_28 fun p_29 =>
 loadV p_29 h_23 fun x_30 =>
 lenA x_30 fun x_31 =>
 binA .eql x_31 (I 1) fun x_32 =>
 retA x_32 h_23 Q) (retA (B false) h_23 Q)) (retA (B false) h_23 Q)) (retA (B false) h_23 Q)) (retA (B false) h_17 Q)
def c_vlaw23_alive : Cfg := ⟨tab, [], [], [], [], []⟩
theorem vlaw23_alive_eq (h : Heap) (Q : AV → Heap → Prop) : abody prog c_vlaw23_alive f46 [] h Q = vlaw23_alive h Q := by kernel_rfl
theorem vlaw23_alive_ok : fnB c_vlaw23_alive f46 = true := by kernel_rfl
theorem vlaw23_alive_call {h : Heap} {Q : AV → Heap → Prop} (hk : vlaw23_alive h Q) : ACalls prog n_vlaw23_alive [] h Q := contract (cf := c_vlaw23_alive) tab_ok prog_mixed func46 vlaw23_alive_ok (Eq.mpr (vlaw23_alive_eq h Q) hk)
def vlaw23_is (a0 a1 a2 a3 : AV) (h : Heap) (Q : AV → Heap → Prop) : Prop :=
 aggA 2 a0 fun c_1 =>
 aggA 2 a2 fun c_2 =>
 binA .neq a1 (I 0) fun x_3 =>
 brA x_3 (binA .eql a1 a3 fun x_4 =>
 brA x_4 (lenA (g c_1 0) fun x_5 =>
 binA .eql x_5 (I 0) fun x_6 =>
 brA x_6 (lenA (g c_1 1) fun x_7 =>
 binA .eql x_7 (I 0) fun x_8 =>
 retA x_8 h Q) (retA (B false) h Q)) (retA (B false) h Q)) (binA .eql a3 (I 0) fun x_9 =>
 brA x_9 (callS prog n_vref03_Same [(.agg [(g c_1 0), (g c_1 1)]), (.agg [(g c_2 0), (g c_2 1)])] h fun r_10 h_11 =>
 retA r_10 h_11 Q) (retA (B false) h Q))
def c_vlaw23_is : Cfg := ⟨tab, [], [], [], [], []⟩
theorem vlaw23_is_eq (a0 a1 a2 a3 : AV) (h : Heap) (Q : AV → Heap → Prop) : abody prog c_vlaw23_is f49 [a0, a1, a2, a3] h Q = vlaw23_is a0 a1 a2 a3 h Q := by kernel_rfl
theorem vlaw23_is_ok : fnB c_vlaw23_is f49 = true := by kernel_rfl
theorem vlaw23_is_call {a0 a1 a2 a3 : AV} {h : Heap} {Q : AV → Heap → Prop} (hk : vlaw23_is a0 a1 a2 a3 h Q) : ACalls prog n_vlaw23_is [a0, a1, a2, a3] h Q := contract (cf := c_vlaw23_is) tab_ok prog_mixed func49 vlaw23_is_ok (Eq.mpr (vlaw23_is_eq a0 a1 a2 a3 h Q) hk)
def vlaw23_TrimReach (a0 : AV) (h : Heap) (Q : AV → Heap → Prop) : Prop :=
 aggA 2 a0 fun c_1 =>
 callS prog n_vlaw23_heavy [(.agg [(g c_1 0), (g c_1 1)])] h fun r_2 h_3 =>
 brA r_2 (callS prog n_vlaw23_alive [] h_3 fun r_4 h_5 =>
 retA r_4 h_5 Q) (callS prog n_vref23_Reach [(.agg [(g c_1 0), (g c_1 1)])] h_3 fun r_6 h_7 =>
 tupA r_6 0 fun x_8 =>
 tupA r_6 1 fun x_9 =>
 aggA 2 x_8 fun c_10 =>
 callS prog n_trim_Reach [(.agg [(g c_1 0), (g c_1 1)])] h_7 fun r_11 h_12 =>
 tupA r_11 0 fun x_13 =>
 tupA r_11 1 fun x_14 =>
 aggA 2 x_13 fun c_15 =>
 callS prog n_vlaw23_is [(.agg [(g c_15 0), (g c_15 1)]), x_14, (.agg [(g c_10 0), (g c_10 1)]), x_9] h_12 fun r_16 h_17 =>
 brA r_16 (callS prog n_vlaw23_alive [] h_17 fun r_18 h_19 =>
 retA r_18 h_19 Q) (retA (B false) h_17 Q))
def c_vlaw23_TrimReach : Cfg := ⟨tab, [], [], [], [], []⟩
theorem vlaw23_TrimReach_eq (a0 : AV) (h : Heap) (Q : AV → Heap → Prop) : abody prog c_vlaw23_TrimReach f11 [a0] h Q = vlaw23_TrimReach a0 h Q := by kernel_rfl
theorem vlaw23_TrimReach_ok : fnB c_vlaw23_TrimReach f11 = true := by kernel_rfl
theorem vlaw23_TrimReach_call {a0 : AV} {h : Heap} {Q : AV → Heap → Prop} (hk : vlaw23_TrimReach a0 h Q) : ACalls prog n_vlaw23_TrimReach [a0] h Q := contract (cf := c_vlaw23_TrimReach) tab_ok prog_mixed func11 vlaw23_TrimReach_ok (Eq.mpr (vlaw23_TrimReach_eq a0 h Q) hk)
def vlaw23_TrimMerge (a0 : AV) (h : Heap) (Q : AV → Heap → Prop) : Prop :=
 aggA 2 a0 fun c_1 =>
 callS prog n_vlaw23_heavy [(.agg [(g c_1 0), (g c_1 1)])] h fun r_2 h_3 =>
 brA r_2 (callS prog n_vlaw23_alive [] h_3 fun r_4 h_5 =>
 retA r_4 h_5 Q) (callS prog n_vref23_Merge [(.agg [(g c_1 0), (g c_1 1)])] h_3 fun r_6 h_7 =>
 tupA r_6 0 fun x_8 =>
 tupA r_6 1 fun x_9 =>
 aggA 2 x_8 fun c_10 =>
 callS prog n_trim_Merge [(.agg [(g c_1 0), (g c_1 1)])] h_7 fun r_11 h_12 =>
 tupA r_11 0 fun x_13 =>
 tupA r_11 1 fun x_14 =>
 aggA 2 x_13 fun c_15 =>
 callS prog n_vlaw23_is [(.agg [(g c_15 0), (g c_15 1)]), x_14, (.agg [(g c_10 0), (g c_10 1)]), x_9] h_12 fun r_16 h_17 =>
 brA r_16 (callS prog n_vlaw23_alive [] h_17 fun r_18 h_19 =>
 retA r_18 h_19 Q) (retA (B false) h_17 Q))
def c_vlaw23_TrimMerge : Cfg := ⟨tab, [], [], [], [], []⟩
theorem vlaw23_TrimMerge_eq (a0 : AV) (h : Heap) (Q : AV → Heap → Prop) : abody prog c_vlaw23_TrimMerge f12 [a0] h Q = vlaw23_TrimMerge a0 h Q := by kernel_rfl
theorem vlaw23_TrimMerge_ok : fnB c_vlaw23_TrimMerge f12 = true := by kernel_rfl
theorem vlaw23_TrimMerge_call {a0 : AV} {h : Heap} {Q : AV → Heap → Prop} (hk : vlaw23_TrimMerge a0 h Q) : ACalls prog n_vlaw23_TrimMerge [a0] h Q := contract (cf := c_vlaw23_TrimMerge) tab_ok prog_mixed func12 vlaw23_TrimMerge_ok (Eq.mpr (vlaw23_TrimMerge_eq a0 h Q) hk)
def vlaw23_TrimDrop (a0 : AV) (h : Heap) (Q : AV → Heap → Prop) : Prop :=
 aggA 2 a0 fun c_1 =>
 callS prog n_vlaw23_heavy [(.agg [(g c_1 0), (g c_1 1)])] h fun r_2 h_3 =>
 brA r_2 (callS prog n_vlaw23_alive [] h_3 fun r_4 h_5 =>
 retA r_4 h_5 Q) (callS prog n_vref23_Drop [(.agg [(g c_1 0), (g c_1 1)])] h_3 fun r_6 h_7 =>
 tupA r_6 0 fun x_8 =>
 tupA r_6 1 fun x_9 =>
 aggA 2 x_8 fun c_10 =>
 callS prog n_trim_Drop [(.agg [(g c_1 0), (g c_1 1)])] h_7 fun r_11 h_12 =>
 tupA r_11 0 fun x_13 =>
 tupA r_11 1 fun x_14 =>
 aggA 2 x_13 fun c_15 =>
 callS prog n_vlaw23_is [(.agg [(g c_15 0), (g c_15 1)]), x_14, (.agg [(g c_10 0), (g c_10 1)]), x_9] h_12 fun r_16 h_17 =>
 brA r_16 (callS prog n_vlaw23_alive [] h_17 fun r_18 h_19 =>
 retA r_18 h_19 Q) (retA (B false) h_17 Q))
def c_vlaw23_TrimDrop : Cfg := ⟨tab, [], [], [], [], []⟩
theorem vlaw23_TrimDrop_eq (a0 : AV) (h : Heap) (Q : AV → Heap → Prop) : abody prog c_vlaw23_TrimDrop f13 [a0] h Q = vlaw23_TrimDrop a0 h Q := by kernel_rfl
theorem vlaw23_TrimDrop_ok : fnB c_vlaw23_TrimDrop f13 = true := by kernel_rfl
theorem vlaw23_TrimDrop_call {a0 : AV} {h : Heap} {Q : AV → Heap → Prop} (hk : vlaw23_TrimDrop a0 h Q) : ACalls prog n_vlaw23_TrimDrop [a0] h Q := contract (cf := c_vlaw23_TrimDrop) tab_ok prog_mixed func13 vlaw23_TrimDrop_ok (Eq.mpr (vlaw23_TrimDrop_eq a0 h Q) hk)
end Am
